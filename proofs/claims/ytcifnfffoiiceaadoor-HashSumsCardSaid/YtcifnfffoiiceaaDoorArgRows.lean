/-
  An argument that is a slice of slices of bytes reads as parts.
-/
import Derived.Test.YtcifnfffoiiceaaDoorArgs
import Derived.Test.YtcifnfffoiiceaaDoorRefSum
import Derived.Deep.Matrix
namespace Go.Proofs.YtcifnfffoiiceaaDoor
open Go.RowKit Go.Deep Go.WideShapes Go.ChangeShapes
set_option linter.unusedVariables false

theorem addr_plain {w : World} {x : Addr} {v : Value} (h : w.cell? (x.add 0) = some v) : ∃ b off, x = ⟨b, off, none⟩ := by
  obtain ⟨b, off, spot⟩ := x
  have hspot : spot = none := by simpa [Addr.add] using World.cell?_spot h
  exact ⟨b, off, by rw [hspot]⟩
theorem weights_mem_all {H : Type} {P : Program} {e : TypeId} : ∀ {ds : List (DataW H)} {i : Nat} {d : DataW H}, ds[i]? = some d → ∀ n ∈ d.weights P e, n ∈ DataW.weightsAll P e ds
  | [], i, d, h, n, hn => by simp at h
  | d0 :: r, 0, d, h, n, hn => by
    obtain rfl : d0 = d := by simpa using h
    unfold DataW.weightsAll
    exact List.mem_append_left _ hn
  | d0 :: r, i + 1, d, h, n, hn => by
    unfold DataW.weightsAll
    exact List.mem_append_right _ (weights_mem_all (by simpa using h) n hn)
theorem arg_rows {H : Type} {enc : TypeId × Value → H} {P : Program} {W : World} {base : Nat} {held : Bool} {t e q : TypeId} {a : Option Addr} {len cap : Nat} {d : DataW H} {ps : List MemPlace} {ts : List TypeId} {ds : List (DataW H)} {j : Nat}
    (hsz : (DataW.weightsEach P ts ds).all (· ≤ reachBytes) = true) (ht : ts[j]? = some t) (hd : ds[j]? = some d) (hB : P.bytesOf q = 1) (hu : P.underlying t = some (.slice e)) (he : P.underlying e = some (.slice q)) (hq : P.underlying q = some (.int .u8)) (ce : P.cellsOf e = 1) (cq : P.cellsOf q = 1)
    (h : DataW.Trod enc P W base (fun _ => true) held t (.slice a len cap) d ps) : ∃ vs Ls, PartsIn W (.slice a len cap) vs Ls ∧ (∀ L ∈ Ls, Bytes L) ∧ ∀ L ∈ Ls, L.length ≤ 140737488351232 := by
  obtain ⟨fuel, hf⟩ := h
  rcases open_int_rows hu he hq ce cq hf with ⟨hcs, _⟩ | ⟨x, l, c, A, L, C, Z, hcs, _, hl, hm, hxe, hr⟩
  · simp [Value.cells] at hcs
    obtain ⟨rfl, rfl, rfl⟩ := hcs
    exact ⟨[], [], ⟨SliceOf.nil, rfl, fun i x L hx => by simp at hx⟩, (fun L hL => by cases hL), (fun L hL => by cases hL)⟩
  · simp [Value.cells] at hcs
    obtain ⟨rfl, rfl, rfl⟩ := hcs
    let V : Nat → Value := fun r => .slice (A r) (L r) (C r)
    let B : Nat → List Nat := fun r => ((Z r).take (L r)).map Int.toNat
    have lB : ∀ r, r < cap → (B r).length = L r := fun r hrc => by
      obtain ⟨_, h1, _, h3, _⟩ := hr r hrc
      show (((Z r).take (L r)).map Int.toNat).length = L r
      rw [List.length_map, List.length_take]
      omega
    have bB : ∀ r, r < cap → Bytes (B r) := fun r hrc c hc => by
      obtain ⟨_, _, _, _, hwf, _⟩ := hr r hrc
      obtain ⟨n, hn, rfl⟩ := List.mem_map.1 hc
      have hb := bounds_u8 (hwf n (List.mem_of_mem_take hn))
      omega
    have zB : ∀ r, r < len → (B r).length ≤ 140737488351232 := fun r hrl => by
      obtain ⟨_, h1, _, h3, _, h0, _⟩ := hr r (by omega)
      rw [lB r (by omega)]
      cases hA : A r with
      | none => have := h0 hA; omega
      | some y =>
        obtain ⟨rfl, _⟩ := Prod.mk.inj hxe
        have hmem : (L r + (C r - L r)) ∈ DataW.weightsEach P ts ds := by
          refine DataW.weights_mem_each ht hd _ ?_
          unfold DataW.weights
          rw [hu]
          refine List.mem_cons_of_mem _ (List.mem_append_left _ ?_)
          refine weights_mem_all (i := r) (d := intRow .u8 (A r) (L r) (Z r)) (by rw [List.getElem?_map, List.getElem?_range hrl]; rfl) _ ?_
          rw [hA]
          unfold intRow DataW.weights
          rw [he]
          refine List.mem_cons.2 (.inl ?_)
          rw [hB]
          simp [lits]
          omega
        have := List.all_eq_true.1 hsz _ hmem
        have h7 : reachBytes = 140737488351232 := rfl
        simp at this
        omega
    have sB : ∀ r, r < cap → SliceOf u8c W (V r) (B r) := fun r hrc => by
      obtain ⟨_, h1, h2, h3, hwf, h0, h6⟩ := hr r hrc
      by_cases hC : C r = 0
      · have hL : L r = 0 := by omega
        have hBn : B r = [] := List.eq_nil_of_length_eq_zero (by rw [lB r hrc, hL])
        refine ⟨A r, C r, by show Value.slice (A r) (L r) (C r) = _; rw [hBn, hL]; rfl, by rw [hBn]; exact Nat.zero_le _, h2, fun _ => hC, .inl hBn⟩
      · obtain ⟨y, hy⟩ : ∃ y, A r = some y := by
          cases hA : A r with
          | none => exact absurd (h0 hA) hC
          | some y => exact ⟨y, rfl⟩
        obtain ⟨_, hcell⟩ := h6 y hy
        obtain ⟨b, off, rfl⟩ := addr_plain (hcell 0 (by omega))
        refine ⟨some ⟨b, off, none⟩, C r, by show Value.slice (A r) (L r) (C r) = _; rw [hy, lB r hrc], by rw [lB r hrc]; exact h1, h2, (fun e => by cases e), .inr ⟨b, off, rfl, fun j c hj => ?_⟩⟩
        · have hjl : j < L r := by
            have := (List.getElem?_eq_some_iff.1 hj).1
            rw [lB r hrc] at this
            exact this
          have := hcell j (by omega)
          rw [Go.WideShapes.add_plain] at this
          rw [this]
          have hj2 : (((Z r).take (L r)).map Int.toNat)[j]? = some c := hj
          rw [List.getElem?_map, List.getElem?_take, if_pos hjl, List.getElem?_eq_getElem (by omega)] at hj2
          simp only [Option.map_some, Option.some.injEq] at hj2
          have e : (Z r).getD j 0 = (Z r)[j]'(by omega) := by simp [List.getD, List.getElem?_eq_getElem (show j < (Z r).length by omega)]
          have hb := bounds_u8 (hwf ((Z r)[j]'(by omega)) (List.getElem_mem _))
          rw [e]
          unfold u8c
          rw [← hj2]
          congr 2
          omega
    refine ⟨(List.range len).map V, (List.range len).map B, ⟨⟨some x, cap, by simp, by simpa using hl, hm, (fun e => by cases e), ?_⟩, by simp, fun i v M hv hM => ?_⟩, fun M hM => ?_, fun M hM => ?_⟩
    · by_cases h0 : len = 0
      · left
        subst h0
        rfl
      · right
        obtain ⟨b, off, rfl⟩ := addr_plain (hr 0 (by omega)).1
        refine ⟨b, off, rfl, fun j v hj => ?_⟩
        have hjl : j < len := by
          have := (List.getElem?_eq_some_iff.1 hj).1
          simpa using this
        rw [List.getElem?_map, List.getElem?_range hjl] at hj
        cases hj
        rw [← Go.WideShapes.add_plain]
        exact (hr j (by omega)).1
    · have hil : i < len := by
        have := (List.getElem?_eq_some_iff.1 hv).1
        simpa using this
      rw [List.getElem?_map, List.getElem?_range hil] at hv hM
      cases hv
      cases hM
      exact sB i (by omega)
    · obtain ⟨r, hrm, rfl⟩ := List.mem_map.1 hM
      exact bB r (by have := List.mem_range.1 hrm; omega)
    · obtain ⟨r, hrm, rfl⟩ := List.mem_map.1 hM
      exact zB r (List.mem_range.1 hrm)
end Go.Proofs.YtcifnfffoiiceaaDoor
