/-
  An argument that is a slice of acts (a whole number and a slice of bytes each) reads as acts.
-/
import Derived.Test.YtcifnfffoiiceaaDoorArgs
import Derived.Test.YtcifnfffoiiceaaDoorPieces
import Derived.Deep.Slices
import Derived.Deep.Matrix
import Derived.ChangeSame
namespace Go.Proofs.YtcifnfffoiiceaaDoor
open Go.RowKit Go.Deep Go.WideShapes Go.ChangeShapes
set_option linter.unusedVariables false

theorem addr_plain2 {w : World} {x : Addr} {v : Value} (h : w.cell? (x.add 0) = some v) : ∃ b off, x = ⟨b, off, none⟩ := by
  obtain ⟨b, off, spot⟩ := x
  have hspot : spot = none := by simpa [Addr.add] using World.cell?_spot h
  exact ⟨b, off, by rw [hspot]⟩
theorem weights_mem_all2 {H : Type} {P : Program} {e : TypeId} : ∀ {ds : List (DataW H)} {i : Nat} {d : DataW H}, ds[i]? = some d → ∀ n ∈ d.weights P e, n ∈ DataW.weightsAll P e ds
  | [], i, d, h, n, hn => by simp at h
  | d0 :: r, 0, d, h, n, hn => by
    obtain rfl : d0 = d := by simpa using h
    unfold DataW.weightsAll
    exact List.mem_append_left _ hn
  | d0 :: r, i + 1, d, h, n, hn => by
    unfold DataW.weightsAll
    exact List.mem_append_right _ (weights_mem_all2 (by simpa using h) n hn)
theorem arg_acts {H : Type} {enc : TypeId × Value → H} {P : Program} {W : World} {base : Nat} {spare : Nat → Bool} {held : Bool} {t e q : TypeId} {f0 f1 : Field} {a : Option Addr} {len cap : Nat} {d : DataW H} {ps : List MemPlace} {ts : List TypeId} {ds : List (DataW H)} {j : Nat}
    (hsz : (DataW.weightsEach P ts ds).all (· ≤ reachBytes) = true) (ht : ts[j]? = some t) (hd : ds[j]? = some d) (hu : P.underlying t = some (.slice e)) (he : P.underlying e = some (.struct #[f0, f1])) (h0 : P.underlying f0.type = some (.int .i64)) (h1 : P.underlying f1.type = some (.slice q)) (hq : P.underlying q = some (.int .u8))
    (o0 : f0.offset = 0) (o1 : f1.offset = 1) (c0 : P.cellsOf f0.type = 1) (c1 : P.cellsOf f1.type = 1) (ce : P.cellsOf e = 2) (cq : P.cellsOf q = 1) (bq : P.bytesOf q = 1)
    (h : DataW.Trod enc P W base spare held t (.slice a len cap) d ps) : ∃ As, ActsIn W (.slice a len cap) As ∧ ∀ (m : Int) (L : List Nat), (m, L) ∈ As → Bytes L ∧ (Lit.int .i64 m).wf = true ∧ L.length ≤ 140737488351232 := by
  obtain ⟨fuel, hf⟩ := h
  rcases open_slice hu hf with ⟨hcs, _⟩ | ⟨x, l, c, mm, n, D, Pl, hcs, hb, hl, hm, hmm, hx, hi⟩
  · simp [Value.cells] at hcs
    obtain ⟨rfl, rfl, rfl⟩ := hcs
    exact ⟨[], ⟨none, 0, rfl, Nat.le_refl _, Nat.zero_le _, fun i m L hj => by simp at hj⟩, fun m L hM => by cases hM⟩
  · simp [Value.cells] at hcs
    obtain ⟨rfl, rfl, rfl⟩ := hcs
    have lm : len ≤ mm := by rw [hmm]; split <;> omega
    obtain ⟨hdx, _⟩ := Prod.mk.inj hx
    have key : ∀ i, i < len → ∃ y : Int × List Nat × Value, W.cell? (x.add (i * 2)) = some (.int .i64 y.1) ∧ W.cell? (x.add (i * 2 + 1)) = some y.2.2 ∧ SliceOf u8c W y.2.2 y.2.1 ∧ Bytes y.2.1 ∧ (Lit.int .i64 y.1).wf = true ∧ y.2.1.length ≤ 140737488351232 := fun i hil => by
      obtain ⟨cs', hc, ht'⟩ := hi i (by omega)
      rw [ce] at hc
      obtain ⟨y0, y1, n', hD, hlen, e0, e1⟩ := trod_struct2 he ht'
      obtain ⟨_, hcl, hat⟩ := World.cells?_some hc
      obtain ⟨v0, v1, rfl⟩ : ∃ v0 v1, cs' = [v0, v1] := by
        match cs', hcl with
        | [v0, v1], _ => exact ⟨v0, v1, rfl⟩
      rw [o0, c0] at e0
      rw [o1, c1] at e1
      have a0 := hat 0 (by omega)
      have a1 := hat 1 (by omega)
      rw [Go.Deep.add_add] at a0 a1
      obtain ⟨z, hz, _, wz⟩ := DataW.trod_int h0 e0
      have hv0 : v0 = .int .i64 z := by simpa using hz
      have e1' : DataW.trod enc P W base spare held n' f1.type [v1] = some y1 := e1
      obtain ⟨A, l', c', hv1⟩ : ∃ A l' c', v1 = .slice A l' c' := by
        rcases open_slice h1 e1' with ⟨hh, _⟩ | ⟨a', l', c', _, _, _, _, hh, _⟩
        · exact ⟨none, 0, 0, by simpa using hh⟩
        · exact ⟨some a', l', c', by simpa using hh⟩
      subst hv0
      subst hv1
      have wm : ∀ k ∈ y1.1.weights P f1.type, k ∈ DataW.weightsEach P ts ds := fun k hk => by
        refine DataW.weights_mem_each ht hd _ ?_
        rw [hdx]
        unfold DataW.weights
        rw [hu]
        refine List.mem_cons_of_mem _ (List.mem_append_left _ ?_)
        refine weights_mem_all2 (i := i) (d := D i) (by rw [List.getElem?_map, List.getElem?_range hil]; rfl) _ ?_
        have hDi : D i = .agg [y0.1, y1.1] := (Prod.mk.inj hD).1
        rw [hDi]
        unfold DataW.weights
        rw [he]
        exact DataW.weights_mem_each (j := 1) (t := f1.type) (d := y1.1) rfl rfl _ hk
      have hsz2 : (DataW.weightsEach P [f1.type] [y1.1]).all (· ≤ reachBytes) = true := by
        rw [List.all_eq_true] at hsz ⊢
        intro k hk
        refine hsz k (wm k ?_)
        unfold DataW.weightsEach at hk
        rcases List.mem_append.1 hk with h | h
        · exact h
        · unfold DataW.weightsEach at h
          cases h
      obtain ⟨L, s1, s2, s3⟩ := arg_bytes hsz2 (j := 0) (t := f1.type) (d := y1.1) rfl rfl h1 hq cq bq (ps := y1.2) ⟨n', e1'⟩
      exact ⟨(z, L, .slice A l' c'), a0, a1, s1, s2, wz, s3⟩
    obtain ⟨Y, hY⟩ := choose_lt key
    refine ⟨(List.range len).map fun i => ((Y i).1, (Y i).2.1), ⟨some x, cap, by simp, by simpa using hl, hm, fun i m L hj => ?_⟩, fun m L hM => ?_⟩
    · have hil : i < len := by
        have := (List.getElem?_eq_some_iff.1 hj).1
        simpa using this
      rw [List.getElem?_map, List.getElem?_range hil] at hj
      cases hj
      have h00 := (hY 0 (by omega)).1
      rw [Nat.zero_mul] at h00
      obtain ⟨b, off, rfl⟩ := addr_plain2 h00
      obtain ⟨k1, k2, k3, _⟩ := hY i hil
      rw [Go.WideShapes.add_plain] at k1 k2
      exact ⟨b, off, _, rfl, k1, by rw [Nat.add_assoc]; exact k2, k3⟩
    · obtain ⟨i, him, he2⟩ := List.mem_map.1 hM
      cases he2
      obtain ⟨_, _, _, k4, k5, k6⟩ := hY i (List.mem_range.1 him)
      exact ⟨k4, k5, k6⟩
end Go.Proofs.YtcifnfffoiiceaaDoor
