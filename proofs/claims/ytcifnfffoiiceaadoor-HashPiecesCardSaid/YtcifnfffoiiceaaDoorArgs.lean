/-
  An argument that is a slice of bytes reads as a list of bytes.
-/
import Derived.Test.YtcifnfffoiiceaaDoorSlice
import Derived.ProofKit
import Derived.OpenShut
import Derived.ChangeOld
import Derived.SizedLaws
namespace Go.Proofs.YtcifnfffoiiceaaDoor
open Go.RowKit Go.ChangeShapes Go.WideShapes
set_option linter.unusedVariables false

theorem arg_bytes {H : Type} {enc : TypeId × Value → H} {P : Program} {W : World} {base : Nat} {spare : Nat → Bool} {held : Bool} {t e : TypeId} {a : Option Addr} {len cap : Nat} {d : DataW H} {ps : List MemPlace} {ts : List TypeId} {ds : List (DataW H)} {j : Nat}
    (hsz : (DataW.weightsEach P ts ds).all (· ≤ reachBytes) = true) (ht : ts[j]? = some t) (hd : ds[j]? = some d) (hu : P.underlying t = some (.slice e)) (he : P.underlying e = some (.int .u8)) (hc : P.cellsOf e = 1) (hB : P.bytesOf e = 1)
    (h : DataW.Trod enc P W base spare held t (.slice a len cap) d ps) : ∃ l, SliceOf u8c W (.slice a len cap) l ∧ Bytes l ∧ l.length ≤ 140737488351232 := by
  obtain ⟨fuel, hf⟩ := h
  rcases open_ints hu he hc hf with ⟨hcs, _⟩ | ⟨x, l, c, zs, hcs, _, hl, hm, hz, hx, hcell, hwf⟩
  · simp [Value.cells] at hcs
    obtain ⟨rfl, rfl, rfl⟩ := hcs
    exact ⟨[], SliceOf.nil, by intro c hc; simp at hc, by simp⟩
  · simp [Value.cells] at hcs
    obtain ⟨rfl, rfl, rfl⟩ := hcs
    obtain ⟨hx, _⟩ := Prod.mk.inj hx
    subst hx
    have z := sized_slice hsz ht hd hu
    rw [hB] at z
    have hl2 : len ≤ zs.length := by
      rw [hz]
      split
      · exact hl
      · exact Nat.le_refl _
    have h1 : (lits (H := H) .u8 (zs.take len)).length + (lits (H := H) .u8 (zs.drop len)).length = zs.length := by
      simp [lits]
      omega
    rw [h1] at z
    have z2 : zs.length ≤ 140737488351232 := by
      have : reachBytes = 140737488351232 := rfl
      omega
    have hlen : ((zs.take len).map Int.toNat).length = len := by simp; omega
    refine ⟨(zs.take len).map Int.toNat, ⟨some x, cap, by rw [hlen], by rw [hlen]; exact hl, hm, (fun e => by cases e), ?_⟩, ?_, by rw [hlen]; omega⟩
    · by_cases h0 : zs.length = 0
      · left
        have : len = 0 := by omega
        subst this
        rfl
      · right
        obtain ⟨b, off, rfl, hc2⟩ := ints_at hcell (by omega)
        refine ⟨b, off, rfl, fun j c hj => ?_⟩
        rw [List.getElem?_map] at hj
        have hjl : j < len := by
          by_cases hlt : j < len
          · exact hlt
          · rw [List.getElem?_take, if_neg hlt] at hj; simp at hj
        rw [List.getElem?_take, if_pos hjl, List.getElem?_eq_getElem (by omega)] at hj
        simp only [Option.map_some, Option.some.injEq] at hj
        rw [hc2 j (by omega)]
        have e : zs.getD j 0 = zs[j]'(by omega) := by simp [List.getD, List.getElem?_eq_getElem (show j < zs.length by omega)]
        have hb := bounds_u8 (hwf (zs[j]'(by omega)) (List.getElem_mem _))
        rw [e]
        unfold u8c
        rw [← hj]
        congr 2
        omega
    · intro c hc
      simp only [List.mem_map] at hc
      obtain ⟨n, hn, rfl⟩ := hc
      have hb := bounds_u8 (hwf n (List.mem_of_mem_take hn))
      omega
end Go.Proofs.YtcifnfffoiiceaaDoor
