/-
  A slice of ints that came in reads as a list.
-/
import Derived.Test.YtcifnfffoiiceaaDoorBase
import Derived.ProofKit
import Derived.OpenShut
import Derived.ChangeOld
namespace Go.Proofs.YtcifnfffoiiceaaDoor
open Go.RowKit Go.ChangeShapes Go.WideShapes
set_option linter.unusedVariables false

/-- In w the slice value v reads as the ints l. -/
def IntsOf (w : World) (v : Value) (l : List Int) : Prop :=
  ∃ (a : Option Addr) (cap : Nat), v = .slice a l.length cap ∧ l.length ≤ cap ∧ cap ≤ maxLen ∧
    (l = [] ∨ ∃ b off, a = some ⟨b, off, none⟩ ∧ ∀ (j : Nat) (x : Int), l[j]? = some x → w.cell? ⟨b, off + j, none⟩ = some (.int .i64 x))
def Ints (l : List Int) : Prop := ∀ x ∈ l, -9223372036854775808 ≤ x ∧ x ≤ 9223372036854775807
theorem IntsOf.form {w : World} {v : Value} {l : List Int} (h : IntsOf w v l) : ∃ a cap, v = .slice a l.length cap ∧ l.length ≤ cap ∧ cap ≤ maxLen ∧ (∀ (j : Nat) (x : Int), l[j]? = some x → ∃ b off, a = some ⟨b, off, none⟩) ∧ ∀ (b off : Nat), a = some ⟨b, off, none⟩ → ∀ (j : Nat) (x : Int), l[j]? = some x → w.cell? ⟨b, off + j, none⟩ = some (.int .i64 x) := by
  obtain ⟨a, cap, hv, h1, h2, h3⟩ := h
  refine ⟨a, cap, hv, h1, h2, ?_, ?_⟩
  · intro j x hj
    rcases h3 with rfl | ⟨b, off, ha, _⟩
    · simp at hj
    · exact ⟨b, off, ha⟩
  · intro b off ha j x hj
    rcases h3 with rfl | ⟨b', off', ha', hc⟩
    · simp at hj
    · rw [ha] at ha'
      simp only [Option.some.injEq, Addr.mk.injEq, and_true] at ha'
      obtain ⟨rfl, rfl⟩ := ha'
      exact hc j x hj
theorem arg_ints {H : Type} {enc : TypeId × Value → H} {P : Program} {W : World} {base : Nat} {spare : Nat → Bool} {held : Bool} {t e : TypeId} {a : Option Addr} {len cap : Nat} {d : DataW H} {ps : List MemPlace}
    (hu : P.underlying t = some (.slice e)) (he : P.underlying e = some (.int .i64)) (hc : P.cellsOf e = 1)
    (h : DataW.Trod enc P W base spare held t (.slice a len cap) d ps) : ∃ l, IntsOf W (.slice a len cap) l ∧ Ints l := by
  obtain ⟨fuel, hf⟩ := h
  rcases open_ints hu he hc hf with ⟨hcs, _⟩ | ⟨x, l, c, zs, hcs, _, hl, hm, hz, hx, hcell, hwf⟩
  · simp [Value.cells] at hcs
    obtain ⟨rfl, rfl, rfl⟩ := hcs
    exact ⟨[], ⟨none, 0, rfl, Nat.le_refl _, Nat.zero_le _, .inl rfl⟩, by intro c hc; simp at hc⟩
  · simp [Value.cells] at hcs
    obtain ⟨rfl, rfl, rfl⟩ := hcs
    have hl2 : len ≤ zs.length := by
      rw [hz]
      split
      · exact hl
      · exact Nat.le_refl _
    have hlen : (zs.take len).length = len := by rw [List.length_take]; omega
    refine ⟨zs.take len, ⟨some x, cap, by rw [hlen], by rw [hlen]; exact hl, hm, ?_⟩, fun n hn => ?_⟩
    · by_cases h0 : zs.length = 0
      · left
        have : len = 0 := by omega
        subst this
        rfl
      · right
        obtain ⟨b, off, rfl, hc2⟩ := ints_at hcell (by omega)
        refine ⟨b, off, rfl, fun j c hj => ?_⟩
        have hjl : j < len := by
          by_cases hlt : j < len
          · exact hlt
          · rw [List.getElem?_take, if_neg hlt] at hj; simp at hj
        rw [List.getElem?_take, if_pos hjl, List.getElem?_eq_getElem (by omega)] at hj
        rw [hc2 j (by omega)]
        have e : zs.getD j 0 = zs[j]'(by omega) := by simp [List.getD, List.getElem?_eq_getElem (show j < zs.length by omega)]
        rw [e, Option.some.inj hj]
    · have := hwf n (List.mem_of_mem_take hn)
      exact rng_i64 this
end Go.Proofs.YtcifnfffoiiceaaDoor
