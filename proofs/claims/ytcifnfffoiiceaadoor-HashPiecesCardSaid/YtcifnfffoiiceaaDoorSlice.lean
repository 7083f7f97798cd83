/-
  A slice value that reads as a list, whatever memory it lies in: one cell an element.
-/
import Derived.Test.YtcifnfffoiiceaaDoorShort
import Derived.Test.YtcifnfffoiiceaaDoorAwake
namespace Go.Proofs.YtcifnfffoiiceaaDoor
open Go.RowKit
set_option linter.unusedVariables false

/-- In w the slice value v reads as the list l, an element x as the cell mk x. -/
def SliceOf {α : Type} (mk : α → Value) (w : World) (v : Value) (l : List α) : Prop :=
  ∃ (a : Option Addr) (cap : Nat), v = .slice a l.length cap ∧ l.length ≤ cap ∧ cap ≤ maxLen ∧ (a = none → cap = 0) ∧
    (l = [] ∨ ∃ b off, a = some ⟨b, off, none⟩ ∧ ∀ (j : Nat) (x : α), l[j]? = some x → w.cell? ⟨b, off + j, none⟩ = some (mk x))

section
variable {α : Type} {mk : α → Value} {w w' : World} {v : Value} {l : List α}
theorem SliceOf.nil : SliceOf mk w (.slice none 0 0) ([] : List α) := ⟨none, 0, rfl, Nat.le_refl _, Nat.zero_le _, fun _ => rfl, .inl rfl⟩
theorem SliceOf.same (h : SliceOf mk w v l) (hw : ∀ b off x, w.cell? ⟨b, off, none⟩ = some x → w'.cell? ⟨b, off, none⟩ = some x) : SliceOf mk w' v l := by
  obtain ⟨a, cap, hv, h1, h2, h0, h3⟩ := h
  refine ⟨a, cap, hv, h1, h2, h0, h3.imp id ?_⟩
  rintro ⟨b, off, ha, hc⟩
  exact ⟨b, off, ha, fun j x hj => hw _ _ _ (hc j x hj)⟩
theorem SliceOf.below (h : SliceOf mk w v l) (hb : Below w.heap.size w w') : SliceOf mk w' v l :=
  h.same fun b off x hx => by
    have hlt : b < w.heap.size := block_lt_of_cell hx
    rw [← hx]
    exact hb.cell (p := ⟨b, off, none⟩) hlt
theorem SliceOf.of_own {B : Nat} {t : TypeId} {n : Nat} {xs : List Value} (h : w.ownsRow B t 1 v n xs) (hx : xs = l.map mk) : SliceOf mk w v l := by
  obtain ⟨hl, h⟩ := h
  have hn : l.length = n := by rw [hx, List.length_map] at hl; omega
  rcases h with ⟨rfl, h0⟩ | ⟨g, cap, cur, rfl, hg, hh, hc, hm, hs, ht⟩
  · have : l = [] := List.eq_nil_of_length_eq_zero (by omega)
    subst this
    subst h0
    exact SliceOf.nil
  · refine ⟨some ⟨g, 0, none⟩, cap, by rw [hn], by omega, hm, (fun e => by cases e), .inr ⟨g, 0, rfl, fun j x hj => ?_⟩⟩
    have hjl : j < l.length := (List.getElem?_eq_some_iff.1 hj).1
    rw [cell_of_row _ _ _ _ _ _ hh, Nat.zero_add]
    have e : (cur.toList.take (n * 1))[j]? = some (mk x) := by rw [ht, hx, List.getElem?_map, hj]; rfl
    rw [List.getElem?_take, if_pos (by omega)] at e
    simpa using e
/-- The parts of a slice that reads as l. -/
theorem SliceOf.form (h : SliceOf mk w v l) : ∃ a cap, v = .slice a l.length cap ∧ l.length ≤ cap ∧ cap ≤ maxLen ∧ (∀ (j : Nat) (x : α), l[j]? = some x → ∃ b off, a = some ⟨b, off, none⟩) ∧ ∀ (b off : Nat), a = some ⟨b, off, none⟩ → ∀ (j : Nat) (x : α), l[j]? = some x → w.cell? ⟨b, off + j, none⟩ = some (mk x) := by
  obtain ⟨a, cap, hv, h1, h2, _, h3⟩ := h
  refine ⟨a, cap, hv, h1, h2, ?_, ?_⟩
  · intro j x hj
    rcases h3 with rfl | ⟨b, off, ha, _⟩
    · simp at hj
    · exact ⟨b, off, ha⟩
  · intro b off ha j x hj
    rcases h3 with rfl | ⟨b', off', ha', hc⟩
    · simp at hj
    · rw [ha] at ha'
      simp only [Option.some.injEq, Addr.mk.injEq, and_true] at ha'
      obtain ⟨rfl, rfl⟩ := ha'
      exact hc j x hj
end

/-- A byte as a cell. -/
def u8c (c : Nat) : Value := .int .u8 (c : Int)
/-- All are bytes. -/
def Bytes (l : List Nat) : Prop := ∀ c ∈ l, c < 256
theorem Bytes.at {l : List Nat} (h : Bytes l) {j c : Nat} (hj : l[j]? = some c) : c < 256 := h c (List.mem_of_getElem? hj)

end Go.Proofs.YtcifnfffoiiceaaDoor
