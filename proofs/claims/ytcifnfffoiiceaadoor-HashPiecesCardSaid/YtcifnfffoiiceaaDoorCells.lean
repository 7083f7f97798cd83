/-
  Lists as arrays' cells in memory. No program's walk in sight.
-/
import Derived.Test.YtcifnfffoiiceaaDoorBig
namespace Go.Proofs.YtcifnfffoiiceaaDoor
open Go.RowKit
set_option linter.unusedVariables false

/-- A word as a cell. -/
def u32c (c : Nat) : Value := .int .u32 (c : Int)
def u64c (c : Nat) : Value := .int .u64 (c : Int)
/-- A list as an array's cells. -/
def cellsOf' (mk : Nat → Value) (l : List Nat) : Array Value := (l.map mk).toArray
section
variable {mk : Nat → Value} {l : List Nat} {k x : Nat}
theorem co_get (h : l[k]? = some x) : (cellsOf' mk l)[k]? = some (mk x) := by simp [cellsOf', h]
theorem co_size : (cellsOf' mk l).size = l.length := by simp [cellsOf']
theorem co_one (hm : ∀ x, (mk x).oneCell' = true) : (cellsOf' mk l).all (·.oneCell') = true := by
  rw [Array.all_eq_true_iff_forall_mem]
  intro v hv
  simp only [cellsOf', List.mem_toArray, List.mem_map] at hv
  obtain ⟨i, _, rfl⟩ := hv
  exact hm i
theorem co_set : (cellsOf' mk l).setIfInBounds k (mk x) = cellsOf' mk (l.set k x) := by
  simp [cellsOf', List.map_set]
variable {w W : World} {b : Nat} {t : TypeId}
theorem co_cell (h : w.heap[b]? = some (.cells (cellsOf' mk l) t (0, 0))) (hk : l[k]? = some x) : w.cell? ⟨b, k, none⟩ = some (mk x) := by
  rw [cell_of_row _ _ _ _ _ _ h, co_get hk]
theorem co_free (h : w.heap[b]? = some (.cells (cellsOf' mk l) t (0, 0))) : w.frozen? ⟨b, k, none⟩ = false := frozen_of_row _ _ _ _ _ h
theorem co_store (h : w.heap[b]? = some (.cells (cellsOf' mk l) t (0, 0))) (x : Nat) :
    (w.setCell ⟨b, k, none⟩ (mk x)).heap[b]? = some (.cells (cellsOf' mk (l.set k x)) t (0, 0)) := by
  rw [heap_setCell_same w b k _ t _ h, co_set]
theorem co_keep {o : Option Obj} {c : Nat} (h : w.heap[c]? = o) (hne : c ≠ b) (v : Value) : (w.setCell ⟨b, k, none⟩ v).heap[c]? = o := by
  rw [heap_setCell_other _ _ _ _ (by simpa using hne), h]
end
theorem u8c_one (x : Nat) : (u8c x).oneCell' = true := rfl
theorem u32c_one (x : Nat) : (u32c x).oneCell' = true := rfl
/-- An array of bytes reads as a slice of its whole. -/
theorem co_slice {mk : Nat → Value} {l : List Nat} {w : World} {b : Nat} {t : TypeId} (h : w.heap[b]? = some (.cells (cellsOf' mk l) t (0, 0))) (hl : l.length ≤ maxLen) : SliceOf mk w (.slice (some ⟨b, 0, none⟩) l.length l.length) l :=
  ⟨_, _, rfl, Nat.le_refl _, hl, (fun e => by cases e), .inr ⟨b, 0, rfl, fun j x hj => by rw [Nat.zero_add]; exact co_cell h hj⟩⟩
theorem co_inj {mk : Nat → Value} (hm : ∀ x y, mk x = mk y → x = y) {l l' : List Nat} (h : cellsOf' mk l = cellsOf' mk l') : l = l' := by
  unfold cellsOf' at h
  have h2 : l.map mk = l'.map mk := by simpa using h
  exact (List.map_inj_right fun x y e => hm x y e).1 h2
theorem u8c_inj (x y : Nat) (h : u8c x = u8c y) : x = y := by unfold u8c at h; injection h; omega
theorem size_32 : (Tryd.prog.info? 23).map (·.size) = some 32 := by kernel_rfl
theorem size_64 : (Tryd.prog.info? 24).map (·.size) = some 64 := by kernel_rfl
theorem size_w64 : (Tryd.prog.info? 64).map (·.size) = some 64 := by kernel_rfl
theorem size_w8 : (Tryd.prog.info? 68).map (·.size) = some 8 := by kernel_rfl
theorem size_of {o : Option Nat} {n : Nat} (h : o = some n) {mk : Nat → Value} {l : List Nat} (hl : l.length = n) : o = some (cellsOf' mk l).size := by rw [co_size, hl, h]
end Go.Proofs.YtcifnfffoiiceaaDoor
