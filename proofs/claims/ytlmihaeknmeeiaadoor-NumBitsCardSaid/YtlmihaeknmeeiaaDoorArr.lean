/-
  Rows of 64 whole numbers in memory. No program's walk in sight.
-/
import Derived.Test.YtlmihaeknmeeiaaDoorBase
namespace Go.Proofs.YtlmihaeknmeeiaaDoor
open Go.RowKit

/-- Sixty-four ints. -/
def arr64 (f : Nat → Int) : Array Value := ((List.range 64).map fun i => Value.int .i64 (f i)).toArray
theorem arr64_get (f : Nat → Int) (k : Nat) (hk : k < 64) : (arr64 f)[k]? = some (.int .i64 (f k)) := by
  simp [arr64, hk]
theorem arr64_size (f : Nat → Int) : (arr64 f).size = 64 := by simp [arr64]
theorem arr64_one (f : Nat → Int) : (arr64 f).all (·.oneCell') = true := by
  rw [Array.all_eq_true_iff_forall_mem]
  intro v hv
  simp only [arr64, List.mem_toArray, List.mem_map] at hv
  obtain ⟨i, _, rfl⟩ := hv
  rfl
theorem arr64_set (f : Nat → Int) (k : Nat) (v : Int) : (arr64 f).setIfInBounds k (.int .i64 v) = arr64 (fun i => if i = k then v else f i) := by
  unfold arr64
  apply Array.ext
  · simp
  · intro i h1 h2
    rw [Array.getElem_setIfInBounds (by simpa using h1)]
    simp only [List.getElem_toArray, List.getElem_map, List.getElem_range]
    by_cases h : i = k
    · subst h; simp
    · rw [if_neg (fun e => h e.symm), if_neg h]
theorem arr64_congr {f g : Nat → Int} (h : ∀ i, i < 64 → f i = g i) : arr64 f = arr64 g := by
  unfold arr64
  congr 1
  exact List.map_congr_left fun i hi => by rw [h i (List.mem_range.1 hi)]
/-- The bits of x as ints, the lowest first. -/
def bitsF (x : Nat) (i : Nat) : Int := ((x.testBit i).toNat : Int)

section
variable {w W : World} {b k : Nat} {f : Nat → Int} {t : TypeId}
theorem row_cell (h : w.heap[b]? = some (.cells (arr64 f) t (0, 0))) (hk : k < 64) : w.cell? ⟨b, k, none⟩ = some (.int .i64 (f k)) := by
  rw [cell_of_row _ _ _ _ _ _ h, arr64_get _ _ hk]
theorem row_free (h : w.heap[b]? = some (.cells (arr64 f) t (0, 0))) : w.frozen? ⟨b, k, none⟩ = false := frozen_of_row _ _ _ _ _ h
theorem row_store (h : w.heap[b]? = some (.cells (arr64 f) t (0, 0))) (v : Int) :
    (w.setCell ⟨b, k, none⟩ (.int .i64 v)).heap[b]? = some (.cells (arr64 (fun i => if i = k then v else f i)) t (0, 0)) := by
  rw [heap_setCell_same w b k _ t _ h, arr64_set]
theorem row_keep {o : Option Obj} {c : Nat} (h : w.heap[c]? = o) (hne : c ≠ b) (v : Value) : (w.setCell ⟨b, k, none⟩ v).heap[c]? = o := by
  rw [heap_setCell_other _ _ _ _ (by simpa using hne), h]
end

theorem size50 : (Tryd.prog.info? 30).map (·.size) = some 64 := by kernel_rfl
theorem size64 (f : Nat → Int) : (Tryd.prog.info? 30).map (·.size) = some (arr64 f).size := by rw [arr64_size, size50]
end Go.Proofs.YtlmihaeknmeeiaaDoor
