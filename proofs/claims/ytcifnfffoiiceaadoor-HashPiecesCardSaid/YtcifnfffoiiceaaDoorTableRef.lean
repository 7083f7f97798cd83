/-
  The reference's table of constants.
-/
import Derived.Test.YtcifnfffoiiceaaDoorAppU
namespace Go.Proofs.YtcifnfffoiiceaaDoor
open Go.RowKit
set_option linter.unusedVariables false

theorem table_len : tableK.length = 64 := by decide
theorem table_words : Words tableK := by unfold Words; decide
theorem table_any (w : World) :
    Calls Tryd.prog 48 #[] w fun e w' => ∃ v, e = .returned v ∧ SliceOf u64c w' v tableK ∧ Below w.heap.size w w' := by
  go_enter Tryd.func48, Tryd.ntmps48
  go_wp2
  generalize hW : World.alloc w _ = w2
  have hb : Below w.heap.size w w2 := by rw [← hW]; exact (Below.refl _ _).alloc (Nat.le_refl _) _
  have h1 : w2.heap[w.heap.size]? = some (.cells (cellsOf' u64c tableK) 44 (0, 0)) := by rw [← hW, heap_alloc_new]; rfl
  go_ret
  refine ⟨_, rfl, ?_, hb⟩
  have := co_slice h1 (by rw [table_len]; decide)
  rw [table_len] at this
  exact this
end Go.Proofs.YtcifnfffoiiceaaDoor
