/-
  massiflaw1.NumBits: the walk.
-/
import Derived.Test.YtlmihaeknmeeiaaDoorRefBits
import Derived.Test.YtlmihaeknmeeiaaDoorOnesWalk
namespace Go.Proofs.YtlmihaeknmeeiaaDoor
open Go.RowKit
set_option linter.unusedVariables false

theorem walkNumBits (a0 : Int) (w0 : (Lit.int .u64 a0).wf = true) (w : World) (T : TabAt w) :
    Calls Tryd.prog 3 #[.int .u64 a0] w fun e w' => e = .returned (.bool true) ∧ Below w.heap.size w w' := by
  obtain ⟨x, rfl, hx⟩ := nat_of_u64 w0
  have O := Ones_any hx
  have RO := refOnes_any hx
  have L := fun w T => Low_any hx w T
  have RL := refLow_any hx
  have H := High_any hx
  have RH := refHigh_any hx
  have BI := fun w T => Bits_any hx w T
  have RB := refBits_any hx
  have TT := Lib.hid T
  have LL := Lib.hid L
  have BB := Lib.hid BI
  clear hx w0 T L BI
  generalize ones x = o at *
  generalize tzN x = t at *
  generalize (lenN x : Int) - 1 = h at *
  generalize posL x = l at *
  go_enter Tryd.func3, Tryd.ntmps3
  go_wp2_with fail
  refine (O _).mono ?_
  rintro e w' ⟨rfl, rfl⟩
  go_wp2_with fail
  refine (RO _).mono ?_
  rintro e w1 ⟨rfl, q1⟩
  go_wp2_with fail
  refine (LL.out w1 (TT.out.below q1)).mono ?_
  rintro e w' ⟨rfl, rfl⟩
  go_wp2_with fail
  refine (RL _).mono ?_
  rintro e w2 ⟨rfl, q2⟩
  have r2 := q1.trans (q2.mono q1.size)
  go_wp2_with fail
  refine (H _).mono ?_
  rintro e w' ⟨rfl, rfl⟩
  go_wp2_with fail
  refine (RH _).mono ?_
  rintro e w3 ⟨rfl, q3⟩
  have r3 := r2.trans (q3.mono r2.size)
  go_wp2_with fail
  refine (BB.out w3 (TT.out.below r3)).mono ?_
  rintro e w4 ⟨v, rfl, own4, q4⟩
  have s4 : SliceOf i64c w4 v l := SliceOf.of_own own4 rfl
  have r4 := r3.trans (q4.mono r3.size)
  go_wp2_with fail
  refine (RB _).mono ?_
  rintro e w5 ⟨v', rfl, own5, q5⟩
  have s5 : SliceOf i64c w5 v' l := SliceOf.of_own own5 rfl
  have r5 := r4.trans (q5.mono r4.size)
  clear own4 own5
  go_wp2_with fail
  refine (list_any _ (s4.below q5) s5).mono ?_
  rintro e w6 ⟨rfl, q6⟩
  rw [decide_eq_true (rfl : l = l)]
  have r6 := r5.trans (q6.mono r5.size)
  go_wp2_with fail
  refine (awake_any _).mono ?_
  rintro e w7 ⟨rfl, q7⟩
  go_wp2
  go_ret
  exact ⟨rfl, r6.trans (q7.mono r6.size)⟩
end Go.Proofs.YtlmihaeknmeeiaaDoor
