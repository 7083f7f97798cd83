/-
  PosUnder.
-/
import Derived.Test.YtkiomgnjjijbgaaUnder
namespace Go.Proofs.Ytkiomgnjjijbgaa
open Go.RowKit
set_option linter.unusedVariables false

theorem walkPosUnder (a0 : Int) (w0 : (Lit.int .u64 a0).wf = true) (w : World) :
    Calls Try.prog 5 #[.int .u64 a0] w fun e w' => e = .returned (.bool true) ∧ Below w.heap.size w w' := by
  obtain ⟨p, rfl, hp⟩ := nat_of_u64 w0
  clear w0
  obtain ⟨x, y, c, Q1, Q2, R⟩ := says_both hp
  have P1 := Under_any Q1 R
  have P2 := refUnder_any Q2 R
  have P3 := Since_any Q1 R
  have P4 := refSince_any Q2 R
  clear Q1 Q2 R
  generalize fromN x y c = f at *
  generalize toN x y c = t at *
  go_enter Try.func5, Try.ntmps5
  go_wp2_with fail
  refine (P1 _).mono ?_
  rintro e w1 ⟨rfl, q1⟩
  go_wp2_with fail
  refine (P2 _).mono ?_
  rintro e w2 ⟨rfl, q2⟩
  have r2 := q1.trans (q2.mono q1.size)
  go_wp2_with fail
  refine (P3 _).mono ?_
  rintro e w3 ⟨rfl, q3⟩
  have r3 := r2.trans (q3.mono r2.size)
  go_wp2_with fail
  refine (P4 _).mono ?_
  rintro e w4 ⟨rfl, q4⟩
  have r4 := r3.trans (q4.mono r3.size)
  go_wp2_with fail
  refine (awake3_any _).mono ?_
  rintro e w5 ⟨rfl, q5⟩
  have r5 := r4.trans (q5.mono r4.size)
  go_wp2
  go_ret
  exact ⟨rfl, r5⟩
end Go.Proofs.Ytkiomgnjjijbgaa
