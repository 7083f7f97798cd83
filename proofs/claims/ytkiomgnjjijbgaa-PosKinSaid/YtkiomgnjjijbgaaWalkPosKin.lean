/-
  PosKin.
-/
import Derived.Test.YtkiomgnjjijbgaaKids
namespace Go.Proofs.Ytkiomgnjjijbgaa
open Go.RowKit
set_option linter.unusedVariables false

theorem walkPosKin (a0 : Int) (w0 : (Lit.int .u64 a0).wf = true) (w : World) :
    Calls Try.prog 8 #[.int .u64 a0] w fun e w' => e = .returned (.bool true) ∧ Below w.heap.size w w' := by
  obtain ⟨p, rfl, hp⟩ := nat_of_u64 w0
  clear w0
  obtain ⟨r, T1, T2⟩ := right_both hp
  obtain ⟨x, y, c, Q1, Q2, R⟩ := says_both hp
  have P1 := Parent_any Q1 R
  have P2 := refParent_any Q2 R
  have P3 := Sibling_any Q1 R
  have P4 := refSibling_any Q2 R
  obtain ⟨k1, k2, k3, K1, K2⟩ := kids_both Q1 Q2 R
  clear Q1 Q2 R
  rcases hn : nParent x y c with ⟨a, d⟩
  rw [hn] at P1 P2
  clear hn
  rcases hn : nSibling x y c with ⟨a2, d2⟩
  rw [hn] at P3 P4
  clear hn
  dsimp only at P1 P2 P3 P4
  have f1 : ((a : Int) != (a : Int)) = false := by simp
  have f2 : ((a2 : Int) != (a2 : Int)) = false := by simp
  have f3 : (d != d) = false := by simp
  have f4 : (d2 != d2) = false := by simp
  go_enter Try.func8, Try.ntmps8
  go_wp2_with fail
  refine (P1 _).mono ?_
  rintro e w1 ⟨rfl, q1⟩
  go_wp2_with fail
  refine (P2 _).mono ?_
  rintro e w2 ⟨rfl, q2⟩
  have r2 := q1.trans (q2.mono q1.size)
  clear q1 q2
  go_wp2_with fail
  refine (P3 _).mono ?_
  rintro e w3 ⟨rfl, q3⟩
  have r3 := r2.trans (q3.mono r2.size)
  clear r2 q3
  go_wp2_with fail
  refine (P4 _).mono ?_
  rintro e w4 ⟨rfl, q4⟩
  have r4 := r3.trans (q4.mono r3.size)
  clear r3 q4
  go_wp2_with fail
  refine (K1 _).mono ?_
  rintro e w5 ⟨rfl, q5⟩
  have r5 := r4.trans (q5.mono r4.size)
  clear r4 q5
  go_wp2_with fail
  refine (K2 _).mono ?_
  rintro e w6 ⟨rfl, q6⟩
  have r6 := r5.trans (q6.mono r5.size)
  clear r5 q6
  go_wp2_with fail
  refine (T1 _).mono ?_
  rintro e w7 ⟨rfl, q7⟩
  have r7 := r6.trans (q7.mono r6.size)
  clear r6 q7
  go_wp2_with fail
  refine (T2 _).mono ?_
  rintro e w8 ⟨rfl, q8⟩
  have r8 := r7.trans (q8.mono r7.size)
  clear r7 q8
  go_wp2_with fail
  refine (awake3_any _).mono ?_
  rintro e w9 ⟨rfl, q9⟩
  have r9 := r8.trans (q9.mono r8.size)
  go_wp2
  go_ret
  exact ⟨rfl, r9⟩
end Go.Proofs.Ytkiomgnjjijbgaa
