/-
  PosLeaves.
-/
import Derived.Test.YtkiomgnjjijbgaaIndex
namespace Go.Proofs.Ytkiomgnjjijbgaa
open Go.RowKit
set_option linter.unusedVariables false

theorem walkPosLeaves (a0 a1 : Int) (w0 : (Lit.int .u64 a0).wf = true) (w1 : (Lit.int .u64 a1).wf = true) (w : World) :
    Calls Try.prog 6 #[.int .u64 a0, .int .u64 a1] w fun e w' => e = .returned (.bool true) ∧ Below w.heap.size w w' := by
  obtain ⟨n, rfl, hn⟩ := nat_of_u64 w0
  obtain ⟨p, rfl, hp⟩ := nat_of_u64 w1
  clear w0 w1
  obtain ⟨x, c, S1, S2⟩ := leaf_both n
  obtain ⟨y, k, d, Q1, Q2, _⟩ := says_both hp
  have P1 := Index_any Q1
  have P2 := refIndex_any Q2
  clear Q1 Q2
  go_enter Try.func6, Try.ntmps6
  go_wp2_with fail
  refine (S1 _).mono ?_
  rintro e w' ⟨rfl, rfl⟩
  go_wp2_with fail
  refine (S2 _).mono ?_
  rintro e w' ⟨rfl, rfl⟩
  go_wp2_with fail
  refine (P1 _).mono ?_
  rintro e w1 ⟨rfl, q1⟩
  go_wp2_with fail
  refine (P2 _).mono ?_
  rintro e w2 ⟨rfl, q2⟩
  have q3 := q1.trans (q2.mono q1.size)
  go_wp2_with fail
  refine (awake3_any _).mono ?_
  rintro e w5 ⟨rfl, q5⟩
  have q6 := q3.trans (q5.mono q3.size)
  go_wp2
  go_ret
  exact ⟨rfl, q6⟩
end Go.Proofs.Ytkiomgnjjijbgaa
