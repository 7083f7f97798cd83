/-
  PosNumbers.
-/
import Derived.Test.YtkiomgnjjijbgaaLeaves
namespace Go.Proofs.Ytkiomgnjjijbgaa
open Go.RowKit
set_option linter.unusedVariables false

theorem walkPosNumbers (a0 a1 : Int) (w0 : (Lit.int .u64 a0).wf = true) (w1 : (Lit.int .u64 a1).wf = true) (w : World) :
    Calls Try.prog 4 #[.int .u64 a0, .int .u64 a1] w fun e w' => e = .returned (.bool true) ∧ Below w.heap.size w w' := by
  obtain ⟨n, rfl, hn⟩ := nat_of_u64 w0
  obtain ⟨s, rfl, hs⟩ := nat_of_u64 w1
  clear w0 w1
  obtain ⟨x, c, S1, S2⟩ := nodes_both n
  obtain ⟨z, d, P1, P2⟩ := leaves_both hs
  go_enter Try.func4, Try.ntmps4
  go_wp2_with fail
  refine (S1 _).mono ?_
  rintro e w' ⟨rfl, rfl⟩
  go_wp2_with fail
  refine (S2 _).mono ?_
  rintro e w' ⟨rfl, rfl⟩
  go_wp2_with fail
  refine (P1 _).mono ?_
  rintro e w' ⟨rfl, rfl⟩
  go_wp2_with fail
  refine (P2 _).mono ?_
  rintro e w' ⟨rfl, rfl⟩
  go_wp2_with fail
  refine (awake3_any _).mono ?_
  rintro e w5 ⟨rfl, q5⟩
  go_wp2
  go_ret
  exact ⟨rfl, q5⟩
end Go.Proofs.Ytkiomgnjjijbgaa
