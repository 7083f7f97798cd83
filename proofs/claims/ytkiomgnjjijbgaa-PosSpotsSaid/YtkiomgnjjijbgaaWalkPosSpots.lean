/-
  PosSpots.
-/
import Derived.Test.YtkiomgnjjijbgaaBox
namespace Go.Proofs.Ytkiomgnjjijbgaa
open Go.RowKit
set_option linter.unusedVariables false

theorem walkPosSpots (a0 b0 b1 : Int) (w0 : (Lit.int .u64 a0).wf = true) (w1 : (Lit.int .u8 b0).wf = true) (w2 : (Lit.int .u64 b1).wf = true) (w : World) :
    Calls Try.prog 3 #[.int .u64 a0, .agg #[.int .u8 b0, .int .u64 b1]] w fun e w' => e = .returned (.bool true) ∧ Below w.heap.size w w' := by
  obtain ⟨p, rfl, hp⟩ := nat_of_u64 w0
  obtain ⟨k, rfl, hk⟩ := nat_of_u64 w2
  obtain ⟨h, rfl, hh⟩ := nat_of_u8 w1
  clear w0 w1 w2
  obtain ⟨x, y, c, S1, S2⟩ := spot_both hp
  obtain ⟨z, d, P1, P2⟩ := place_both hh hk
  go_enter Try.func3, Try.ntmps3
  go_wp2_with fail
  refine (S1 _).mono ?_
  rintro e w1 ⟨rfl, q1⟩
  unfold spotV
  have k1 := (SpotAt.new w h k 24).below q1
  have B1 : Below w.heap.size w w1 := ((Below.refl _ _).alloc (Nat.le_refl _) _).trans (q1.mono (by simp))
  have t1 := k1.1
  clear q1
  go_wp2_with fail
  refine (S2 _).mono ?_
  rintro e w2 ⟨rfl, q2⟩
  unfold spotV
  obtain ⟨z2, c20, c21⟩ := (k1.alloc _).below q2
  obtain ⟨y2, d20, d21⟩ := (SpotAt.new w1 x y 24).below q2
  have B2 : Below w.heap.size w w2 := (B1.alloc (by omega) _).trans (q2.mono (by simp; omega))
  clear q2 k1 t1
  go_wp2_with fail
  refine (P1 _).mono ?_
  rintro e w3 ⟨rfl, q3⟩
  obtain ⟨z3, c30, c31⟩ := (SpotAt.alloc ⟨z2, c20, c21⟩ _).below q3
  obtain ⟨y3, d30, d31⟩ := (SpotAt.alloc ⟨y2, d20, d21⟩ _).below q3
  obtain ⟨x3, e30, e31⟩ := (SpotAt.new w2 x y 24).below q3
  have B3 : Below w.heap.size w w3 := (B2.alloc (by omega) _).trans (q3.mono (by simp; omega))
  clear q3 z2 c20 c21 y2 d20 d21 B2 B1
  go_wp2_with fail
  refine (P2 _).mono ?_
  rintro e w4 ⟨rfl, q4⟩
  obtain ⟨y4, d40, d41⟩ := (SpotAt.below ⟨y3, d30, d31⟩) q4
  obtain ⟨x4, e40, e41⟩ := (SpotAt.below ⟨x3, e30, e31⟩) q4
  have B4 : Below w.heap.size w w4 := B3.trans (q4.mono (by omega))
  have s4 : w.heap.size ≤ w4.heap.size := B4.size
  clear q4 z3 c30 c31 y3 d30 d31 x3 e30 e31 B3
  go_wp2_with fail
  refine (awake3_any _).mono ?_
  rintro e w5 ⟨rfl, q5⟩
  have B5 : Below w.heap.size w w5 := B4.trans (q5.mono s4)
  go_wp2
  go_ret
  exact ⟨rfl, B5⟩
end Go.Proofs.Ytkiomgnjjijbgaa
