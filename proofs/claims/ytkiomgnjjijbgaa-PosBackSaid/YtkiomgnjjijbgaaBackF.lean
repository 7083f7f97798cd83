/-
  PosBack, the case back_no_leaf.
-/
import Derived.Test.YtkiomgnjjijbgaaBack
namespace Go.Proofs.Ytkiomgnjjijbgaa
open Go.RowKit
set_option linter.unusedVariables false
set_option maxRecDepth 20000 in
set_option maxHeartbeats 2000000 in
theorem back_no_leaf {p h k : Nat} (hh : h < 256) (hk : k < 18446744073709551616) (rs : ¬ Right h k) {y : Nat} (r : Right 0 y) (hp : placeN 0 y = p) (w : World) :
    Calls Try.prog 11 #[.int .u64 p, .agg #[.int .u8 h, .int .u64 k]] w fun e w' => e = .returned (.bool true) ∧ Below w.heap.size w w' := by
  have C1 := Place_no hh hk rs
  clear rs hh hk
  have E1 := Spot_yes r
  have E2 := Place_yes r
  have U0 := UN_yes r
  have I0 := SI_yes r
  have bnd := right_bound r
  rw [hp] at E1 E2 U0 I0
  have S : Says p 0 y true := E1
  have K0 := Kids_no S (.inr rfl)
  clear S
  have W1 := PA_yes r (by omega)
  have W2 := SA_yes r (by omega)
  have rs2 := right_sib r (by omega)
  have W3 := SA_yes rs2 (by omega)
  have W4 := PA_yes rs2 (by omega)
  have m1 := up_more r (by omega)
  have m2 := up_more rs2 (by omega)
  rw [sib_half] at W4 m2
  rw [sib_sib, hp] at W3
  rw [hp] at W1 W2 m1
  obtain ⟨u, hu⟩ : ∃ u, placeN (0 + 1) (y / 2) = u := ⟨_, rfl⟩
  obtain ⟨v, hv⟩ : ∃ v, placeN 0 (sibN y) = v := ⟨_, rfl⟩
  rw [hu] at W1 W4 m1 m2
  rw [hv] at W2 W3 W4 m2
  have o3 : (p : Int) < (u : Int) := by omega
  have o4 : (v : Int) < (u : Int) := by omega
  clear hu hv m1 m2 rs2
  have yb : y ≤ 4611686018427387903 := by have := right_k r; omega
  rw [Nat.pow_zero, Nat.mul_one, Nat.mul_one] at U0
  rw [Nat.pow_zero, Nat.mul_one] at I0
  have D : (((y + 1 : Nat) : Int)) - (y : Int) = 1 := by omega
  have D2 : ((y : Int) + 1) - (y : Int) = 1 := by omega
  skip
  clear bnd r hp
  go_enter Try.func11, Try.ntmps11
  go_wp2_with fail
  refine (C1 _).mono ?_
  rintro e w1 ⟨rfl, q1⟩
  have k1_s := (SpotAt.new w h k 24).below q1
  have r1 : Below w.heap.size w w1 := ((Below.refl _ _).alloc (Nat.le_refl _) _).trans (q1.mono (by simp))
  have s1 := r1.size
  clear q1
  go_wp2_with fail
  refine (E1 _).mono ?_
  rintro e w2 ⟨rfl, q2⟩
  unfold spotV
  have k2_s := (k1_s).below q2
  have r2 : Below w.heap.size w w2 := r1.trans (q2.mono s1)
  have s2 := r2.size
  clear q2 k1_s r1 s1
  clear k2_s
  go_wp2_with fail
  refine (E2 _).mono ?_
  rintro e w3 ⟨rfl, q3⟩
  have k3_t := (SpotAt.new w2 0 y 24).below q3
  have r3 : Below w.heap.size w w3 := (r2.alloc s2 _).trans (q3.mono (by simp; omega))
  have s3 := r3.size
  clear q3 r2 s2
  go_wp2_with fail
  refine (U0 _).mono ?_
  rintro e w4 ⟨rfl, q4⟩
  have k4_t := (k3_t).below q4
  have r4 : Below w.heap.size w w4 := r3.trans (q4.mono s3)
  have s4 := r4.size
  clear q4 k3_t r3 s3
  go_wp2_with fail
  refine (I0 _).mono ?_
  rintro e w5 ⟨rfl, q5⟩
  have k5_t := (k4_t).below q5
  have r5 : Below w.heap.size w w5 := r4.trans (q5.mono s4)
  have s5 := r5.size
  clear q5 k4_t r4 s4
  obtain ⟨z5_t, c5_t, d5_t⟩ := id k5_t
  go_wp2_with fail
  refine (K0 _).mono ?_
  rintro e w6 ⟨rfl, q6⟩
  have k6_t := (k5_t).below q6
  have r6 : Below w.heap.size w w6 := r5.trans (q6.mono s5)
  have s6 := r6.size
  clear q6 k5_t r5 s5
  clear z5_t c5_t d5_t
  obtain ⟨z6_t, c6_t, d6_t⟩ := id k6_t
  go_wp2_with fail
  refine (W1 _).mono ?_
  rintro e w7 ⟨rfl, q7⟩
  have k7_t := (k6_t).below q7
  have r7 : Below w.heap.size w w7 := r6.trans (q7.mono s6)
  have s7 := r7.size
  clear q7 k6_t r6 s6
  clear z6_t c6_t d6_t
  go_wp2_with fail
  refine (W2 _).mono ?_
  rintro e w8 ⟨rfl, q8⟩
  have k8_t := (k7_t).below q8
  have r8 : Below w.heap.size w w8 := r7.trans (q8.mono s7)
  have s8 := r8.size
  clear q8 k7_t r7 s7
  obtain ⟨z8_t, c8_t, d8_t⟩ := id k8_t
  go_wp2_with fail
  refine (W3 _).mono ?_
  rintro e w9 ⟨rfl, q9⟩
  have k9_t := (k8_t).below q9
  have r9 : Below w.heap.size w w9 := r8.trans (q9.mono s8)
  have s9 := r9.size
  clear q9 k8_t r8 s8
  clear z8_t c8_t d8_t
  go_wp2_with fail
  refine (W4 _).mono ?_
  rintro e w10 ⟨rfl, q10⟩
  have k10_t := (k9_t).below q10
  have r10 : Below w.heap.size w w10 := r9.trans (q10.mono s9)
  have s10 := r10.size
  clear q10 k9_t r9 s9
  go_wp2_with fail
  refine (awake3_any _).mono ?_
  rintro e wz ⟨rfl, qz⟩
  have rz : Below w.heap.size w wz := r10.trans (qz.mono s10)
  go_wp2
  go_ret
  exact ⟨rfl, rz⟩
end Go.Proofs.Ytkiomgnjjijbgaa
