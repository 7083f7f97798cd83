/-
  PosBack, the case back_yes_top.
-/
import Derived.Test.YtkiomgnjjijbgaaBack
namespace Go.Proofs.Ytkiomgnjjijbgaa
open Go.RowKit
set_option linter.unusedVariables false
set_option maxRecDepth 20000 in
set_option maxHeartbeats 2000000 in
theorem back_yes_top {p h k : Nat} (hh : h < 256) (hk : k < 18446744073709551616) (rs : Right h k) {x y : Nat} (r : Right (x + 1) y) (hx : x + 1 = 62) (hp : placeN (x + 1) y = p) (w : World) :
    Calls Try.prog 11 #[.int .u64 p, .agg #[.int .u8 h, .int .u64 k]] w fun e w' => e = .returned (.bool true) ∧ Below w.heap.size w w' := by
  have C1 := Place_yes rs
  have C2 := Spot_yes rs
  obtain ⟨ps, hps⟩ : ∃ ps, placeN h k = ps := ⟨_, rfl⟩
  rw [hps] at C1 C2
  clear hps
  clear rs hh hk
  have E1 := Spot_yes r
  have E2 := Place_yes r
  have U0 := UN_yes r
  have I0 := SI_yes r
  have bnd := right_bound r
  rw [hp] at E1 E2 U0 I0
  have S : Says p (x + 1) y true := E1
  have K0 := Kids_yes S r hp
  clear S
  obtain ⟨j1, j2, j3, j4, j5, j6⟩ := kids_place r hp
  have j7 := two_le_pow x
  have L0 := (right_left r).1
  have L1 := (right_left r).2
  have U1 := UN_yes L0
  have U2 := UN_yes L1
  have V1 := PA_yes L0 (by have := r.1; omega)
  have V2 := PA_yes L1 (by have := r.1; omega)
  have V3 := SA_yes L0 (by have := r.1; omega)
  have G1 := RT_yes L0 false (by rw [show 2 * y % 2 = 0 by omega]; rfl)
  have G2 := RT_yes L1 true (by rw [show (2 * y + 1) % 2 = 1 by omega]; rfl)
  rw [show 2 * y / 2 = y by omega, hp] at V1
  rw [show (2 * y + 1) / 2 = y by omega, hp] at V2
  rw [sib_even] at V3
  have b1 := right_bound L1
  obtain ⟨l, hl⟩ : ∃ l, placeN x (2 * y) = l := ⟨_, rfl⟩
  obtain ⟨rr, hr⟩ : ∃ rr, placeN x (2 * y + 1) = rr := ⟨_, rfl⟩
  rw [hl] at K0 U1 V1 V3 G1 j1
  rw [hr] at K0 U2 V2 V3 G2 j2
  have o1 : (l : Int) < (rr : Int) := by omega
  have o2 : (rr : Int) < (p : Int) := by omega
  have ex : y * 2 ^ (x + 1) = 2 * y * 2 ^ x := by rw [Nat.pow_succ, ← Nat.mul_assoc, Nat.mul_comm 2 y, Nat.mul_assoc, Nat.mul_assoc, Nat.mul_comm 2]
  have ey : (y + 1) * 2 ^ (x + 1) = (2 * y + 1 + 1) * 2 ^ x := by rw [Nat.pow_succ, show 2 * y + 1 + 1 = 2 * (y + 1) by omega, ← Nat.mul_assoc, Nat.mul_comm 2 (y + 1), Nat.mul_assoc, Nat.mul_assoc, Nat.mul_comm 2]
  have em1 : (2 * y + 1) * 2 ^ x = 2 * y * 2 ^ x + 2 ^ x := by rw [Nat.add_mul, Nat.one_mul]
  have em2 : (2 * y + 1 + 1) * 2 ^ x = (2 * y + 1) * 2 ^ x + 2 ^ x := by rw [Nat.add_mul, Nat.one_mul]
  obtain rfl : x = 61 := by omega
  have W1 := PA_top r
  have W2 := SA_top r
  have hp2 : placeN 62 y = p := hp
  rw [hp2] at W1 W2
  clear hp2
  obtain rfl : y = 0 := by have h2 := r.2; simpa using h2
  have U0' : ∀ w : World, Calls Try.prog 22 #[.int .u64 p] w fun e w' => e = .returned (.tuple #[.int .u64 0, .int .u64 4611686018427387904, .bool true]) ∧ Below w.heap.size w w' := U0
  have U1' : ∀ w : World, Calls Try.prog 22 #[.int .u64 l] w fun e w' => e = .returned (.tuple #[.int .u64 0, .int .u64 2305843009213693952, .bool true]) ∧ Below w.heap.size w w' := U1
  have U2' : ∀ w : World, Calls Try.prog 22 #[.int .u64 rr] w fun e w' => e = .returned (.tuple #[.int .u64 2305843009213693952, .int .u64 4611686018427387904, .bool true]) ∧ Below w.heap.size w w' := U2
  have I0' : ∀ w : World, Calls Try.prog 24 #[.int .u64 p] w fun e w' => e = .returned (.tuple #[.int .u64 4611686018427387904, .bool true]) ∧ Below w.heap.size w w' := I0
  clear U0 U1 U2 I0 ex ey em1 em2 b1 L0 L1 j1 j2 j3 j4 j5 j6 j7 hl hr
  have x62 : ((61 : Nat) + 1) = 62 := rfl
  rw [x62] at E1 E2
  clear x62 hx
  skip
  clear bnd r hp
  go_enter Try.func11, Try.ntmps11
  go_wp2_with fail
  refine (C1 _).mono ?_
  rintro e w1 ⟨rfl, q1⟩
  have k1_s := (SpotAt.new w h k 24).below q1
  have r1 : Below w.heap.size w w1 := ((Below.refl _ _).alloc (Nat.le_refl _) _).trans (q1.mono (by simp))
  have s1 := r1.size
  clear q1
  go_wp2_with fail
  refine (C2 _).mono ?_
  rintro e w2 ⟨rfl, q2⟩
  unfold spotV
  have k2_s := (k1_s).below q2
  have r2 : Below w.heap.size w w2 := r1.trans (q2.mono s1)
  have s2 := r2.size
  clear q2 k1_s r1 s1
  obtain ⟨z2_s, c2_s, d2_s⟩ := id k2_s
  go_wp2_with fail
  refine (E1 _).mono ?_
  rintro e w3 ⟨rfl, q3⟩
  unfold spotV
  have k3_s := (k2_s.alloc _).below q3
  have k3_q := (SpotAt.new w2 h k 24).below q3
  have r3 : Below w.heap.size w w3 := (r2.alloc s2 _).trans (q3.mono (by simp; omega))
  have s3 := r3.size
  clear q3 k2_s r2 s2
  clear z2_s c2_s d2_s
  clear k3_s
  clear k3_q
  go_wp2_with fail
  refine (E2 _).mono ?_
  rintro e w4 ⟨rfl, q4⟩
  have k4_t := (SpotAt.new w3 62 0 24).below q4
  have r4 : Below w.heap.size w w4 := (r3.alloc s3 _).trans (q4.mono (by simp; omega))
  have s4 := r4.size
  clear q4 r3 s3
  go_wp2_with fail
  refine (U0' _).mono ?_
  rintro e w5 ⟨rfl, q5⟩
  have k5_t := (k4_t).below q5
  have r5 : Below w.heap.size w w5 := r4.trans (q5.mono s4)
  have s5 := r5.size
  clear q5 k4_t r4 s4
  go_wp2_with fail
  refine (I0' _).mono ?_
  rintro e w6 ⟨rfl, q6⟩
  have k6_t := (k5_t).below q6
  have r6 : Below w.heap.size w w6 := r5.trans (q6.mono s5)
  have s6 := r6.size
  clear q6 k5_t r5 s5
  obtain ⟨z6_t, c6_t, d6_t⟩ := id k6_t
  go_wp2_with fail
  refine (K0 _).mono ?_
  rintro e w7 ⟨rfl, q7⟩
  have k7_t := (k6_t).below q7
  have r7 : Below w.heap.size w w7 := r6.trans (q7.mono s6)
  have s7 := r7.size
  clear q7 k6_t r6 s6
  clear z6_t c6_t d6_t
  go_wp2_with fail
  refine (U1' _).mono ?_
  rintro e w8 ⟨rfl, q8⟩
  have k8_t := (k7_t).below q8
  have r8 : Below w.heap.size w w8 := r7.trans (q8.mono s7)
  have s8 := r8.size
  clear q8 k7_t r7 s7
  go_wp2_with fail
  refine (U2' _).mono ?_
  rintro e w9 ⟨rfl, q9⟩
  have k9_t := (k8_t).below q9
  have r9 : Below w.heap.size w w9 := r8.trans (q9.mono s8)
  have s9 := r9.size
  clear q9 k8_t r8 s8
  go_wp2_with fail
  refine (V1 _).mono ?_
  rintro e w10 ⟨rfl, q10⟩
  have k10_t := (k9_t).below q10
  have r10 : Below w.heap.size w w10 := r9.trans (q10.mono s9)
  have s10 := r10.size
  clear q10 k9_t r9 s9
  go_wp2_with fail
  refine (V2 _).mono ?_
  rintro e w11 ⟨rfl, q11⟩
  have k11_t := (k10_t).below q11
  have r11 : Below w.heap.size w w11 := r10.trans (q11.mono s10)
  have s11 := r11.size
  clear q11 k10_t r10 s10
  go_wp2_with fail
  refine (V3 _).mono ?_
  rintro e w12 ⟨rfl, q12⟩
  have k12_t := (k11_t).below q12
  have r12 : Below w.heap.size w w12 := r11.trans (q12.mono s11)
  have s12 := r12.size
  clear q12 k11_t r11 s11
  go_wp2_with fail
  refine (G1 _).mono ?_
  rintro e w13 ⟨rfl, q13⟩
  have k13_t := (k12_t).below q13
  have r13 : Below w.heap.size w w13 := r12.trans (q13.mono s12)
  have s13 := r13.size
  clear q13 k12_t r12 s12
  go_wp2_with fail
  refine (G2 _).mono ?_
  rintro e w14 ⟨rfl, q14⟩
  have k14_t := (k13_t).below q14
  have r14 : Below w.heap.size w w14 := r13.trans (q14.mono s13)
  have s14 := r14.size
  clear q14 k13_t r13 s13
  go_wp2_with fail
  refine (W1 _).mono ?_
  rintro e w15 ⟨rfl, q15⟩
  have k15_t := (k14_t).below q15
  have r15 : Below w.heap.size w w15 := r14.trans (q15.mono s14)
  have s15 := r15.size
  clear q15 k14_t r14 s14
  go_wp2_with fail
  refine (W2 _).mono ?_
  rintro e w16 ⟨rfl, q16⟩
  have k16_t := (k15_t).below q16
  have r16 : Below w.heap.size w w16 := r15.trans (q16.mono s15)
  have s16 := r16.size
  clear q16 k15_t r15 s15
  obtain ⟨z16_t, c16_t, d16_t⟩ := id k16_t
  go_wp2_with fail
  refine (awake3_any _).mono ?_
  rintro e wz ⟨rfl, qz⟩
  have rz : Below w.heap.size w wz := r16.trans (qz.mono s16)
  go_wp2
  go_ret
  exact ⟨rfl, rz⟩
end Go.Proofs.Ytkiomgnjjijbgaa
