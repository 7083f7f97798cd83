/-
  PosBack, the case back_yes_no.
-/
import Derived.Test.YtkiomgnjjijbgaaBack
namespace Go.Proofs.Ytkiomgnjjijbgaa
open Go.RowKit
set_option linter.unusedVariables false
set_option maxRecDepth 20000 in
set_option maxHeartbeats 2000000 in
theorem back_yes_no {p h k : Nat} (hh : h < 256) (hk : k < 18446744073709551616) (rs : Right h k) (hp : p < 18446744073709551616) (hno : 9223372036854775807 ≤ p) (w : World) :
    Calls Try.prog 11 #[.int .u64 p, .agg #[.int .u8 h, .int .u64 k]] w fun e w' => e = .returned (.bool true) ∧ Below w.heap.size w w' := by
  have C1 := Place_yes rs
  have C2 := Spot_yes rs
  obtain ⟨ps, hps⟩ : ∃ ps, placeN h k = ps := ⟨_, rfl⟩
  rw [hps] at C1 C2
  clear hps
  clear rs hh hk
  have S : Says p 0 0 false := Spot_no hp hno
  have R : false = true → Right 0 0 ∧ placeN 0 0 = p := fun h => by cases h
  have D1 := Parent_any S R
  have D2 := Sibling_any S R
  have D3 := Kids_no S (.inl rfl)
  have D4 := Under_any S R
  have D5 := Since_any S R
  have D6 := Index_any S
  have D7 := Right_one S (by decide)
  rw [show nParent 0 0 false = (0, false) by unfold nParent; rw [if_neg (by simp)]] at D1
  rw [show nSibling 0 0 false = (0, false) by unfold nSibling; rw [if_neg (by simp)]] at D2
  rw [show indexN 0 0 false = (0, false) by unfold indexN; rw [if_neg (by simp)]] at D6
  rw [show (((0 % 2 : Nat) : Int) == 1) = false by decide] at D7
  generalize fromN 0 0 false = f at *
  generalize toN 0 0 false = t at *
  have E1 : Says p 0 0 false := S
  unfold Says at E1
  clear R S hp hno
  go_enter Try.func11, Try.ntmps11
  go_wp2_with fail
  refine (C1 _).mono ?_
  rintro e w1 ⟨rfl, q1⟩
  have k1_s := (SpotAt.new w h k 24).below q1
  have r1 : Below w.heap.size w w1 := ((Below.refl _ _).alloc (Nat.le_refl _) _).trans (q1.mono (by simp))
  have s1 := r1.size
  clear q1
  go_wp2_with fail
  refine (C2 _).mono ?_
  rintro e w2 ⟨rfl, q2⟩
  unfold spotV
  have k2_s := (k1_s).below q2
  have r2 : Below w.heap.size w w2 := r1.trans (q2.mono s1)
  have s2 := r2.size
  clear q2 k1_s r1 s1
  obtain ⟨z2_s, c2_s, d2_s⟩ := id k2_s
  go_wp2_with fail
  refine (E1 _).mono ?_
  rintro e w3 ⟨rfl, q3⟩
  unfold spotV
  have k3_s := (k2_s.alloc _).below q3
  have k3_q := (SpotAt.new w2 h k 24).below q3
  have r3 : Below w.heap.size w w3 := (r2.alloc s2 _).trans (q3.mono (by simp; omega))
  have s3 := r3.size
  clear q3 k2_s r2 s2
  clear z2_s c2_s d2_s
  clear k3_s
  clear k3_q
  go_wp2_with fail
  refine (D1 _).mono ?_
  rintro e w4 ⟨rfl, q4⟩
  have k4_t := (SpotAt.new w3 0 0 24).below q4
  have r4 : Below w.heap.size w w4 := (r3.alloc s3 _).trans (q4.mono (by simp; omega))
  have s4 := r4.size
  clear q4 r3 s3
  go_wp2_with fail
  refine (D2 _).mono ?_
  rintro e w5 ⟨rfl, q5⟩
  have k5_t := (k4_t).below q5
  have r5 : Below w.heap.size w w5 := r4.trans (q5.mono s4)
  have s5 := r5.size
  clear q5 k4_t r4 s4
  go_wp2_with fail
  refine (D3 _).mono ?_
  rintro e w6 ⟨rfl, q6⟩
  have k6_t := (k5_t).below q6
  have r6 : Below w.heap.size w w6 := r5.trans (q6.mono s5)
  have s6 := r6.size
  clear q6 k5_t r5 s5
  go_wp2_with fail
  refine (D4 _).mono ?_
  rintro e w7 ⟨rfl, q7⟩
  have k7_t := (k6_t).below q7
  have r7 : Below w.heap.size w w7 := r6.trans (q7.mono s6)
  have s7 := r7.size
  clear q7 k6_t r6 s6
  go_wp2_with fail
  refine (D5 _).mono ?_
  rintro e w8 ⟨rfl, q8⟩
  have k8_t := (k7_t).below q8
  have r8 : Below w.heap.size w w8 := r7.trans (q8.mono s7)
  have s8 := r8.size
  clear q8 k7_t r7 s7
  go_wp2_with fail
  refine (D6 _).mono ?_
  rintro e w9 ⟨rfl, q9⟩
  have k9_t := (k8_t).below q9
  have r9 : Below w.heap.size w w9 := r8.trans (q9.mono s8)
  have s9 := r9.size
  clear q9 k8_t r8 s8
  go_wp2_with fail
  refine (D7 _).mono ?_
  rintro e w10 ⟨rfl, q10⟩
  have k10_t := (k9_t).below q10
  have r10 : Below w.heap.size w w10 := r9.trans (q10.mono s9)
  have s10 := r10.size
  clear q10 k9_t r9 s9
  clear k10_t
  go_wp2_with fail
  refine (awake3_any _).mono ?_
  rintro e wz ⟨rfl, qz⟩
  have rz : Below w.heap.size w wz := r10.trans (qz.mono s10)
  go_wp2
  go_ret
  exact ⟨rfl, rz⟩
end Go.Proofs.Ytkiomgnjjijbgaa
