/-
  Kids, Right, by the program and by the reference.
-/
import Derived.Test.YtkiomgnjjijbgaaKin
namespace Go.Proofs.Ytkiomgnjjijbgaa
open Go.RowKit
set_option linter.unusedVariables false

theorem Kids_no {p x y : Nat} {c : Bool} (S : Says p x y c) (h : c = false ∨ x = 0) (w : World) :
    Calls Try.prog 35 #[.int .u64 p] w fun e w' => e = .returned (.tuple #[.int .u64 0, .int .u64 0, .bool false]) ∧ Below w.heap.size w w' := by
  cases c with
  | false =>
    go_enter Try.func35, Try.ntmps35
    go_wp2_with fail
    refine (S _).mono ?_
    rintro e w1 ⟨rfl, q1⟩
    unfold spotV
    have s1 := q1.size
    go_wp2
    exact bodyPost_ret (v := .tuple #[.int .u64 0, .int .u64 0, .bool false]) (by simp [results, Try.results35, go_sem]) rfl ⟨rfl, q1.alloc s1 _⟩
  | true =>
    obtain rfl : x = 0 := by
      rcases h with h | h
      · cases h
      · exact h
    go_enter Try.func35, Try.ntmps35
    go_wp2_with fail
    refine (S _).mono ?_
    rintro e w1 ⟨rfl, q1⟩
    unfold spotV
    have s1 := q1.size
    go_wp2
    exact bodyPost_ret (v := .tuple #[.int .u64 0, .int .u64 0, .bool false]) (by simp [results, Try.results35, go_sem]) rfl ⟨rfl, q1.alloc s1 _⟩
theorem refKids_no {p x y : Nat} {c : Bool} (S : RefSays p x y c) (h : c = false ∨ x = 0) (w : World) :
    Calls Try.prog 36 #[.int .u64 p] w fun e w' => e = .returned (.tuple #[.int .u64 0, .int .u64 0, .bool false]) ∧ Below w.heap.size w w' := by
  cases c with
  | false =>
    go_enter Try.func36, Try.ntmps36
    go_wp2_with fail
    refine (S _).mono ?_
    rintro e w1 ⟨rfl, q1⟩
    unfold spotV
    have s1 := q1.size
    go_wp2
    exact bodyPost_ret (v := .tuple #[.int .u64 0, .int .u64 0, .bool false]) (by simp [results, Try.results36, go_sem]) rfl ⟨rfl, q1.alloc s1 _⟩
  | true =>
    obtain rfl : x = 0 := by
      rcases h with h | h
      · cases h
      · exact h
    go_enter Try.func36, Try.ntmps36
    go_wp2_with fail
    refine (S _).mono ?_
    rintro e w1 ⟨rfl, q1⟩
    unfold spotV
    have s1 := q1.size
    go_wp2
    exact bodyPost_ret (v := .tuple #[.int .u64 0, .int .u64 0, .bool false]) (by simp [results, Try.results36, go_sem]) rfl ⟨rfl, q1.alloc s1 _⟩
theorem kids_place {h y p : Nat} (r : Right (h + 1) y) (e : placeN (h + 1) y = p) :
    placeN h (2 * y) = p - 2 ^ (h + 1) ∧ placeN h (2 * y + 1) = p - 1 ∧ 2 ^ (h + 1) ≤ p ∧ 2 ^ (h + 1) < 18446744073709551616 ∧ 1 ≤ p ∧ p < 9223372036854775807 := by
  have hy := right_k r
  have b := right_bound r
  have pn := place_next (h := h + 1) (k := y) (by omega)
  have hm := nodeN_mono_le b
  rw [nodes_most] at hm
  have pb := place_base (h + 1) y
  have e2 : 2 ^ (h + 1 + 1) = 2 ^ (h + 1) * 2 := Nat.pow_succ ..
  have t2 := two_le_pow h
  have l2 : 2 ^ (h + 1) ≤ 2 ^ 62 := Nat.pow_le_pow_right (by decide) r.1
  rw [p62] at l2
  refine ⟨by rw [place_left (by omega), e], by rw [place_right (by omega), e], ?_, ?_, ?_, ?_⟩ <;> omega
theorem Kids_yes {p h y : Nat} (S : Says p (h + 1) y true) (r : Right (h + 1) y) (e : placeN (h + 1) y = p) (w : World) :
    Calls Try.prog 35 #[.int .u64 p] w fun e w' => e = .returned (.tuple #[.int .u64 (placeN h (2 * y)), .int .u64 (placeN h (2 * y + 1)), .bool true]) ∧ Below w.heap.size w w' := by
  obtain ⟨k1, k2, k3, k4, k5, k6⟩ := kids_place r e
  rw [k1, k2]
  have i1 : (((h + 1 : Nat) : Int) == 0) = false := beq_eq_false_iff_ne.2 (by omega)
  have i2 : ((h : Int)) ≤ 61 := by have := r.1; omega
  obtain ⟨t, ht⟩ : ∃ t, 2 ^ (h + 1) = t := ⟨_, rfl⟩
  have B1 : IntKind.u64.wrap (2 ^ (h + 1)) = (t : Int) := by
    have e : (2 : Int) ^ (h + 1) = ((2 ^ (h + 1) : Nat) : Int) := cast_pow _
    rw [e, ht, wrap_u64]
    omega
  rw [ht] at k3 k4
  rw [ht]
  obtain ⟨a, ha⟩ : ∃ a, p - t = a := ⟨_, rfl⟩
  obtain ⟨b, hb⟩ : ∃ b, p - 1 = b := ⟨_, rfl⟩
  rw [ha, hb]
  have A : (p : Int) - (t : Int) = (a : Int) := by omega
  have B : (p : Int) - 1 = (b : Int) := by omega
  have i3 : (t : Int) ≤ (p : Int) := by omega
  have i4 : (1 : Int) ≤ (p : Int) := by omega
  have i5 : p ≤ 9223372036854775806 := by omega
  clear k1 k2 k3 k4 k5 k6 r e ht ha hb
  go_enter Try.func35, Try.ntmps35
  go_wp2_with fail
  refine (S _).mono ?_
  rintro e w1 ⟨rfl, q1⟩
  unfold spotV
  have s1 := q1.size
  go_wp2
  exact bodyPost_ret (v := .tuple #[.int .u64 a, .int .u64 b, .bool true]) (by simp [results, Try.results35, go_sem]) rfl ⟨rfl, q1.alloc s1 _⟩
theorem refKids_yes {p h y : Nat} (S : RefSays p (h + 1) y true) (r : Right (h + 1) y) (w : World) :
    Calls Try.prog 36 #[.int .u64 p] w fun e w' => e = .returned (.tuple #[.int .u64 (placeN h (2 * y)), .int .u64 (placeN h (2 * y + 1)), .bool true]) ∧ Below w.heap.size w w' := by
  have P := refPlace_yes (right_left r).1
  have Q := refPlace_yes (right_left r).2
  have i1 : (((h + 1 : Nat) : Int) == 0) = false := beq_eq_false_iff_ne.2 (by omega)
  have i2 : ((h : Int)) ≤ 61 := by have := r.1; omega
  have hy := right_k r
  have hy2 : y ≤ 4611686018427387903 := by omega
  clear hy r
  go_enter Try.func36, Try.ntmps36
  go_wp2_with fail
  refine (S _).mono ?_
  rintro e w1 ⟨rfl, q1⟩
  unfold spotV
  have s1 := q1.size
  have k1 := (SpotAt.new w1 (h + 1) y 24)
  go_wp2_with fail
  refine (P _).mono ?_
  rintro e w2 ⟨rfl, q2⟩
  have r1 := q1.alloc s1 (.cells #[.int .u8 ((h + 1 : Nat) : Int), .int .u64 (y : Int)] 24 (0, 0))
  have r2 := r1.trans (q2.mono r1.size)
  obtain ⟨z2, c20, c21⟩ := k1.below q2
  clear q1 q2 r1 s1 k1
  go_wp2_with fail
  refine (Q _).mono ?_
  rintro e w3 ⟨rfl, q3⟩
  have r3 := r2.trans (q3.mono r2.size)
  clear r2 q3
  go_wp2
  exact bodyPost_ret (v := .tuple #[.int .u64 (placeN h (2 * y)), .int .u64 (placeN h (2 * y + 1)), .bool true]) (by simp [results, Try.results36, go_sem]) rfl ⟨rfl, r3⟩
theorem kids_both {p x y : Nat} {c : Bool} (S : Says p x y c) (S2 : RefSays p x y c) (R : c = true → Right x y ∧ placeN x y = p) : ∃ (a b : Nat) (d : Bool), (∀ w : World, Calls Try.prog 35 #[.int .u64 p] w fun e w' => e = .returned (.tuple #[.int .u64 a, .int .u64 b, .bool d]) ∧ Below w.heap.size w w') ∧
    (∀ w : World, Calls Try.prog 36 #[.int .u64 p] w fun e w' => e = .returned (.tuple #[.int .u64 a, .int .u64 b, .bool d]) ∧ Below w.heap.size w w') := by
  cases c with
  | false => exact ⟨0, 0, false, Kids_no S (.inl rfl), refKids_no S2 (.inl rfl)⟩
  | true =>
    obtain ⟨r, e⟩ := R rfl
    cases x with
    | zero => exact ⟨0, 0, false, Kids_no S (.inr rfl), refKids_no S2 (.inr rfl)⟩
    | succ h => exact ⟨_, _, true, Kids_yes S r e, refKids_yes S2 r⟩

theorem Right_one {p x y : Nat} {c : Bool} (S : Says p x y c) (hy : y < 18446744073709551616) (w : World) :
    Calls Try.prog 37 #[.int .u64 p] w fun e w' => e = .returned (.bool (((y % 2 : Nat) : Int) == 1)) ∧ Below w.heap.size w w' := by
  have A1 := and1_u64 hy
  generalize y % 2 = z at *
  go_enter Try.func37, Try.ntmps37
  go_wp2_with fail
  refine (S _).mono ?_
  rintro e w1 ⟨rfl, q1⟩
  unfold spotV
  have s1 := q1.size
  go_wp2
  go_ret
  exact ⟨rfl, q1.alloc s1 _⟩
theorem refRight_no {p x y : Nat} (S : RefSays p x y false) (w : World) :
    Calls Try.prog 38 #[.int .u64 p] w fun e w' => e = .returned (.bool false) ∧ Below w.heap.size w w' := by
  go_enter Try.func38, Try.ntmps38
  go_wp2_with fail
  refine (S _).mono ?_
  rintro e w1 ⟨rfl, q1⟩
  unfold spotV
  have s1 := q1.size
  go_wp2
  go_ret
  exact ⟨rfl, q1.alloc s1 _⟩
theorem refRight_yes {p x y : Nat} (S : RefSays p x y true) (w : World) :
    Calls Try.prog 38 #[.int .u64 p] w fun e w' => e = .returned (.bool (((y % 2 : Nat) : Int) == 1)) ∧ Below w.heap.size w w' := by
  have A1 : (y : Int) % 2 = ((y % 2 : Nat) : Int) := by omega
  generalize y % 2 = z at *
  go_enter Try.func38, Try.ntmps38
  go_wp2_with fail
  refine (S _).mono ?_
  rintro e w1 ⟨rfl, q1⟩
  unfold spotV
  have s1 := q1.size
  go_wp2
  go_ret
  exact ⟨rfl, q1.alloc s1 _⟩
theorem right_both {p : Nat} (hp : p < 18446744073709551616) : ∃ d : Bool, (∀ w : World, Calls Try.prog 37 #[.int .u64 p] w fun e w' => e = .returned (.bool d) ∧ Below w.heap.size w w') ∧
    (∀ w : World, Calls Try.prog 38 #[.int .u64 p] w fun e w' => e = .returned (.bool d) ∧ Below w.heap.size w w') := by
  by_cases h : p < 9223372036854775807
  · obtain ⟨a, b, r, rfl⟩ := spot_at h
    have := right_k r
    exact ⟨_, Right_one (c := true) (Spot_yes r) (by omega), refRight_yes (refSpot_yes r)⟩
  · refine ⟨false, ?_, refRight_no (refSpot_no hp (by omega))⟩
    intro w
    exact Right_one (y := 0) (Spot_no hp (by omega)) (by decide) w
end Go.Proofs.Ytkiomgnjjijbgaa
