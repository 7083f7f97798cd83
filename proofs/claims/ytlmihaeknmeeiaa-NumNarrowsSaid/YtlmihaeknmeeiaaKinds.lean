/-
  num's wide and Fits; massifref1's Kind, Narrow and Fits.
-/
import Derived.Test.YtlmihaeknmeeiaaAwake
import Derived.Test.YtlmihaeknmeeiaaRefSar
import Derived.Test.YtlmihaeknmeeiaaRefLay
namespace Go.Proofs.Ytlmihaeknmeeiaa
open Go.RowKit
set_option linter.unusedVariables false

def wideN (k : Int) : Int := if k = 4 then 64 else if k = 3 ∨ k = 7 then 32 else if k = 2 ∨ k = 6 then 16 else if k = 1 ∨ k = 5 then 8 else 0
theorem wide_any (k : Int) (w : World) : Calls Try.prog 52 #[.int .i64 k] w fun e w' => e = .returned (.int .i64 (wideN k)) ∧ w = w' := by
  by_cases k1 : k = 1
  · subst k1
    go_enter Try.func52, Try.ntmps52
    go_wp2
    go_ret
    exact ⟨rfl, rfl⟩
  by_cases k2 : k = 2
  · subst k2
    go_enter Try.func52, Try.ntmps52
    go_wp2
    go_ret
    exact ⟨rfl, rfl⟩
  by_cases k3 : k = 3
  · subst k3
    go_enter Try.func52, Try.ntmps52
    go_wp2
    go_ret
    exact ⟨rfl, rfl⟩
  by_cases k4 : k = 4
  · subst k4
    go_enter Try.func52, Try.ntmps52
    go_wp2
    go_ret
    exact ⟨rfl, rfl⟩
  by_cases k5 : k = 5
  · subst k5
    go_enter Try.func52, Try.ntmps52
    go_wp2
    go_ret
    exact ⟨rfl, rfl⟩
  by_cases k6 : k = 6
  · subst k6
    go_enter Try.func52, Try.ntmps52
    go_wp2
    go_ret
    exact ⟨rfl, rfl⟩
  by_cases k7 : k = 7
  · subst k7
    go_enter Try.func52, Try.ntmps52
    go_wp2
    go_ret
    exact ⟨rfl, rfl⟩
  have E : wideN k = 0 := by unfold wideN; rw [if_neg (by omega), if_neg (by omega), if_neg (by omega), if_neg (by omega)]
  have HE := Lib.hid E
  clear E
  have b1 : (k == 1) = false := beq_eq_false_iff_ne.2 k1
  have b2 : (k == 2) = false := beq_eq_false_iff_ne.2 k2
  have b3 : (k == 3) = false := beq_eq_false_iff_ne.2 k3
  have b4 : (k == 4) = false := beq_eq_false_iff_ne.2 k4
  have b5 : (k == 5) = false := beq_eq_false_iff_ne.2 k5
  have b6 : (k == 6) = false := beq_eq_false_iff_ne.2 k6
  have b7 : (k == 7) = false := beq_eq_false_iff_ne.2 k7
  clear k1 k2 k3 k4 k5 k6 k7
  go_enter Try.func52, Try.ntmps52
  go_wp2
  go_ret
  exact ⟨ret_int HE.out.symm, rfl⟩

def fitsB (x k : Int) : Bool := decide (1 ≤ k ∧ k ≤ 7 ∧ narN x k = x)
theorem ret_bool {a b : Bool} (h : a = b) : Ending.returned (.bool a) = .returned (.bool b) := by rw [h]

theorem kind_any (k : Int) (w : World) : Calls Try.prog 51 #[.int .i64 k] w fun e w' => e = .returned (.tuple #[.int .i64 (wideN k), .bool (decide (1 ≤ k ∧ k ≤ 4)), .bool (decide (1 ≤ k ∧ k ≤ 7))]) ∧ w = w' := by
  by_cases k1 : k = 1
  · subst k1
    go_enter Try.func51, Try.ntmps51
    go_wp2
    go_ret3
    exact ⟨rfl, rfl⟩
  by_cases k2 : k = 2
  · subst k2
    go_enter Try.func51, Try.ntmps51
    go_wp2
    go_ret3
    exact ⟨rfl, rfl⟩
  by_cases k3 : k = 3
  · subst k3
    go_enter Try.func51, Try.ntmps51
    go_wp2
    go_ret3
    exact ⟨rfl, rfl⟩
  by_cases k4 : k = 4
  · subst k4
    go_enter Try.func51, Try.ntmps51
    go_wp2
    go_ret3
    exact ⟨rfl, rfl⟩
  by_cases k5 : k = 5
  · subst k5
    go_enter Try.func51, Try.ntmps51
    go_wp2
    go_ret3
    exact ⟨rfl, rfl⟩
  by_cases k6 : k = 6
  · subst k6
    go_enter Try.func51, Try.ntmps51
    go_wp2
    go_ret3
    exact ⟨rfl, rfl⟩
  by_cases k7 : k = 7
  · subst k7
    go_enter Try.func51, Try.ntmps51
    go_wp2
    go_ret3
    exact ⟨rfl, rfl⟩
  have E : wideN k = 0 := by unfold wideN; rw [if_neg (by omega), if_neg (by omega), if_neg (by omega), if_neg (by omega)]
  have E2 : decide (1 ≤ k ∧ k ≤ 4) = false := decide_eq_false (by omega)
  have E3 : decide (1 ≤ k ∧ k ≤ 7) = false := decide_eq_false (by omega)
  have HE := Lib.hid E
  have HE2 := Lib.hid E2
  have HE3 := Lib.hid E3
  clear E E2 E3
  have b1 : (k == 1) = false := beq_eq_false_iff_ne.2 k1
  have b2 : (k == 2) = false := beq_eq_false_iff_ne.2 k2
  have b3 : (k == 3) = false := beq_eq_false_iff_ne.2 k3
  have b4 : (k == 4) = false := beq_eq_false_iff_ne.2 k4
  have b5 : (k == 5) = false := beq_eq_false_iff_ne.2 k5
  have b6 : (k == 6) = false := beq_eq_false_iff_ne.2 k6
  have b7 : (k == 7) = false := beq_eq_false_iff_ne.2 k7
  clear k1 k2 k3 k4 k5 k6 k7
  go_enter Try.func51, Try.ntmps51
  go_wp2
  go_ret3
  exact ⟨by rw [HE.out, HE2.out, HE3.out]; rfl, rfl⟩

theorem fits1 {x : Int} (h0 : -9223372036854775808 ≤ x) (h1 : x ≤ 9223372036854775807) (w : World) :
    Calls Try.prog 29 #[.int .i64 x, .int .i64 1] w fun e w' => e = .returned (.bool (fitsB x 1)) ∧ w = w' := by
  have E : (x / 128 == x / 9223372036854775808) = fitsB x 1 := by
    rw [Bool.eq_iff_iff]
    unfold fitsB
    rw [show narN x 1 = (x + 128) % 256 - 128 from rfl]
    simp only [beq_iff_eq, decide_eq_true_eq]
    omega
  have HE := Lib.hid E
  clear E
  go_enter Try.func29, Try.ntmps29
  go_wp2_with fail
  refine (wide_any _ _).mono ?_
  rintro e w' ⟨rfl, rfl⟩
  rw [show wideN 1 = 8 by decide]
  go_wp2
  go_ret
  exact ⟨by rw [← HE.out]; rfl, rfl⟩
theorem fits2 {x : Int} (h0 : -9223372036854775808 ≤ x) (h1 : x ≤ 9223372036854775807) (w : World) :
    Calls Try.prog 29 #[.int .i64 x, .int .i64 2] w fun e w' => e = .returned (.bool (fitsB x 2)) ∧ w = w' := by
  have E : (x / 32768 == x / 9223372036854775808) = fitsB x 2 := by
    rw [Bool.eq_iff_iff]
    unfold fitsB
    rw [show narN x 2 = (x + 32768) % 65536 - 32768 from rfl]
    simp only [beq_iff_eq, decide_eq_true_eq]
    omega
  have HE := Lib.hid E
  clear E
  go_enter Try.func29, Try.ntmps29
  go_wp2_with fail
  refine (wide_any _ _).mono ?_
  rintro e w' ⟨rfl, rfl⟩
  rw [show wideN 2 = 16 by decide]
  go_wp2
  go_ret
  exact ⟨by rw [← HE.out]; rfl, rfl⟩
theorem fits3 {x : Int} (h0 : -9223372036854775808 ≤ x) (h1 : x ≤ 9223372036854775807) (w : World) :
    Calls Try.prog 29 #[.int .i64 x, .int .i64 3] w fun e w' => e = .returned (.bool (fitsB x 3)) ∧ w = w' := by
  have E : (x / 2147483648 == x / 9223372036854775808) = fitsB x 3 := by
    rw [Bool.eq_iff_iff]
    unfold fitsB
    rw [show narN x 3 = (x + 2147483648) % 4294967296 - 2147483648 from rfl]
    simp only [beq_iff_eq, decide_eq_true_eq]
    omega
  have HE := Lib.hid E
  clear E
  go_enter Try.func29, Try.ntmps29
  go_wp2_with fail
  refine (wide_any _ _).mono ?_
  rintro e w' ⟨rfl, rfl⟩
  rw [show wideN 3 = 32 by decide]
  go_wp2
  go_ret
  exact ⟨by rw [← HE.out]; rfl, rfl⟩
theorem fits4 {x : Int} (h0 : -9223372036854775808 ≤ x) (h1 : x ≤ 9223372036854775807) (w : World) :
    Calls Try.prog 29 #[.int .i64 x, .int .i64 4] w fun e w' => e = .returned (.bool (fitsB x 4)) ∧ w = w' := by
  have E : true = fitsB x 4 := by unfold fitsB; simp [narN]
  have HE := Lib.hid E
  clear E
  go_enter Try.func29, Try.ntmps29
  go_wp2_with fail
  refine (wide_any _ _).mono ?_
  rintro e w' ⟨rfl, rfl⟩
  rw [show wideN 4 = 64 by decide]
  go_wp2
  go_ret
  exact ⟨by rw [← HE.out]; rfl, rfl⟩
theorem fits5 {x : Int} (h0 : -9223372036854775808 ≤ x) (h1 : x ≤ 9223372036854775807) (w : World) :
    Calls Try.prog 29 #[.int .i64 x, .int .i64 5] w fun e w' => e = .returned (.bool (fitsB x 5)) ∧ w = w' := by
  have E : (IntKind.u64.wrap x / 256 == 0) = fitsB x 5 := by
    rw [Bool.eq_iff_iff]
    unfold fitsB
    rw [show narN x 5 = x % 256 from rfl, wrap_u64]
    simp only [beq_iff_eq, decide_eq_true_eq]
    omega
  have HE := Lib.hid E
  clear E
  go_enter Try.func29, Try.ntmps29
  go_wp2_with fail
  refine (wide_any _ _).mono ?_
  rintro e w' ⟨rfl, rfl⟩
  rw [show wideN 5 = 8 by decide]
  go_wp2
  go_ret
  exact ⟨by rw [← HE.out]; rfl, rfl⟩
theorem fits6 {x : Int} (h0 : -9223372036854775808 ≤ x) (h1 : x ≤ 9223372036854775807) (w : World) :
    Calls Try.prog 29 #[.int .i64 x, .int .i64 6] w fun e w' => e = .returned (.bool (fitsB x 6)) ∧ w = w' := by
  have E : (IntKind.u64.wrap x / 65536 == 0) = fitsB x 6 := by
    rw [Bool.eq_iff_iff]
    unfold fitsB
    rw [show narN x 6 = x % 65536 from rfl, wrap_u64]
    simp only [beq_iff_eq, decide_eq_true_eq]
    omega
  have HE := Lib.hid E
  clear E
  go_enter Try.func29, Try.ntmps29
  go_wp2_with fail
  refine (wide_any _ _).mono ?_
  rintro e w' ⟨rfl, rfl⟩
  rw [show wideN 6 = 16 by decide]
  go_wp2
  go_ret
  exact ⟨by rw [← HE.out]; rfl, rfl⟩
theorem fits7 {x : Int} (h0 : -9223372036854775808 ≤ x) (h1 : x ≤ 9223372036854775807) (w : World) :
    Calls Try.prog 29 #[.int .i64 x, .int .i64 7] w fun e w' => e = .returned (.bool (fitsB x 7)) ∧ w = w' := by
  have E : (IntKind.u64.wrap x / 4294967296 == 0) = fitsB x 7 := by
    rw [Bool.eq_iff_iff]
    unfold fitsB
    rw [show narN x 7 = x % 4294967296 from rfl, wrap_u64]
    simp only [beq_iff_eq, decide_eq_true_eq]
    omega
  have HE := Lib.hid E
  clear E
  go_enter Try.func29, Try.ntmps29
  go_wp2_with fail
  refine (wide_any _ _).mono ?_
  rintro e w' ⟨rfl, rfl⟩
  rw [show wideN 7 = 32 by decide]
  go_wp2
  go_ret
  exact ⟨by rw [← HE.out]; rfl, rfl⟩
theorem Fits_any {x : Int} (h0 : -9223372036854775808 ≤ x) (h1 : x ≤ 9223372036854775807) (k : Int) (w : World) :
    Calls Try.prog 29 #[.int .i64 x, .int .i64 k] w fun e w' => e = .returned (.bool (fitsB x k)) ∧ w = w' := by
  by_cases k1 : k = 1
  · subst k1; exact fits1 h0 h1 w
  by_cases k2 : k = 2
  · subst k2; exact fits2 h0 h1 w
  by_cases k3 : k = 3
  · subst k3; exact fits3 h0 h1 w
  by_cases k4 : k = 4
  · subst k4; exact fits4 h0 h1 w
  by_cases k5 : k = 5
  · subst k5; exact fits5 h0 h1 w
  by_cases k6 : k = 6
  · subst k6; exact fits6 h0 h1 w
  by_cases k7 : k = 7
  · subst k7; exact fits7 h0 h1 w
  have E : wideN k = 0 := by unfold wideN; rw [if_neg (by omega), if_neg (by omega), if_neg (by omega), if_neg (by omega)]
  have E2 : fitsB x k = false := by unfold fitsB; exact decide_eq_false (by omega)
  have HE := Lib.hid E
  have HE2 := Lib.hid E2
  clear E E2 k1 k2 k3 k4 k5 k6 k7
  go_enter Try.func29, Try.ntmps29
  go_wp2_with fail
  refine (wide_any _ _).mono ?_
  rintro e w' ⟨rfl, rfl⟩
  rw [HE.out]
  go_wp2
  go_ret
  exact ⟨by rw [HE2.out]; rfl, rfl⟩
end Go.Proofs.Ytlmihaeknmeeiaa
