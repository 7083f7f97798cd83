/-
  num's Turn, Rev and Swap.
-/
import Derived.Test.YtlmihaeknmeeiaaShift
namespace Go.Proofs.Ytlmihaeknmeeiaa
open Go.RowKit
set_option linter.unusedVariables false

theorem and63 (n : Int) : bits .and .u64 (IntKind.u64.wrap n) 63 = (turnK n : Int) := by
  have e : IntKind.u64.wrap n = (((n % 18446744073709551616).toNat : Nat) : Int) := by rw [wrap_u64]; omega
  have h := u64_and_nat (n % 18446744073709551616).toNat 63 (by omega) (by decide)
  rw [e, show (63 : Int) = ((63 : Nat) : Int) from rfl, h, nat_mask6]
  unfold turnK
  omega

theorem Turn_any {x : Nat} (hx : x < 18446744073709551616) {n : Int} (h0 : -9223372036854775808 ≤ n) (h1 : n ≤ 9223372036854775807) (w : World) :
    Calls Try.prog 31 #[.int .u64 x, .int .i64 n] w fun e w' => e = .returned (.int .u64 (turnN x n)) ∧ w = w' := by
  have hk : turnK n < 64 := by unfold turnK; omega
  have E := and63 n
  have H0 : turnN x n = (x * 2 ^ turnK n % 18446744073709551616) ||| (x / 2 ^ (64 - turnK n)) := rfl
  generalize turnK n = k at *
  have A1 : IntKind.u64.wrap ((x : Int) * 2 ^ k) = ((x * 2 ^ k % 18446744073709551616 : Nat) : Int) := by
    have h := mul_min x k
    rwa [Nat.min_eq_left (by omega)] at h
  have A2 : (x : Int) / 2 ^ (64 - k) = ((x / 2 ^ (64 - k) : Nat) : Int) := by
    have h := div_min hx (64 - k)
    rwa [Nat.min_eq_left (by omega)] at h
  have A3 := u64_or_nat (x * 2 ^ k % 18446744073709551616) (x / 2 ^ (64 - k)) (Nat.mod_lt _ (by decide)) (Nat.lt_of_le_of_lt (Nat.div_le_self _ _) hx)
  have H : bits .or .u64 (IntKind.u64.wrap ((x : Int) * 2 ^ k)) ((x : Int) / 2 ^ (64 - k)) = (turnN x n : Int) := by rw [A1, A2, A3, H0]
  have HH := Lib.hid H
  clear A1 A2 A3 H0 H
  have hk0 : (0 : Int) ≤ (k : Int) := by omega
  have hk1 : (k : Int) < 64 := by omega
  go_enter Try.func31, Try.ntmps31
  go_wp2
  go_ret
  exact ⟨ret_int HH.out, rfl⟩

/-! ### Rev: bit by bit -/
/-- The highest k bits of y are done. -/
def revTo (x k : Nat) : Nat := ofB (fun j => decide (64 - k ≤ j) && x.testBit (63 - j)) 64
theorem revTo_lt (x k : Nat) : revTo x k < 18446744073709551616 := ofB_lt _ 64
theorem revTo_zero (x : Nat) : revTo x 0 = 0 := by
  apply eqB (revTo_lt _ _) (by decide)
  intro i hi
  unfold revTo
  rw [tb_ofB]
  simp [show ¬ 64 ≤ i by omega]
theorem revTo_full (x : Nat) : revTo x 64 = revN x := by
  apply eqB (revTo_lt _ _) (revN_lt _)
  intro i hi
  unfold revTo revN
  rw [tb_ofB, tb_ofB]
  simp
theorem revTo_step (x k : Nat) (hk : k < 64) : revTo x k ||| ((x / 2 ^ k) % 2) * 2 ^ (63 - k) % 18446744073709551616 = revTo x (k + 1) := by
  apply eqB (or_lt (revTo_lt _ _) (Nat.mod_lt _ (by decide))) (revTo_lt _ _)
  intro i hi
  unfold revTo
  rw [Nat.testBit_or, mod64, tb_ofB, tb_ofB, Nat.testBit_mul_two_pow, ← Nat.toNat_testBit]
  by_cases h1 : 64 - k ≤ i
  · have e : (x.testBit k).toNat.testBit (i - (63 - k)) = false := by
      obtain ⟨m, hm⟩ : ∃ m, i - (63 - k) = m + 1 := ⟨i - (63 - k) - 1, by omega⟩
      rw [hm]
      cases x.testBit k <;> simp [Nat.testBit_succ]
    have h3 : 64 - (k + 1) ≤ i := by omega
    rw [e]
    simp only [hi, h1, h3, decide_true, Bool.true_and, Bool.and_false, Bool.or_false]
  · by_cases h2 : i = 63 - k
    · subst h2
      have e : 63 - (63 - k) = k := by omega
      rw [e, Nat.sub_self]
      have e0 : (x.testBit k).toNat.testBit 0 = x.testBit k := by cases x.testBit k <;> rfl
      rw [e0]
      have h3 : 64 - (k + 1) ≤ 63 - k := by omega
      simp only [hi, h1, h3, Nat.le_refl, decide_true, decide_false, Bool.true_and, Bool.and_false, Bool.false_and, Bool.false_or]
    · have h3 : ¬ 64 - (k + 1) ≤ i := by omega
      have h4 : ¬ 63 - k ≤ i := by omega
      simp only [h1, h3, h4, decide_false, Bool.and_false, Bool.false_and, Bool.false_or]
theorem rev_wrap (x k : Nat) (hx : x < 18446744073709551616) (hk : k < 64) :
    bits .or .u64 (revTo x k : Int) (IntKind.u64.wrap (bits .and .u64 ((x / 2 ^ k : Nat) : Int) 1 * 2 ^ (63 - k))) = (revTo x (k + 1) : Int) := by
  have h1 := u64_and_nat (x / 2 ^ k) 1 (Nat.lt_of_le_of_lt (Nat.div_le_self _ _) hx) (by decide)
  rw [show (1 : Int) = ((1 : Nat) : Int) from rfl, h1, nat_mask1]
  have h2 := mul_min (x / 2 ^ k % 2) (63 - k)
  rw [Nat.min_eq_left (by omega)] at h2
  rw [h2, u64_or_nat _ _ (revTo_lt _ _) (Nat.mod_lt _ (by decide)), revTo_step x k hk]

theorem Rev_any {x : Nat} (hx : x < 18446744073709551616) (w : World) :
    Calls Try.prog 33 #[.int .u64 x] w fun e w' => e = .returned (.int .u64 (revN x)) ∧ w = w' := by
  go_enter Try.func33, Try.ntmps33
  go_wp2
  go_loop [3, 4, 5] (fun y _ i => ∃ k : Nat, k ≤ 64 ∧ i = .int .i64 k ∧ y = .int .u64 (revTo x k : Int)) (fun _ _ i => 64 - (intOf i).toNat)
  case atStart => exact ⟨0, by omega, rfl, by rw [revTo_zero]; rfl⟩
  case round =>
    obtain ⟨k, hk, rfl, rfl⟩ := hrel
    by_cases hlt : k < 64
    · have E := rev_wrap x k hx hlt
      have D : (x : Int) / 2 ^ k = ((x / 2 ^ k : Nat) : Int) := by rw [cast_pow, ← Int.natCast_ediv]
      rw [← D] at E
      have HE := Lib.hid E
      clear E D
      generalize hr : (revTo x k : Int) = r at *
      clear hr
      go_wp2
      go_round
      case rel => exact ⟨k + 1, by omega, by go_num, by rw [← HE.out]⟩
      case measure => simp [intOf]; omega
    · obtain rfl : k = 64 := by omega
      have F := Lib.hid (revTo_full x)
      go_wp2
      go_ret
      exact ⟨ret_int (by rw [F.out]), rfl⟩
end Go.Proofs.Ytlmihaeknmeeiaa
