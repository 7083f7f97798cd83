/-
  Shifts, masks and fields of numbers below 2 to the 64: plain laws, bit by bit. No program in sight.
-/
import Derived.WalkKit
namespace Go.Proofs.YtcifnfffoiiceaaDoor
open Go.RowKit

def shlN (x : Nat) (n : Int) : Nat := if n < 0 then x / 2 ^ (-n).toNat else x * 2 ^ n.toNat % 18446744073709551616
def shrN (x : Nat) (n : Int) : Nat := if n < 0 then x * 2 ^ (-n).toNat % 18446744073709551616 else x / 2 ^ n.toNat
def maskN (n : Int) : Nat := 2 ^ min n.toNat 64 - 1
def fieldN (x : Nat) (at_ n : Int) : Nat := shrN x at_ &&& maskN n
def layN (x : Nat) (at_ n : Int) (y : Nat) : Nat := (x &&& (18446744073709551615 - shlN (maskN n) at_)) ||| (shlN y at_ &&& shlN (maskN n) at_)
def turnK (n : Int) : Nat := (n % 64).toNat
def turnN (x : Nat) (n : Int) : Nat := (x * 2 ^ turnK n % 18446744073709551616) ||| (x / 2 ^ (64 - turnK n))
/-- The number with these bits. -/
def ofB (f : Nat → Bool) : Nat → Nat
  | 0 => 0
  | n + 1 => ofB f n + (f n).toNat * 2 ^ n
def revN (x : Nat) : Nat := ofB (fun i => x.testBit (63 - i)) 64
def swapN (x : Nat) : Nat := ofB (fun i => x.testBit (8 * (7 - i / 8) + i % 8)) 64

theorem ofB_lt (f : Nat → Bool) : ∀ n, ofB f n < 2 ^ n
  | 0 => by simp [ofB]
  | n + 1 => by
    have h := ofB_lt f n
    unfold ofB
    rw [Nat.pow_succ]
    cases f n <;> simp <;> omega
theorem tb_ofB (f : Nat → Bool) (i : Nat) : ∀ n, (ofB f n).testBit i = (decide (i < n) && f i)
  | 0 => by simp [ofB]
  | n + 1 => by
    have h := ofB_lt f n
    have ih := tb_ofB f i n
    unfold ofB
    rw [Nat.add_comm, Nat.mul_comm, Nat.testBit_two_pow_mul_add _ h, ih]
    by_cases hi : i < n
    · simp [hi, show i < n + 1 by omega]
    · by_cases he : i = n
      · subst he; cases f i <;> simp
      · have : (i - n) ≠ 0 := by omega
        obtain ⟨m, hm⟩ : ∃ m, i - n = m + 1 := ⟨i - n - 1, by omega⟩
        rw [if_neg hi, hm]
        cases f n <;> simp [show ¬ i < n + 1 by omega, Nat.testBit_succ]

theorem eqB {x y : Nat} (hx : x < 18446744073709551616) (hy : y < 18446744073709551616) (h : ∀ i, i < 64 → x.testBit i = y.testBit i) : x = y := by
  apply Nat.eq_of_testBit_eq
  intro i
  by_cases hi : i < 64
  · exact h i hi
  · have h2 : (18446744073709551616 : Nat) ≤ 2 ^ i := by
      have : (18446744073709551616 : Nat) = 2 ^ 64 := by decide
      rw [this]; exact Nat.pow_le_pow_right (by decide) (by omega)
    rw [Nat.testBit_lt_two_pow (by omega), Nat.testBit_lt_two_pow (by omega)]
theorem tb_hi {x i : Nat} (hx : x < 18446744073709551616) (hi : 64 ≤ i) : x.testBit i = false := by
  apply Nat.testBit_lt_two_pow
  have : (18446744073709551616 : Nat) = 2 ^ 64 := by decide
  exact Nat.lt_of_lt_of_le (this ▸ hx) (Nat.pow_le_pow_right (by decide) hi)
theorem mod64 (x i : Nat) : (x % 18446744073709551616).testBit i = (decide (i < 64) && x.testBit i) := Nat.testBit_mod_two_pow x 64 i

theorem shlN_lt {x : Nat} (n : Int) (hx : x < 18446744073709551616) : shlN x n < 18446744073709551616 := by
  unfold shlN
  split
  · exact Nat.lt_of_le_of_lt (Nat.div_le_self _ _) hx
  · exact Nat.mod_lt _ (by decide)
theorem shrN_lt {x : Nat} (n : Int) (hx : x < 18446744073709551616) : shrN x n < 18446744073709551616 := by
  unfold shrN
  split
  · exact Nat.mod_lt _ (by decide)
  · exact Nat.lt_of_le_of_lt (Nat.div_le_self _ _) hx
theorem maskN_lt (n : Int) : maskN n < 18446744073709551616 := by
  unfold maskN
  have h : 2 ^ min n.toNat 64 ≤ 2 ^ 64 := Nat.pow_le_pow_right (by decide) (Nat.min_le_right _ _)
  have : (2 : Nat) ^ 64 = 18446744073709551616 := by decide
  have : 0 < 2 ^ min n.toNat 64 := Nat.two_pow_pos _
  omega
theorem and_lt {x : Nat} (y : Nat) (hx : x < 18446744073709551616) : x &&& y < 18446744073709551616 := Nat.lt_of_le_of_lt Nat.and_le_left hx
theorem or_lt {x y : Nat} (hx : x < 18446744073709551616) (hy : y < 18446744073709551616) : x ||| y < 18446744073709551616 := by
  have : (18446744073709551616 : Nat) = 2 ^ 64 := by decide
  rw [this] at *
  exact Nat.or_lt_two_pow hx hy
theorem fieldN_lt {x : Nat} (a n : Int) (hx : x < 18446744073709551616) : fieldN x a n < 18446744073709551616 := and_lt _ (shrN_lt _ hx)
theorem layN_lt {x y : Nat} (a n : Int) (hx : x < 18446744073709551616) (hy : y < 18446744073709551616) : layN x a n y < 18446744073709551616 :=
  or_lt (and_lt _ hx) (and_lt _ (shlN_lt _ hy))
theorem turnN_lt {x : Nat} (n : Int) (hx : x < 18446744073709551616) : turnN x n < 18446744073709551616 :=
  or_lt (Nat.mod_lt _ (by decide)) (Nat.lt_of_le_of_lt (Nat.div_le_self _ _) hx)
theorem revN_lt (x : Nat) : revN x < 18446744073709551616 := ofB_lt _ 64
theorem swapN_lt (x : Nat) : swapN x < 18446744073709551616 := ofB_lt _ 64

theorem tb_shlN {x : Nat} (n : Int) {i : Nat} (hi : i < 64) :
    (shlN x n).testBit i = (decide (0 ≤ (i : Int) - n) && x.testBit ((i : Int) - n).toNat) := by
  unfold shlN
  split
  · rename_i h
    rw [Nat.testBit_div_two_pow]
    simp only [show 0 ≤ (i : Int) - n by omega, decide_true, Bool.true_and]
    congr 1
    omega
  · rename_i h
    rw [mod64, Nat.testBit_mul_two_pow]
    simp only [hi, decide_true, Bool.true_and]
    by_cases h2 : 0 ≤ (i : Int) - n
    · simp only [h2, decide_true, Bool.true_and, show n.toNat ≤ i by omega]
      congr 1
      omega
    · simp only [h2, decide_false, Bool.false_and, show ¬ n.toNat ≤ i by omega]
theorem shrN_shlN (x : Nat) (n : Int) : shrN x n = shlN x (-n) ∨ n = 0 := by
  unfold shrN shlN
  by_cases h : n = 0
  · exact .inr h
  · left
    by_cases h2 : n < 0
    · rw [if_pos h2, if_neg (by omega)]
    · rw [if_neg h2, if_pos (by omega)]
      congr 2
      omega
theorem tb_shrN {x : Nat} (n : Int) {i : Nat} (hi : i < 64) :
    (shrN x n).testBit i = (decide (0 ≤ (i : Int) + n) && x.testBit ((i : Int) + n).toNat) := by
  rcases shrN_shlN x n with h | h
  · rw [h, tb_shlN _ hi]
    have : (i : Int) - -n = (i : Int) + n := by omega
    rw [this]
  · subst h
    simp [shrN]
theorem tb_maskN (n : Int) {i : Nat} (hi : i < 64) : (maskN n).testBit i = decide ((i : Int) < n) := by
  unfold maskN
  rw [Nat.testBit_two_pow_sub_one]
  by_cases h : (i : Int) < n
  · simp [h]; omega
  · simp [h]; omega
theorem tb_not {m : Nat} (hm : m < 18446744073709551616) {i : Nat} (hi : i < 64) : (18446744073709551615 - m).testBit i = !m.testBit i := by
  have h := Nat.testBit_two_pow_sub_succ (x := m) (n := 64) hm i
  have e : 2 ^ 64 - (m + 1) = 18446744073709551615 - m := by omega
  rw [e] at h
  rw [h]
  simp [hi]
theorem tb_fieldN {x : Nat} (a n : Int) {i : Nat} (hi : i < 64) :
    (fieldN x a n).testBit i = (decide (0 ≤ (i : Int) + a) && x.testBit ((i : Int) + a).toNat && decide ((i : Int) < n)) := by
  unfold fieldN
  rw [Nat.testBit_and, tb_shrN _ hi, tb_maskN _ hi]
theorem tb_mask_at (a n : Int) {i : Nat} (hi : i < 64) : (shlN (maskN n) a).testBit i = decide (0 ≤ (i : Int) - a ∧ (i : Int) - a < 64 ∧ (i : Int) - a < n) := by
  rw [tb_shlN _ hi]
  by_cases h : 0 ≤ (i : Int) - a
  · by_cases h2 : (i : Int) - a < 64
    · rw [tb_maskN _ (by omega), Bool.eq_iff_iff]
      simp only [Bool.and_eq_true, decide_eq_true_eq]
      omega
    · rw [tb_hi (maskN_lt n) (by omega)]
      simp only [h2, false_and, and_false, decide_false, Bool.and_false]
  · simp only [h, false_and, decide_false, Bool.false_and]
theorem tb_layN {x y : Nat} (a n : Int) {i : Nat} (hi : i < 64) :
    (layN x a n y).testBit i = if 0 ≤ (i : Int) - a ∧ (i : Int) - a < 64 ∧ (i : Int) - a < n then y.testBit ((i : Int) - a).toNat else x.testBit i := by
  unfold layN
  rw [Nat.testBit_or, Nat.testBit_and, Nat.testBit_and, tb_not (shlN_lt _ (maskN_lt n)) hi, tb_mask_at a n hi, tb_shlN _ hi]
  by_cases h : 0 ≤ (i : Int) - a ∧ (i : Int) - a < 64 ∧ (i : Int) - a < n
  · rw [if_pos h]
    simp only [h, and_self, decide_true, Bool.not_true, Bool.and_false, Bool.false_or, Bool.true_and, Bool.and_true]
  · rw [if_neg h]
    simp only [h, decide_false, Bool.not_false, Bool.and_true, Bool.and_false, Bool.or_false]
theorem tb_turnN {x : Nat} (n : Int) (hx : x < 18446744073709551616) {i : Nat} (hi : i < 64) :
    (turnN x n).testBit i = x.testBit (((i : Int) - n) % 64).toNat := by
  have hk : turnK n < 64 := by unfold turnK; omega
  have hkn : (turnK n : Int) = n % 64 := by unfold turnK; omega
  unfold turnN
  rw [Nat.testBit_or, mod64, Nat.testBit_mul_two_pow, Nat.testBit_div_two_pow]
  by_cases h : turnK n ≤ i
  · rw [tb_hi hx (show 64 ≤ i + (64 - turnK n) by omega)]
    simp only [hi, h, decide_true, Bool.true_and, Bool.or_false]
    congr 1
    omega
  · simp only [h, decide_false, Bool.and_false, Bool.false_and, Bool.false_or]
    congr 1
    omega
theorem tb_revN (x : Nat) {i : Nat} (hi : i < 64) : (revN x).testBit i = x.testBit (63 - i) := by
  unfold revN; rw [tb_ofB]; simp [hi]
theorem tb_swapN (x : Nat) {i : Nat} (hi : i < 64) : (swapN x).testBit i = x.testBit (8 * (7 - i / 8) + i % 8) := by
  unfold swapN; rw [tb_ofB]; simp [hi]

/-! ### What the walk writes -/
theorem wrap_u64 (n : Int) : IntKind.u64.wrap n = n % 18446744073709551616 := by simp [IntKind.wrap, IntKind.bits, IntKind.signed]
theorem neg_toNat {n : Int} (h0 : -9223372036854775808 ≤ n) (h1 : n < 0) : (IntKind.u64.wrap (wrap64 (-n))).toNat = (-n).toNat := by
  rw [wrap_u64]
  unfold wrap64
  omega
theorem cast_pow (m : Nat) : ((2 : Int) ^ m) = ((2 ^ m : Nat) : Int) := by simp
theorem div_min {x : Nat} (hx : x < 18446744073709551616) (m : Nat) : (x : Int) / 2 ^ min m 64 = ((x / 2 ^ m : Nat) : Int) := by
  rw [cast_pow, ← Int.natCast_ediv]
  by_cases h : m ≤ 64
  · rw [Nat.min_eq_left h]
  · rw [Nat.min_eq_right (by omega)]
    have h64 : (2 : Nat) ^ 64 = 18446744073709551616 := by decide
    have h2 : 2 ^ 64 ≤ 2 ^ m := Nat.pow_le_pow_right (by decide) (by omega)
    rw [Nat.div_eq_of_lt (by omega), Nat.div_eq_of_lt (by omega)]
theorem mul_min (x m : Nat) : IntKind.u64.wrap ((x : Int) * 2 ^ min m 64) = ((x * 2 ^ m % 18446744073709551616 : Nat) : Int) := by
  rw [wrap_u64, cast_pow]
  have e : (x : Int) * ((2 ^ min m 64 : Nat) : Int) = ((x * 2 ^ min m 64 : Nat) : Int) := by simp
  rw [e]
  have e2 : (((x * 2 ^ min m 64 : Nat) : Int)) % 18446744073709551616 = ((x * 2 ^ min m 64 % 18446744073709551616 : Nat) : Int) := by omega
  rw [e2]
  by_cases h : m ≤ 64
  · rw [Nat.min_eq_left h]
  · rw [Nat.min_eq_right (by omega)]
    have h64 : (2 : Nat) ^ 64 = 18446744073709551616 := by decide
    obtain ⟨d, rfl⟩ : ∃ d, m = 64 + d := ⟨m - 64, by omega⟩
    rw [Nat.pow_add, h64, ← Nat.mul_assoc, Nat.mul_right_comm, Nat.mul_mod_left, Nat.mul_mod_left]
theorem shl_neg {x : Nat} {n : Int} (hx : x < 18446744073709551616) (h0 : -9223372036854775808 ≤ n) (h1 : n < 0) :
    (x : Int) / 2 ^ min (IntKind.u64.wrap (wrap64 (-n))).toNat 64 = ((shlN x n : Nat) : Int) := by
  rw [neg_toNat h0 h1, div_min hx]; unfold shlN; rw [if_pos h1]
theorem shl_pos {x : Nat} {n : Int} (h0 : 0 ≤ n) : IntKind.u64.wrap ((x : Int) * 2 ^ min n.toNat 64) = ((shlN x n : Nat) : Int) := by
  rw [mul_min]; unfold shlN; rw [if_neg (by omega)]
theorem shr_neg {x : Nat} {n : Int} (h0 : -9223372036854775808 ≤ n) (h1 : n < 0) :
    IntKind.u64.wrap ((x : Int) * 2 ^ min (IntKind.u64.wrap (wrap64 (-n))).toNat 64) = ((shrN x n : Nat) : Int) := by
  rw [neg_toNat h0 h1, mul_min]; unfold shrN; rw [if_pos h1]
theorem shr_pos {x : Nat} {n : Int} (hx : x < 18446744073709551616) (h0 : 0 ≤ n) : (x : Int) / 2 ^ min n.toNat 64 = ((shrN x n : Nat) : Int) := by
  rw [div_min hx]; unfold shrN; rw [if_neg (by omega)]
end Go.Proofs.YtcifnfffoiiceaaDoor
