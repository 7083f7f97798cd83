/-
  As many peaks as bits are set.
-/
import Derived.Test.YtkiomgnjjijbgaaCover
namespace Go.Proofs.Ytkiomgnjjijbgaa
open Go.RowKit
set_option linter.unusedVariables false

theorem high_half (c : Nat) : ∀ n, (highF (c + 1) n).length = (highF c (n / 2)).length + n % 2 := by
  induction c with
  | zero =>
    intro n
    unfold highF
    rw [Nat.pow_zero, Nat.div_one]
    by_cases h : n % 2 = 1
    · rw [if_pos h, h]; rfl
    · rw [if_neg h, show n % 2 = 0 by omega]; rfl
  | succ c ih =>
    intro n
    have e : n / 2 ^ (c + 1) = n / 2 / 2 ^ c := by rw [Nat.div_div_eq_div_mul, Nat.pow_succ, Nat.mul_comm]
    rw [highF, e, highF.eq_2 (n / 2) c]
    split
    · rw [List.length_cons, List.length_cons, ih]; omega
    · exact ih n
theorem high_ones (c : Nat) : ∀ n, n < 2 ^ c → c ≤ 63 → (highF c n).length = ones n := by
  induction c with
  | zero =>
    intro n h _
    obtain rfl : n = 0 := by rw [Nat.pow_zero] at h; omega
    rw [ones_zero]; rfl
  | succ c ih =>
    intro n h hc
    have l2 : 2 ^ c ≤ 2 ^ 62 := Nat.pow_le_pow_right (by decide) (by omega)
    have e62 : (2 : Nat) ^ 62 = 4611686018427387904 := by decide
    rw [Nat.pow_succ] at h
    rw [high_half, ih (n / 2) (by omega) (by omega)]
    rcases (show n = 2 * (n / 2) ∨ n = 2 * (n / 2) + 1 by omega) with e | e
    · generalize n / 2 = k at *
      subst e
      rw [ones_even (by omega)]; omega
    · generalize n / 2 = k at *
      subst e
      rw [ones_odd (by omega)]; omega
end Go.Proofs.Ytkiomgnjjijbgaa
