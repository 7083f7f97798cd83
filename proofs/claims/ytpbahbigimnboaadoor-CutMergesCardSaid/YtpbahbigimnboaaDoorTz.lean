/-
  The lowest set bit: the plain law; the walks of bits.TrailingZeros64 and num.Low.
-/
import Derived.Test.YtpbahbigimnboaaDoorNum
import Derived.Test.YtpbahbigimnboaaDoorBase
namespace Go.Proofs.YtpbahbigimnboaaDoor
open Go.RowKit
set_option linter.unusedVariables false

def tzF : Nat → Nat → Nat
  | 0, _ => 0
  | f + 1, x => if x % 2 = 1 then 0 else tzF f (x / 2) + 1
/-- How many bits below the lowest set one; 64 of 0. -/
def tzN (x : Nat) : Nat := tzF 64 x
theorem tzN_zero : tzN 0 = 64 := by unfold tzN; decide
theorem tzF_spec : ∀ f x, x < 2 ^ f → x ≠ 0 → tzF f x < f ∧ ∃ q, x = 2 ^ tzF f x * (2 * q + 1)
  | 0, x, h, h0 => by simp at h; omega
  | f + 1, x, h, h0 => by
    rw [tzF]
    by_cases hb : x % 2 = 1
    · rw [if_pos hb]
      exact ⟨by omega, x / 2, by rw [Nat.pow_zero]; omega⟩
    · rw [if_neg hb]
      obtain ⟨h1, q, h2⟩ := tzF_spec f (x / 2) (by rw [Nat.pow_succ] at h; omega) (by omega)
      refine ⟨by omega, q, ?_⟩
      rw [Nat.pow_succ, Nat.mul_comm (2 ^ _) 2, Nat.mul_assoc, ← h2]
      omega
theorem tzN_spec {x : Nat} (h : x < 18446744073709551616) (h0 : x ≠ 0) : tzN x < 64 ∧ ∃ q, x = 2 ^ tzN x * (2 * q + 1) := tzF_spec 64 x h h0

theorem tb_even (q s : Nat) : (2 * q).testBit (s + 1) = q.testBit s := by
  rw [Nat.testBit_succ]; congr 1; omega
theorem tb_odd (q s : Nat) : (2 * q + 1).testBit (s + 1) = q.testBit s := by
  rw [Nat.testBit_succ]; congr 1; omega
theorem tb_even0 (q : Nat) : (2 * q).testBit 0 = false := by simp
theorem tb_odd0 (q : Nat) : (2 * q + 1).testBit 0 = true := by simp
/-- The bits of a number with lowest set bit t, and of the number below it. -/
theorem tb_low (t q j : Nat) : (2 ^ t * (2 * q + 1)).testBit j = (decide (t ≤ j) && (2 * q + 1).testBit (j - t)) := by
  have h := Nat.testBit_two_pow_mul_add (2 * q + 1) (Nat.two_pow_pos t) j
  rw [Nat.add_zero] at h
  rw [h]
  by_cases hj : j < t
  · rw [if_pos hj]; simp; omega
  · rw [if_neg hj]; simp [show t ≤ j by omega]
theorem tb_low2 (t q j : Nat) : (2 ^ t * (2 * q)).testBit j = (decide (t ≤ j) && (2 * q).testBit (j - t)) := by
  have h := Nat.testBit_two_pow_mul_add (2 * q) (Nat.two_pow_pos t) j
  rw [Nat.add_zero] at h
  rw [h]
  by_cases hj : j < t
  · rw [if_pos hj]; simp; omega
  · rw [if_neg hj]; simp [show t ≤ j by omega]
theorem tb_below (t q j : Nat) : (2 ^ t * (2 * q + 1) - 1).testBit j = if j < t then true else (2 * q).testBit (j - t) := by
  have hp := Nat.two_pow_pos t
  have e : 2 ^ t * (2 * q + 1) - 1 = 2 ^ t * (2 * q) + (2 ^ t - 1) := by
    rw [Nat.mul_add, Nat.mul_one]; omega
  rw [e, Nat.testBit_two_pow_mul_add (2 * q) (by omega) j]
  by_cases hj : j < t
  · rw [if_pos hj, if_pos hj, Nat.testBit_two_pow_sub_one]; simp [hj]
  · rw [if_neg hj, if_neg hj]
/-- x & (x-1): the lowest set bit struck. -/
theorem strike_low (t q : Nat) : 2 ^ t * (2 * q + 1) &&& (2 ^ t * (2 * q + 1) - 1) = 2 ^ t * (2 * q) := by
  apply Nat.eq_of_testBit_eq
  intro j
  rw [Nat.testBit_and, tb_low, tb_below, tb_low2]
  by_cases hj : j < t
  · simp [show ¬ t ≤ j by omega]
  · rw [if_neg hj]
    simp only [show t ≤ j by omega, decide_true, Bool.true_and]
    cases hs : j - t with
    | zero => rw [tb_even0]; simp
    | succ s => rw [tb_even, tb_odd]; simp
/-- x & -x: the lowest set bit alone. -/
theorem only_low {t q : Nat} (ht : t < 64) (hx : 2 ^ t * (2 * q + 1) < 18446744073709551616) : 2 ^ t * (2 * q + 1) &&& (18446744073709551616 - 2 ^ t * (2 * q + 1)) = 2 ^ t := by
  have hp : 2 ^ t < 2 ^ 64 := Nat.pow_lt_pow_right (by decide) ht
  have h64 : (2 : Nat) ^ 64 = 18446744073709551616 := by decide
  have hx0 : 0 < 2 ^ t * (2 * q + 1) := Nat.mul_pos (Nat.two_pow_pos t) (by omega)
  apply eqB (and_lt _ hx) (by omega)
  intro i hi
  have e : 18446744073709551616 - 2 ^ t * (2 * q + 1) = 18446744073709551615 - (2 ^ t * (2 * q + 1) - 1) := by omega
  rw [e, Nat.testBit_and, tb_not (by omega) hi, tb_low, tb_below, Nat.testBit_two_pow]
  by_cases hj : i < t
  · simp [show ¬ t ≤ i by omega, show ¬ t = i by omega]
  · rw [if_neg hj]
    simp only [show t ≤ i by omega, decide_true, Bool.true_and]
    cases hs : i - t with
    | zero => rw [tb_even0, tb_odd0]; simp; omega
    | succ s => rw [tb_even, tb_odd]; simp [show ¬ t = i by omega]

/-- Where the table of the lowest bits has t. -/
def idxN (t : Nat) : Nat := 2 ^ t * 285870213051353865 % 18446744073709551616 / 288230376151711744
theorem idx_lt (t : Nat) : idxN t < 64 := by unfold idxN; omega
/-- The table of bits.TrailingZeros64, as memory holds it. -/
def TabAt (w : World) : Prop := 0 < w.heap.size ∧ ∀ t, t < 64 → w.cell? ⟨0, idxN t, none⟩ = some (.int .u8 (t : Int))
theorem TabAt.below {w w' : World} (h : TabAt w) (q : Below w.heap.size w w') : TabAt w' :=
  ⟨Nat.lt_of_lt_of_le h.1 q.size, fun t ht => by rw [← h.2 t ht]; exact q.cell (p := ⟨0, idxN t, none⟩) h.1⟩

theorem Tz_walk {x p m j t : Nat} (w : World) (hA : bits .and .u64 (x : Int) (IntKind.u64.wrap (-(x : Int))) = (p : Int)) (hM : IntKind.u64.wrap ((p : Int) * 285870213051353865) = (m : Int))
    (hD : (m : Int) / 288230376151711744 = (j : Int)) (hc : w.cell? ⟨0, j, none⟩ = some (.int .u8 (t : Int))) (hx0 : ((x : Int) == 0) = false) (ij : (j : Int) < 64) (it : (t : Int) < 64) :
    Calls Tryd.prog 32 #[.int .u64 x] w fun e w' => e = .returned (.int .i64 (t : Nat)) ∧ w = w' := by
  go_enter Tryd.func32, Tryd.ntmps32
  go_wp2
  go_ret
  exact ⟨rfl, rfl⟩
theorem Tz_zero (w : World) :
    Calls Tryd.prog 32 #[.int .u64 0] w fun e w' => e = .returned (.int .i64 64) ∧ w = w' := by
  go_enter Tryd.func32, Tryd.ntmps32
  go_wp2
  go_ret
  exact ⟨rfl, rfl⟩
attribute [irreducible] tzN idxN
theorem wrapM (p : Nat) : IntKind.u64.wrap ((p : Int) * 285870213051353865) = ((p * 285870213051353865 % 18446744073709551616 : Nat) : Int) := by
  rw [wrap_u64]
  omega
theorem divM (m : Nat) : (m : Int) / 288230376151711744 = ((m / 288230376151711744 : Nat) : Int) := by omega
theorem idx_eq (t : Nat) : 2 ^ t * 285870213051353865 % 18446744073709551616 / 288230376151711744 = idxN t := by unfold idxN; rfl
theorem Tz_any {x : Nat} (hx : x < 18446744073709551616) (w : World) (T : TabAt w) :
    Calls Tryd.prog 32 #[.int .u64 x] w fun e w' => e = .returned (.int .i64 (tzN x : Nat)) ∧ w = w' := by
  by_cases h0 : x = 0
  · subst h0
    rw [tzN_zero]
    exact Tz_zero w
  · obtain ⟨ht, q, hq⟩ := tzN_spec hx h0
    have hc := T.2 _ ht
    have hi := idx_lt (tzN x)
    have hA := u64_and_nat x (18446744073709551616 - x) hx (by omega)
    have hO := only_low (q := q) ht (by rw [← hq]; exact hx)
    rw [← hq] at hO
    rw [hO] at hA
    have hw : IntKind.u64.wrap (-(x : Int)) = ((18446744073709551616 - x : Nat) : Int) := by rw [wrap_u64]; omega
    rw [← hw] at hA
    exact Tz_walk w hA (wrapM _) (by rw [divM, idx_eq]) hc (by rw [beq_eq_false_iff_ne]; omega) (by omega) (by omega)
theorem Low_any {x : Nat} (hx : x < 18446744073709551616) (w : World) (T : TabAt w) :
    Calls Tryd.prog 25 #[.int .u64 x] w fun e w' => e = .returned (.int .i64 (tzN x : Nat)) ∧ w = w' := by
  have L := Tz_any hx w T
  clear T hx
  go_enter Tryd.func25, Tryd.ntmps25
  go_wp2_with fail
  refine L.mono ?_
  rintro e w' ⟨rfl, rfl⟩
  go_wp2
  go_ret
  exact ⟨rfl, rfl⟩
end Go.Proofs.YtpbahbigimnboaaDoor
