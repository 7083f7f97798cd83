/-
  The spots over a span: the plain law.
-/
import Derived.Test.YtpbahbigimnboaaDoorTz
import Derived.Test.YtpbahbigimnboaaDoorLen
namespace Go.Proofs.YtpbahbigimnboaaDoor
open Go.RowKit
set_option linter.unusedVariables false

theorem tz_unique : ∀ (t s q r : Nat), 2 ^ t * (2 * q + 1) = 2 ^ s * (2 * r + 1) → t = s
  | 0, 0, _, _, _ => rfl
  | 0, s + 1, q, r, h => by rw [Nat.pow_zero, Nat.pow_succ, Nat.mul_comm (2 ^ s) 2, Nat.mul_assoc] at h; omega
  | t + 1, 0, q, r, h => by rw [Nat.pow_zero, Nat.pow_succ, Nat.mul_comm (2 ^ t) 2, Nat.mul_assoc] at h; omega
  | t + 1, s + 1, q, r, h => by
    rw [Nat.pow_succ, Nat.pow_succ, Nat.mul_comm (2 ^ t) 2, Nat.mul_comm (2 ^ s) 2, Nat.mul_assoc, Nat.mul_assoc] at h
    rw [tz_unique t s q r (by omega)]
theorem tz_eq {x t q : Nat} (hx : x < 18446744073709551616) (e : x = 2 ^ t * (2 * q + 1)) : tzN x = t := by
  have h0 : x ≠ 0 := by
    rw [e]
    have := Nat.mul_pos (Nat.two_pow_pos t) (show 0 < 2 * q + 1 by omega)
    omega
  obtain ⟨_, r, h⟩ := tzN_spec hx h0
  exact tz_unique _ _ r q (by rw [← h, e])
theorem tz_mod {x h : Nat} (hx : x < 18446744073709551616) : x % 2 ^ h = 0 ↔ x = 0 ∨ h ≤ tzN x := by
  by_cases h0 : x = 0
  · subst h0; simp
  · obtain ⟨_, q, e⟩ := tzN_spec hx h0
    generalize tzN x = t at *
    constructor
    · intro hm
      right
      rcases Nat.lt_or_ge t h with hlt | hge
      · exfalso
        obtain ⟨d, rfl⟩ : ∃ d, h = t + 1 + d := ⟨h - (t + 1), by omega⟩
        obtain ⟨c, hc⟩ := Nat.dvd_of_mod_eq_zero hm
        rw [e, Nat.pow_add, Nat.pow_succ, Nat.mul_assoc, Nat.mul_assoc] at hc
        have := Nat.eq_of_mul_eq_mul_left (Nat.two_pow_pos t) hc
        rw [← Nat.mul_assoc, Nat.mul_comm 2, Nat.mul_assoc] at this
        have h2 : (2 ^ d * (2 * c)) = 2 * (2 ^ d * c) := by rw [← Nat.mul_assoc, Nat.mul_comm (2 ^ d) 2, Nat.mul_assoc]
        omega
      · exact hge
    · rintro (h1 | h1)
      · exact absurd h1 h0
      · obtain ⟨d, rfl⟩ : ∃ d, t = h + d := ⟨t - h, by omega⟩
        rw [e, Nat.pow_add, Nat.mul_assoc]
        exact Nat.mul_mod_right _ _
theorem len_lt {d h : Nat} (hd : d < 18446744073709551616) (h0 : d ≠ 0) : 2 ^ h ≤ d ↔ h < lenN d := by
  obtain ⟨l1, l2, l3⟩ := lenN_spec hd h0
  constructor
  · intro h1
    have : 2 ^ h < 2 ^ lenN d := by omega
    exact (Nat.pow_lt_pow_iff_right (a := 2) (by decide)).1 this
  · intro h1
    have : 2 ^ h ≤ 2 ^ (lenN d - 1) := Nat.pow_le_pow_right (by decide) (by omega)
    omega
/-- The height of the next spot. -/
def spanH (a b : Nat) : Nat := min (tzN a) (lenN (b - a) - 1)
/-- It is the greatest h of which 2^h divides a and is not more than what is left. -/
theorem spanH_spec {a b : Nat} (hab : a < b) (hb : b ≤ 4611686018427387904) :
    a % 2 ^ spanH a b = 0 ∧ 2 ^ spanH a b ≤ b - a ∧ spanH a b ≤ 62 ∧ ∀ h, h < 62 → (a % 2 ^ (h + 1) = 0 ∧ 2 ^ (h + 1) ≤ b - a ↔ h < spanH a b) := by
  have hd0 : b - a ≠ 0 := by omega
  have ll := fun h => len_lt (h := h) (d := b - a) (by omega) hd0
  have l1 := (lenN_spec (x := b - a) (by omega) hd0).1
  have tm := fun h => tz_mod (x := a) (h := h) (by omega)
  have l62 : lenN (b - a) ≤ 63 := by
    rcases Nat.lt_or_ge 63 (lenN (b - a)) with h | h
    · have := (ll 63).2 h
      have e63 : (2 : Nat) ^ 63 = 9223372036854775808 := by decide
      omega
    · exact h
  unfold spanH
  refine ⟨(tm _).2 ?_, (ll _).2 (by omega), by omega, fun h hh => ?_⟩
  · by_cases h0 : a = 0
    · exact .inl h0
    · exact .inr (by omega)
  · rw [ll, tm]
    by_cases h0 : a = 0
    · subst h0
      rw [tzN_zero]
      omega
    · omega
/-- The spots over the leaves a to b, at most f of them. -/
def spanF : Nat → Nat → Nat → List (Nat × Nat)
  | 0, _, _ => []
  | f + 1, a, b => if a < b then (spanH a b, a / 2 ^ spanH a b) :: spanF f (a + 2 ^ spanH a b) b else []
/-- A bound on how many spots are still to come. -/
def spanB (a b : Nat) : Nat := if a < b then (if lenN (b - a) ≤ tzN a then lenN (b - a) else 124 - tzN a) else 0
theorem tz_le {x : Nat} (hx : x < 18446744073709551616) : tzN x ≤ 64 := by
  by_cases h : x = 0
  · subst h; rw [tzN_zero]; exact Nat.le_refl _
  · have := (tzN_spec hx h).1; omega
theorem spanB_step {a b : Nat} (hab : a < b) (hb : b ≤ 4611686018427387904) : spanB (a + 2 ^ spanH a b) b < spanB a b := by
  obtain ⟨s1, s2, s3, _⟩ := spanH_spec hab hb
  have p := Nat.two_pow_pos (spanH a b)
  have hd0 : b - a ≠ 0 := by omega
  obtain ⟨l1, l2, l3⟩ := lenN_spec (x := b - a) (by omega) hd0
  have l64 := lenN_le (b - a) (by omega)
  have l63 : lenN (b - a) ≤ 63 := by
    have := (len_lt (h := 63) (d := b - a) (by omega) hd0)
    have e63 : (2 : Nat) ^ 63 = 9223372036854775808 := by decide
    omega
  have t64 := tz_le (x := a) (by omega)
  have new := lenN_spec (x := b - (a + 2 ^ spanH a b)) (by omega)
  unfold spanB
  rw [if_pos hab]
  by_cases h1 : a + 2 ^ spanH a b < b
  · rw [if_pos h1]
    obtain ⟨m1, m2, m3⟩ := new (by omega)
    by_cases h2 : lenN (b - a) ≤ tzN a
    · rw [if_pos h2]
      have eh : spanH a b = lenN (b - a) - 1 := by unfold spanH; omega
      rw [eh] at m1 m2 m3 h1 ⊢
      have lt2 : lenN (b - (a + 2 ^ (lenN (b - a) - 1))) ≤ lenN (b - a) - 1 := by
        rcases Nat.lt_or_ge (lenN (b - a) - 1) (lenN (b - (a + 2 ^ (lenN (b - a) - 1)))) with h | h
        · exfalso
          have q : 2 ^ (lenN (b - a) - 1) ≤ 2 ^ (lenN (b - (a + 2 ^ (lenN (b - a) - 1))) - 1) := Nat.pow_le_pow_right (by decide) (by omega)
          have e : 2 ^ lenN (b - a) = 2 ^ (lenN (b - a) - 1) * 2 := by rw [← Nat.pow_succ]; congr 1; omega
          omega
        · exact h
      have tz : tzN (a + 2 ^ (lenN (b - a) - 1)) = lenN (b - a) - 1 := by
        have hm : a % 2 ^ (lenN (b - a) - 1 + 1) = 0 := (tz_mod (by omega)).2 (.inr (by omega))
        obtain ⟨c, hc⟩ := Nat.dvd_of_mod_eq_zero hm
        refine tz_eq (q := c) (by omega) ?_
        rw [Nat.pow_succ, Nat.mul_assoc] at hc
        rw [Nat.mul_add, Nat.mul_one, ← hc]
      rw [tz, if_pos lt2]
      omega
    · rw [if_neg h2]
      have eh : spanH a b = tzN a := by unfold spanH; omega
      have a0 : a ≠ 0 := by
        rintro rfl
        rw [tzN_zero] at h2
        omega
      obtain ⟨t1, q, hq⟩ := tzN_spec (x := a) (by omega) a0
      have up : tzN a + 1 ≤ tzN (a + 2 ^ spanH a b) := by
        have hm : (a + 2 ^ spanH a b) % 2 ^ (tzN a + 1) = 0 := by
          rw [eh]
          have e : a + 2 ^ tzN a = 2 ^ (tzN a + 1) * (q + 1) := by
            conv => lhs; rw [hq]
            have : tzN (2 ^ tzN a * (2 * q + 1)) = tzN a := by rw [← hq]
            rw [this, Nat.pow_succ, Nat.mul_assoc, ← Nat.mul_succ]
            rfl
          rw [e]
          exact Nat.mul_mod_right _ _
        rcases (tz_mod (by omega)).1 hm with h | h
        · omega
        · exact h
      have nl : lenN (b - (a + 2 ^ spanH a b)) ≤ 62 := by
        have := (len_lt (h := 62) (d := b - (a + 2 ^ spanH a b)) (by omega) (by omega))
        have e62 : (2 : Nat) ^ 62 = 4611686018427387904 := by decide
        omega
      have t61 : tzN a ≤ 61 := by
        rcases Nat.lt_or_ge 61 (tzN a) with h | h
        · exfalso
          have q0 : 2 ^ tzN a ≤ a := by
            conv => rhs; rw [hq]
            exact Nat.le_mul_of_pos_right _ (by omega)
          have p1 : 2 ^ 62 ≤ 2 ^ tzN a := Nat.pow_le_pow_right (by decide) h
          have e62 : (2 : Nat) ^ 62 = 4611686018427387904 := by decide
          omega
        · exact h
      split
      · omega
      · omega
  · rw [if_neg h1]
    split <;> omega
theorem spanF_len : ∀ f a b, b ≤ 4611686018427387904 → (spanF f a b).length ≤ spanB a b
  | 0, _, _, _ => Nat.zero_le _
  | f + 1, a, b, hb => by
    unfold spanF
    by_cases h : a < b
    · rw [if_pos h, List.length_cons]
      have := spanF_len f (a + 2 ^ spanH a b) b hb
      have := spanB_step h hb
      omega
    · rw [if_neg h]; exact Nat.zero_le _
theorem spanB_le {a b : Nat} (ha : a < 18446744073709551616) (hb : b < 18446744073709551616) : spanB a b ≤ 130 := by
  unfold spanB
  split
  · split
    · have := lenN_le (b - a) (by omega); omega
    · omega
  · omega
/-- The spots over the leaves a to b. -/
def spanL (a b : Nat) : List (Nat × Nat) := spanF 131 a b
theorem spanL_stop {a b : Nat} (h : ¬ a < b) : spanL a b = [] := by unfold spanL spanF; rw [if_neg h]
/-- More rounds than the bound add nothing. -/
theorem spanF_more : ∀ f a b, b ≤ 4611686018427387904 → spanB a b ≤ f → ∀ g, f ≤ g → spanF g a b = spanF f a b
  | 0, a, b, hb, h, g, _ => by
    have hn : ¬ a < b := fun hab => by have := spanB_step hab hb; omega
    cases g with
    | zero => rfl
    | succ g =>
      show (if a < b then _ else _) = _
      rw [if_neg hn]
      rfl
  | f + 1, a, b, hb, h, g, hg => by
    obtain ⟨g', rfl⟩ : ∃ g', g = g' + 1 := ⟨g - 1, by omega⟩
    rw [spanF, spanF]
    by_cases hab : a < b
    · rw [if_pos hab, if_pos hab, spanF_more f _ b hb (by have := spanB_step hab hb; omega) g' (by omega)]
    · rw [if_neg hab, if_neg hab]
theorem spanL_go {a b : Nat} (hab : a < b) (hb : b ≤ 4611686018427387904) : spanL a b = (spanH a b, a / 2 ^ spanH a b) :: spanL (a + 2 ^ spanH a b) b := by
  have h1 := spanB_le (a := a) (b := b) (by omega) (by omega)
  have h2 := spanB_step hab hb
  have e : spanF 131 (a + 2 ^ spanH a b) b = spanF 130 (a + 2 ^ spanH a b) b := spanF_more 130 _ b hb (by omega) 131 (by omega)
  unfold spanL
  rw [e]
  show (if a < b then _ else _) = _
  rw [if_pos hab]
theorem spanL_len {a b : Nat} (hb : b ≤ 4611686018427387904) : (spanL a b).length ≤ 131 := by
  have : ∀ f a b, (spanF f a b).length ≤ f := by
    intro f
    induction f with
    | zero => intro a b; exact Nat.le_refl _
    | succ f ih =>
      intro a b
      unfold spanF
      split
      · rw [List.length_cons]; have := ih (a + 2 ^ spanH a b) b; omega
      · exact Nat.zero_le _
  exact this 131 a b
theorem spanL_124 {a b : Nat} (hb : b ≤ 4611686018427387904) : (spanL a b).length ≤ 124 := by
  have h1 := spanF_len 131 a b hb
  have h2 : spanB a b ≤ 124 := by
    unfold spanB
    split
    · have := (len_lt (h := 63) (d := b - a) (by omega) (by omega))
      have e63 : (2 : Nat) ^ 63 = 9223372036854775808 := by decide
      split <;> omega
    · omega
  exact Nat.le_trans h1 h2
end Go.Proofs.YtpbahbigimnboaaDoor
