/-
  Places of a forest's nodes: the plain laws. No program in sight.
-/
import Derived.Test.YtpbahbigimnboaaDoorOnes
namespace Go.Proofs.YtpbahbigimnboaaDoor
open Go.RowKit
set_option linter.unusedVariables false

theorem pop_zero : ∀ n, pop n 0 = 0
  | 0 => rfl
  | n + 1 => by unfold pop; simp [pop_zero n]
theorem pop_high {m n x : Nat} (h : x < 2 ^ m) (hmn : m ≤ n) : pop n x = pop m x := by
  obtain ⟨d, rfl⟩ : ∃ d, n = m + d := ⟨n - m, by omega⟩
  rw [pop_add, Nat.div_eq_of_lt h, pop_zero, Nat.add_zero]
theorem pop_succ : ∀ (n x : Nat), pop n (x + 1) ≤ pop n x + 1
  | 0, x => by simp [pop]
  | n + 1, x => by
    have ih := pop_succ n (x / 2)
    show (x + 1) % 2 + pop n ((x + 1) / 2) ≤ x % 2 + pop n (x / 2) + 1
    by_cases h : x % 2 = 0
    · rw [show (x + 1) / 2 = x / 2 by omega]; omega
    · rw [show (x + 1) / 2 = x / 2 + 1 by omega]; omega
theorem pop_le_self : ∀ (n x : Nat), pop n x ≤ x
  | 0, x => by simp [pop]
  | n + 1, x => by
    have ih := pop_le_self n (x / 2)
    show x % 2 + pop n (x / 2) ≤ x
    omega
theorem ones_even {k : Nat} (h : k < 9223372036854775808) : ones (2 * k) = ones k := by
  unfold ones
  show 2 * k % 2 + pop 63 (2 * k / 2) = pop 64 k
  rw [pop_high (m := 63) (n := 64) h (by decide), show 2 * k / 2 = k by omega]
  omega
theorem ones_odd {k : Nat} (h : k < 9223372036854775808) : ones (2 * k + 1) = ones k + 1 := by
  unfold ones
  show (2 * k + 1) % 2 + pop 63 ((2 * k + 1) / 2) = pop 64 k + 1
  rw [pop_high (m := 63) (n := 64) h (by decide), show (2 * k + 1) / 2 = k by omega]
  omega
theorem ones_le (x : Nat) : ones x ≤ x := by unfold ones; exact pop_le_self 64 x
theorem ones_le64 (x : Nat) : ones x ≤ 64 := by unfold ones; exact pop_le 64 x
theorem ones_succ (x : Nat) : ones (x + 1) ≤ ones x + 1 := by unfold ones; exact pop_succ 64 x
theorem ones_zero : ones 0 = 0 := by unfold ones; exact pop_zero 64
theorem ones_one : ones 1 = 1 := by unfold ones; decide
theorem ones_shift : ∀ (h k : Nat), k * 2 ^ h < 18446744073709551616 → ones (k * 2 ^ h) = ones k
  | 0, k, _ => by simp
  | h + 1, k, hk => by
    rw [Nat.pow_succ, ← Nat.mul_assoc] at hk
    rw [Nat.pow_succ, ← Nat.mul_assoc, Nat.mul_comm (k * 2 ^ h), ones_even (by omega), ones_shift h k (by omega)]
theorem ones_fill : ∀ (h k : Nat), (k + 1) * 2 ^ h ≤ 18446744073709551616 → ones ((k + 1) * 2 ^ h - 1) = ones k + h
  | 0, k, _ => by simp
  | h + 1, k, hk => by
    rw [Nat.pow_succ, ← Nat.mul_assoc] at hk
    have hp : 0 < 2 ^ h := Nat.two_pow_pos h
    have h1 : 1 ≤ (k + 1) * 2 ^ h := Nat.mul_pos (by omega) hp
    have e : (k + 1) * 2 ^ (h + 1) - 1 = 2 * ((k + 1) * 2 ^ h - 1) + 1 := by
      rw [Nat.pow_succ, ← Nat.mul_assoc]
      omega
    rw [e, ones_odd (by omega), ones_fill h k (by omega)]
    omega

/-- How many nodes n leaves have. -/
def nodeN (n : Nat) : Nat := 2 * n - ones n
theorem nodeN_succ (n : Nat) : nodeN n < nodeN (n + 1) := by
  have := ones_succ n
  have := ones_le n
  have := ones_le (n + 1)
  unfold nodeN
  omega
theorem nodeN_mono {a b : Nat} (h : a < b) : nodeN a < nodeN b := by
  obtain ⟨d, rfl⟩ : ∃ d, b = a + 1 + d := ⟨b - a - 1, by omega⟩
  clear h
  induction d with
  | zero => exact nodeN_succ a
  | succ d ih => exact Nat.lt_trans ih (nodeN_succ _)
theorem nodeN_mono_le {a b : Nat} (h : a ≤ b) : nodeN a ≤ nodeN b := by
  rcases Nat.lt_or_eq_of_le h with h | h
  · exact Nat.le_of_lt (nodeN_mono h)
  · rw [h]; exact Nat.le_refl _
/-- Of p places the leaf that the last of them belongs to is one alone. -/
theorem leaf_unique {a b p : Nat} (a1 : nodeN a ≤ p) (a2 : p < nodeN (a + 1)) (b1 : nodeN b ≤ p) (b2 : p < nodeN (b + 1)) : a = b := by
  rcases Nat.lt_trichotomy a b with h | h | h
  · have := nodeN_mono_le (show a + 1 ≤ b from h); omega
  · exact h
  · have := nodeN_mono_le (show b + 1 ≤ a from h); omega
theorem nodeN_half {n : Nat} (h : n < 18446744073709551616) : nodeN n = n + nodeN (n / 2) := by
  have h1 : ones n = n % 2 + ones (n / 2) := by
    by_cases he : n % 2 = 0
    · have e : n = 2 * (n / 2) := by omega
      conv => lhs; rw [e]
      rw [ones_even (by omega)]; omega
    · have e : n = 2 * (n / 2) + 1 := by omega
      conv => lhs; rw [e]
      rw [ones_odd (by omega)]; omega
  have := ones_le (n / 2)
  unfold nodeN
  omega

/-- Where the spot of height h and index k stands; where the nodes under it begin. -/
def placeN (h k : Nat) : Nat := (k + 1) * 2 ^ (h + 1) - 2 - ones k
def baseN (h k : Nat) : Nat := k * 2 ^ (h + 1) - ones k
theorem two_le_pow (h : Nat) : 2 ≤ 2 ^ (h + 1) := by
  have := Nat.two_pow_pos h
  rw [Nat.pow_succ]; omega
theorem ones_le_mul (h k : Nat) : 2 * ones k ≤ k * 2 ^ (h + 1) := by
  have := ones_le k
  have := Nat.mul_le_mul_left k (two_le_pow h)
  omega
theorem place_base (h k : Nat) : placeN h k = baseN h k + (2 ^ (h + 1) - 2) := by
  have h1 := ones_le_mul h k
  have h2 := two_le_pow h
  unfold placeN baseN
  rw [Nat.add_mul]
  omega
theorem base_left {h k : Nat} (hk : k < 9223372036854775808) : baseN h (2 * k) = baseN (h + 1) k := by
  unfold baseN
  rw [ones_even hk, Nat.pow_succ 2 (h + 1), Nat.mul_comm 2 k, Nat.mul_assoc, Nat.mul_comm 2]
theorem base_right {h k : Nat} (hk : k < 9223372036854775808) : baseN h (2 * k + 1) = baseN (h + 1) k + (2 ^ (h + 1) - 1) := by
  have h1 := ones_le_mul (h + 1) k
  have h2 := two_le_pow h
  have e : (2 * k + 1) * 2 ^ (h + 1) = k * 2 ^ (h + 1 + 1) + 2 ^ (h + 1) := by
    rw [Nat.add_mul, Nat.one_mul, Nat.pow_succ 2 (h + 1), Nat.mul_comm 2 k, Nat.mul_assoc, Nat.mul_comm 2]
  unfold baseN
  rw [ones_odd hk, e]
  omega
theorem place_right {h k : Nat} (hk : k < 9223372036854775808) : placeN h (2 * k + 1) = placeN (h + 1) k - 1 := by
  have h1 := two_le_pow h
  have h2 : 2 ^ (h + 1 + 1) = 2 ^ (h + 1) * 2 := Nat.pow_succ ..
  rw [place_base, place_base, base_right hk]
  omega
theorem place_left {h k : Nat} (hk : k < 9223372036854775808) : placeN h (2 * k) = placeN (h + 1) k - 2 ^ (h + 1) := by
  have h1 := two_le_pow h
  have h2 : 2 ^ (h + 1 + 1) = 2 ^ (h + 1) * 2 := Nat.pow_succ ..
  rw [place_base, place_base, base_left hk]
  omega
/-- The node (h, k) is made behind the leaf (k + 1) 2^h - 1, h steps up. -/
theorem place_leaf {h k : Nat} (hk : (k + 1) * 2 ^ h ≤ 9223372036854775808) : placeN h k = nodeN ((k + 1) * 2 ^ h - 1) + h := by
  have hp := Nat.two_pow_pos h
  have h1 : 1 ≤ (k + 1) * 2 ^ h := Nat.mul_pos (by omega) hp
  have h2 := ones_fill h k (by omega)
  have h3 := ones_le ((k + 1) * 2 ^ h - 1)
  unfold placeN nodeN
  rw [h2] at h3 ⊢
  rw [Nat.pow_succ, ← Nat.mul_assoc]
  omega
theorem place_next {h k : Nat} (hk : (k + 1) * 2 ^ h ≤ 9223372036854775808) : placeN h k < nodeN ((k + 1) * 2 ^ h) := by
  have hp := Nat.two_pow_pos h
  have h1 : 1 ≤ (k + 1) * 2 ^ h := Nat.mul_pos (by omega) hp
  have h2 := ones_shift h (k + 1) (by omega)
  have h3 := ones_succ k
  have h4 := ones_le k
  have h5 := ones_le (k + 1)
  have h6 : k + 1 ≤ (k + 1) * 2 ^ h := Nat.le_mul_of_pos_right _ hp
  unfold placeN nodeN
  rw [h2, Nat.pow_succ, ← Nat.mul_assoc]
  omega

/-- A right spot: of the tree of height 62. -/
def Right (h k : Nat) : Prop := h ≤ 62 ∧ k < 2 ^ (62 - h)
theorem right_bound {h k : Nat} (r : Right h k) : (k + 1) * 2 ^ h ≤ 4611686018427387904 := by
  obtain ⟨h1, h2⟩ := r
  have e : 2 ^ (62 - h) * 2 ^ h = 4611686018427387904 := by
    rw [← Nat.pow_add, show 62 - h + h = 62 by omega]
  have := Nat.mul_le_mul_right (2 ^ h) (show k + 1 ≤ 2 ^ (62 - h) from h2)
  omega
theorem right_k {h k : Nat} (r : Right h k) : k < 4611686018427387904 := by
  have := right_bound r
  have hp := Nat.two_pow_pos h
  have h6 : k + 1 ≤ (k + 1) * 2 ^ h := Nat.le_mul_of_pos_right _ hp
  omega
theorem right_left {h k : Nat} (r : Right (h + 1) k) : Right h (2 * k) ∧ Right h (2 * k + 1) := by
  obtain ⟨h1, h2⟩ := r
  have e : 2 ^ (62 - h) = 2 * 2 ^ (62 - (h + 1)) := by
    rw [show 62 - h = (62 - (h + 1)) + 1 by omega, Nat.pow_succ, Nat.mul_comm]
  exact ⟨⟨by omega, by omega⟩, ⟨by omega, by omega⟩⟩
theorem place_inj {h k h' k' : Nat} (r : Right h k) (r' : Right h' k') (e : placeN h k = placeN h' k') : h = h' ∧ k = k' := by
  have b := right_bound r
  have b' := right_bound r'
  have p := Nat.two_pow_pos h
  have p' := Nat.two_pow_pos h'
  have q : 1 ≤ (k + 1) * 2 ^ h := Nat.mul_pos (by omega) p
  have q' : 1 ≤ (k' + 1) * 2 ^ h' := Nat.mul_pos (by omega) p'
  have l := place_leaf (h := h) (k := k) (by omega)
  have l' := place_leaf (h := h') (k := k') (by omega)
  have n := place_next (h := h) (k := k) (by omega)
  have n' := place_next (h := h') (k := k') (by omega)
  have u := leaf_unique (a := (k + 1) * 2 ^ h - 1) (b := (k' + 1) * 2 ^ h' - 1) (p := placeN h k) (by omega) (by rw [show (k + 1) * 2 ^ h - 1 + 1 = (k + 1) * 2 ^ h by omega]; exact n) (by omega) (by rw [show (k' + 1) * 2 ^ h' - 1 + 1 = (k' + 1) * 2 ^ h' by omega, e]; exact n')
  rw [u] at l
  have hh : h = h' := by omega
  subst hh
  refine ⟨rfl, ?_⟩
  have e2 : (k + 1) * 2 ^ h = (k' + 1) * 2 ^ h := by omega
  have := Nat.eq_of_mul_eq_mul_right p e2
  omega
/-- Under every node each place is a node's. -/
theorem spot_under (h : Nat) : ∀ (k p : Nat), Right h k → baseN h k ≤ p → p ≤ placeN h k → ∃ h' k', Right h' k' ∧ placeN h' k' = p := by
  induction h with
  | zero =>
    intro k p r p0 p1
    have e := place_base 0 k
    rw [show 2 ^ (0 + 1) - 2 = 0 by decide] at e
    exact ⟨0, k, r, by omega⟩
  | succ h ih =>
    intro k p r p0 p1
    by_cases e : p = placeN (h + 1) k
    · exact ⟨h + 1, k, r, e.symm⟩
    · have hk := right_k r
      have rl := (right_left r).1
      have rr := (right_left r).2
      have b1 := base_right (h := h) (k := k) (by omega)
      have b2 := place_right (h := h) (k := k) (by omega)
      have b3 := base_left (h := h) (k := k) (by omega)
      have b4 := place_base h (2 * k)
      have b5 := two_le_pow h
      by_cases c : baseN (h + 1) k + (2 ^ (h + 1) - 1) ≤ p
      · exact ih (2 * k + 1) p rr (by omega) (by omega)
      · exact ih (2 * k) p rl (by omega) (by omega)
theorem spot_at {p : Nat} (hp : p < 9223372036854775807) : ∃ h k, Right h k ∧ placeN h k = p := by
  have e : (2 : Nat) ^ (62 + 1) = 9223372036854775808 := by decide
  have b : baseN 62 0 = 0 := by unfold baseN; omega
  have q : placeN 62 0 = 9223372036854775806 := by
    unfold placeN
    rw [ones_zero, e]
  exact spot_under 62 0 p ⟨by decide, by decide⟩ (by omega) (by omega)
attribute [irreducible] nodeN placeN baseN
end Go.Proofs.YtpbahbigimnboaaDoor
