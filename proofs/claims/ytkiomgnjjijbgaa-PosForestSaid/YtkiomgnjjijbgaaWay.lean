/-
  The peak over a leaf, and the way there: the plain law.
-/
import Derived.Test.YtkiomgnjjijbgaaCount
import Derived.Test.YtkiomgnjjijbgaaKin
import Derived.Test.YtkiomgnjjijbgaaLen
namespace Go.Proofs.Ytkiomgnjjijbgaa
open Go.RowKit
set_option linter.unusedVariables false

theorem xor_zero_eq {a b : Nat} (h : a ^^^ b = 0) : a = b := by
  have e : a ^^^ b ^^^ b = b := by rw [h, Nat.zero_xor]
  rwa [Nat.xor_assoc, Nat.xor_self, Nat.xor_zero] at e
/-- The height of the peak over leaf i of n. -/
def overN (i n : Nat) : Nat := lenN (i ^^^ n) - 1
theorem over_spec {i n : Nat} (h : i < n) (hn : n ≤ 4611686018427387904) :
    lenN (i ^^^ n) = overN i n + 1 ∧ overN i n ≤ 62 ∧ n / 2 ^ overN i n % 2 = 1 ∧ i / 2 ^ overN i n + 1 = n / 2 ^ overN i n := by
  have hx0 : i ^^^ n ≠ 0 := by
    intro e
    have := xor_zero_eq e
    omega
  have hx : i ^^^ n < 2 ^ 63 := Nat.xor_lt_two_pow (by omega) (by omega)
  obtain ⟨l1, l2, l3⟩ := lenN_spec (by omega) hx0
  have e : lenN (i ^^^ n) = overN i n + 1 := by unfold overN; omega
  rw [e] at l2 l3
  rw [Nat.add_sub_cancel] at l2
  generalize overN i n = t at *
  have t62 : t ≤ 62 := by
    have : 2 ^ t < 2 ^ 63 := Nat.lt_of_le_of_lt l2 hx
    have := (Nat.pow_lt_pow_iff_right (a := 2) (by decide)).1 this
    omega
  have d0 : ∀ m, (i ^^^ n) / 2 ^ m = i / 2 ^ m ^^^ n / 2 ^ m := by
    intro m
    simp only [← Nat.shiftRight_eq_div_pow, Nat.shiftRight_xor_distrib]
  have a1 : (i ^^^ n) / 2 ^ (t + 1) = 0 := Nat.div_eq_of_lt l3
  rw [d0] at a1
  replace a1 := xor_zero_eq a1
  have a2 : i / 2 ^ t ≠ n / 2 ^ t := by
    intro q
    have : (i ^^^ n) / 2 ^ t = 0 := by rw [d0, q, Nat.xor_self]
    have := Nat.div_pos l2 (Nat.two_pow_pos t)
    omega
  have a3 : i / 2 ^ t ≤ n / 2 ^ t := Nat.div_le_div_right (by omega)
  rw [Nat.pow_succ, ← Nat.div_div_eq_div_mul, ← Nat.div_div_eq_div_mul] at a1
  refine ⟨e, t62, ?_, ?_⟩ <;> omega
/-- A set bit parts the heights: as many ahead of it as bits are set above. -/
theorem high_split (c : Nat) : ∀ n t, t < c → n / 2 ^ t % 2 = 1 → ∃ pre, highF c n = pre ++ t :: highF t n ∧ pre.length = (highF (c - t - 1) (n / 2 ^ (t + 1))).length := by
  induction c with
  | zero => intro n t h; omega
  | succ c ih =>
    intro n t h hb
    by_cases ht : t = c
    · subst ht
      refine ⟨[], ?_, ?_⟩
      · rw [highF, if_pos hb]; rfl
      · rw [show t + 1 - t - 1 = 0 by omega]; rfl
    · obtain ⟨pre, h1, h2⟩ := ih n t (by omega) hb
      have e : n / 2 ^ (t + 1) / 2 ^ (c - t - 1) = n / 2 ^ c := by
        rw [Nat.div_div_eq_div_mul, ← Nat.pow_add, show t + 1 + (c - t - 1) = c by omega]
      rw [show c + 1 - t - 1 = (c - t - 1) + 1 by omega]
      by_cases hc : n / 2 ^ c % 2 = 1
      · refine ⟨c :: pre, ?_, ?_⟩
        · rw [highF, if_pos hc, h1]; rfl
        · rw [highF, e, if_pos hc, List.length_cons, List.length_cons, h2]
      · refine ⟨pre, ?_, ?_⟩
        · rw [highF, if_neg hc, h1]
        · rw [highF, e, if_neg hc, h2]
theorem high_at {n t : Nat} (hn : n ≤ 4611686018427387904) (ht : t ≤ 62) (hb : n / 2 ^ t % 2 = 1) : ∃ pre, highF 63 n = pre ++ t :: highF t n ∧ pre.length = ones (n / 2 ^ (t + 1)) := by
  obtain ⟨pre, h1, h2⟩ := high_split 63 n t (by omega) hb
  refine ⟨pre, h1, ?_⟩
  rw [h2]
  refine high_ones _ _ ?_ (by omega)
  rw [Nat.div_lt_iff_lt_mul (Nat.two_pow_pos _), ← Nat.pow_add, show 63 - t - 1 + (t + 1) = 63 by omega]
  omega
/-- The siblings on the way from leaf i up to height t. -/
def wayF (i : Nat) : Nat → List Nat
  | 0 => []
  | t + 1 => wayF i t ++ [placeN t (sibN (i / 2 ^ t))]
theorem wayF_len (i t : Nat) : (wayF i t).length = t := by
  induction t with
  | zero => rfl
  | succ t ih => rw [wayF, List.length_append, ih]; rfl
theorem wayF_get {i t x : Nat} (h : x < t) : (wayF i t)[x]? = some (placeN x (sibN (i / 2 ^ x))) := by
  induction t with
  | zero => omega
  | succ t ih =>
    rw [wayF]
    by_cases hx : x = t
    · subst hx
      rw [List.getElem?_append_right (by rw [wayF_len]; omega), wayF_len]
      simp
    · rw [List.getElem?_append_left (by rw [wayF_len]; omega)]
      exact ih (by omega)
theorem way_right {i x : Nat} (hi : i < 4611686018427387904) (hx : x ≤ 62) : Right x (i / 2 ^ x) := by
  refine ⟨hx, ?_⟩
  rw [Nat.div_lt_iff_lt_mul (Nat.two_pow_pos _), ← Nat.pow_add, show 62 - x + x = 62 by omega]
  omega
theorem way_up (i x : Nat) : i / 2 ^ x / 2 = i / 2 ^ (x + 1) := by rw [Nat.div_div_eq_div_mul, Nat.pow_succ]
theorem leaf_place {i : Nat} (h : i < 4611686018427387904) : nodeN i = placeN 0 (i / 2 ^ 0) := by
  rw [place_leaf (by rw [Nat.pow_zero, Nat.div_one]; omega)]
  simp
theorem way_under {i t : Nat} : i / 2 ^ t * 2 ^ t ≤ i ∧ i < (i / 2 ^ t + 1) * 2 ^ t := by
  have h1 := Nat.div_add_mod i (2 ^ t)
  have h2 := Nat.mod_lt i (Nat.two_pow_pos t)
  rw [Nat.mul_comm] at h1
  rw [Nat.add_mul, Nat.one_mul]
  omega
end Go.Proofs.Ytkiomgnjjijbgaa
