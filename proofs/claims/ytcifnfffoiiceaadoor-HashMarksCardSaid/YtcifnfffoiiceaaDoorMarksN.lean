/-
  When two texts of one kind are the same. No program's walk in sight.
-/
import Derived.Test.YtcifnfffoiiceaaDoorHashN
namespace Go.Proofs.YtcifnfffoiiceaaDoor
set_option linter.unusedVariables false

theorem leaf_same (t : Nat) (x y : List Nat) : decide (t :: x = t :: y) = decide (x = y) := by
  congr 1
  simp
theorem pair_same {t : Nat} {a b c d : List Nat} (h : a.length = c.length) : decide (t :: (a ++ b) = t :: (c ++ d)) = (decide (a = c) && decide (b = d)) := by
  rw [leaf_same, ← Bool.decide_and]
  congr 1
  apply propext
  exact ⟨fun e => List.append_inj e h, fun ⟨e1, e2⟩ => by rw [e1, e2]⟩
theorem bigL_back {x : Nat} : ∀ n : Nat, x < 256 ^ n → bigV (bigL x n) = x := by
  intro n
  induction n generalizing x with
  | zero => intro h; simp at h; subst h; rfl
  | succ n ih =>
    intro h
    have e : bigL x (n + 1) = bigL (x / 256) n ++ [x % 256] := by
      unfold bigL
      rw [List.range_succ, List.map_append]
      congr 1
      · apply List.map_congr_left
        intro j hj
        rw [List.mem_range] at hj
        rw [show n + 1 - 1 - j = (n - 1 - j) + 1 by omega, Nat.pow_succ, Nat.mul_comm, ← Nat.div_div_eq_div_mul]
      · simp
    rw [e, bigV_snoc, ih (by rw [Nat.pow_succ] at h; exact Nat.div_lt_of_lt_mul (by rw [Nat.mul_comm]; exact h))]
    omega
theorem big_same {n m : Nat} (hn : n < 18446744073709551616) (hm : m < 18446744073709551616) : bigL n 8 = bigL m 8 ↔ n = m := by
  refine ⟨fun e => ?_, fun e => by rw [e]⟩
  have h1 := bigL_back (x := n) 8 (by show n < 18446744073709551616; exact hn)
  have h2 := bigL_back (x := m) 8 (by show m < 18446744073709551616; exact hm)
  rw [← h1, ← h2, e]
theorem root_same {n m : Nat} (hn : n < 18446744073709551616) (hm : m < 18446744073709551616) (a c : List Nat) : decide (3 :: (bigL n 8 ++ a) = 3 :: (bigL m 8 ++ c)) = (decide (n = m) && decide (a = c)) := by
  rw [pair_same (by rw [bigL_length, bigL_length])]
  congr 2
  exact propext (big_same hn hm)
end Go.Proofs.YtcifnfffoiiceaaDoor
