/-
  The walks of pos.nodes and pos.last, of Nodes, Leaf, Leaves.
-/
import Derived.Test.YtpbahbigimnboaaDoorOnesWalk
import Derived.Test.YtpbahbigimnboaaDoorPosPure
import Derived.Test.YtpbahbigimnboaaDoorMask
namespace Go.Proofs.YtpbahbigimnboaaDoor
open Go.RowKit
set_option linter.unusedVariables false

theorem nodes_any {n : Nat} (hn : n < 9223372036854775808) (w : World) :
    Calls Tryd.prog 28 #[.int .u64 n] w fun e w' => e = .returned (.int .u64 (nodeN n)) ∧ w = w' := by
  have h1 := ones_le n
  have E : 2 * (n : Int) - (ones n : Int) = ((nodeN n : Nat) : Int) := by unfold nodeN; omega
  have HE := Lib.hid E
  have i1 : (ones n : Int) ≤ (n : Int) := by omega
  clear E
  go_enter Tryd.func28, Tryd.ntmps28
  go_wp2_with fail
  refine (Ones_any (by omega) _).mono ?_
  rintro e w' ⟨rfl, rfl⟩
  generalize ones n = q at *
  go_wp2
  go_ret
  exact ⟨ret_int HE.out, rfl⟩

/-- The greatest number of leaves that has not more nodes: from the highest power of two down. -/
def lastF : Nat → Nat → Nat → Nat
  | 0, _, n => n
  | c + 1, p, n => if 2 ^ (c + 1) - 1 ≤ p then lastF c (p - (2 ^ (c + 1) - 1)) (n + 2 ^ c) else lastF c p n
def lastN (p : Nat) : Nat := lastF 63 p 0
theorem nodeN_add {m c : Nat} (h : m * 2 ^ (c + 1) + 2 ^ c < 9223372036854775808 + 9223372036854775808) : nodeN (m * 2 ^ (c + 1) + 2 ^ c) = nodeN (m * 2 ^ (c + 1)) + (2 ^ (c + 1) - 1) := by
  have hp := Nat.two_pow_pos c
  have e : m * 2 ^ (c + 1) + 2 ^ c = (2 * m + 1) * 2 ^ c := by
    rw [Nat.add_mul, Nat.one_mul, Nat.pow_succ, ← Nat.mul_assoc, Nat.mul_comm 2 m, Nat.mul_assoc, Nat.mul_assoc, Nat.mul_comm 2]
  have hm : m < 9223372036854775808 := by
    have := Nat.le_mul_of_pos_right m (show 0 < 2 ^ (c + 1) from Nat.two_pow_pos _)
    have h2 : m * 2 ^ (c + 1) = 2 * (m * 2 ^ c) := by rw [Nat.pow_succ, ← Nat.mul_assoc, Nat.mul_comm]
    have h3 := Nat.le_mul_of_pos_right m hp
    omega
  have h1 : ones (m * 2 ^ (c + 1)) = ones m := ones_shift (c + 1) m (by omega)
  have h2 : ones (m * 2 ^ (c + 1) + 2 ^ c) = ones m + 1 := by rw [e, ones_shift c (2 * m + 1) (by omega), ones_odd hm]
  have h3 := ones_le_mul c m
  unfold nodeN
  rw [h1, h2, Nat.pow_succ] at *
  omega
theorem lastF_spec (c : Nat) : ∀ (p n p0 m : Nat), n = m * 2 ^ c → n + 2 ^ c ≤ 9223372036854775808 → p0 = nodeN n + p → p0 < nodeN (n + 2 ^ c) →
    nodeN (lastF c p n) ≤ p0 ∧ p0 < nodeN (lastF c p n + 1) ∧ lastF c p n < n + 2 ^ c := by
  induction c with
  | zero =>
    intro p n p0 m hn hb hp hlt
    simp only [lastF, Nat.pow_zero] at *
    exact ⟨by omega, hlt, by omega⟩
  | succ c ih =>
    intro p n p0 m hn hb hp hlt
    have h2 : 2 ^ (c + 1) = 2 ^ c * 2 := Nat.pow_succ ..
    have hp0 := Nat.two_pow_pos c
    have ha : nodeN (n + 2 ^ c) = nodeN n + (2 ^ (c + 1) - 1) := by
      rw [hn]
      exact nodeN_add (by rw [← hn]; omega)
    unfold lastF
    by_cases hc : 2 ^ (c + 1) - 1 ≤ p
    · rw [if_pos hc]
      have r := ih (p - (2 ^ (c + 1) - 1)) (n + 2 ^ c) p0 (2 * m + 1) (by rw [hn, h2, Nat.add_mul, Nat.one_mul, ← Nat.mul_assoc, Nat.mul_comm 2 m, Nat.mul_assoc, Nat.mul_assoc, Nat.mul_comm 2]) (by omega) (by omega) (by rw [show n + 2 ^ c + 2 ^ c = n + 2 ^ (c + 1) by omega]; exact hlt)
      exact ⟨r.1, r.2.1, by omega⟩
    · rw [if_neg hc]
      have r := ih p n p0 (2 * m) (by rw [hn, h2, ← Nat.mul_assoc, Nat.mul_comm 2 m, Nat.mul_assoc, Nat.mul_assoc, Nat.mul_comm 2]) (by omega) hp (by omega)
      exact ⟨r.1, r.2.1, by omega⟩
theorem lastN_spec {p : Nat} (hp : p < 18446744073709551615) : nodeN (lastN p) ≤ p ∧ p < nodeN (lastN p + 1) ∧ lastN p < 9223372036854775808 := by
  have e : (2 : Nat) ^ 63 = 9223372036854775808 := by decide
  have o : ones 9223372036854775808 = 1 := by
    have := ones_shift 63 1 (by rw [e]; decide)
    rw [Nat.one_mul, e] at this
    rw [this]; exact ones_one
  have z : nodeN 0 = 0 := by unfold nodeN; omega
  have t : nodeN (0 + 2 ^ 63) = 18446744073709551615 := by unfold nodeN; rw [e, Nat.zero_add, o]
  have r := lastF_spec 63 p 0 p 0 (by simp) (by rw [e]; omega) (by omega) (by omega)
  exact ⟨r.1, r.2.1, by have := r.2.2; rw [e] at this; unfold lastN; omega⟩
theorem lastN_of {p i : Nat} (hp : p < 18446744073709551615) (h1 : nodeN i ≤ p) (h2 : p < nodeN (i + 1)) : lastN p = i := by
  have := lastN_spec hp
  exact leaf_unique this.1 this.2.1 h1 h2

theorem shl1 {c : Nat} (hc : c < 64) : IntKind.u64.wrap (1 * 2 ^ min ((c : Int)).toNat 64) = ((2 ^ c : Nat) : Int) := by
  have h := mul_min 1 c
  have h2 : 2 ^ c < 2 ^ 64 := Nat.pow_lt_pow_right (by decide) hc
  have h3 : (2 : Nat) ^ 64 = 18446744073709551616 := by decide
  rw [Int.toNat_natCast]
  have e : ((1 : Nat) : Int) = 1 := rfl
  rw [e] at h
  rw [h, Nat.one_mul, Nat.mod_eq_of_lt (by omega)]
theorem wrap_add_pow {n d : Nat} (hd : d < 64) (h : n + 2 ^ d < 18446744073709551616) : IntKind.u64.wrap ((n : Int) + IntKind.u64.wrap (2 ^ d)) = ((n + 2 ^ d : Nat) : Int) := by
  have e : (2 : Int) ^ d = ((2 ^ d : Nat) : Int) := cast_pow d
  rw [e]
  generalize 2 ^ d = q at *
  rw [wrap_u64, wrap_u64]
  omega
theorem mask_of {c : Nat} (hc : c ≤ 64) : maskN (c : Int) = 2 ^ c - 1 := by
  unfold maskN
  rw [Int.toNat_natCast, Nat.min_eq_left hc]

attribute [irreducible] lastN lastF
end Go.Proofs.YtpbahbigimnboaaDoor
