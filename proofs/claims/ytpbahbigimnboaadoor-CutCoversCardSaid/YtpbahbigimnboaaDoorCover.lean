/-
  The heights of the peaks of n leaves, and what lies under them: the plain law.
-/
import Derived.Test.YtpbahbigimnboaaDoorPeaks
namespace Go.Proofs.YtpbahbigimnboaaDoor
open Go.RowKit
set_option linter.unusedVariables false

/-- The heights of the peaks, below c, from the left. -/
def highF : Nat → Nat → List Nat
  | 0, _ => []
  | c + 1, n => if n / 2 ^ c % 2 = 1 then c :: highF c n else highF c n
theorem peaksF_map (c n : Nat) : peaksF c n = (highF c n).map fun d => placeN d (n / 2 ^ d - 1) := by
  induction c with
  | zero => rfl
  | succ c ih =>
    unfold peaksF highF
    split
    · rw [List.map_cons, ih]
    · exact ih
theorem highF_lt {c n : Nat} : ∀ d ∈ highF c n, d < c := by
  induction c with
  | zero => intro d h; cases h
  | succ c ih =>
    intro d h
    unfold highF at h
    split at h
    · rcases List.mem_cons.1 h with h | h
      · omega
      · have := ih d h; omega
    · have := ih d h; omega
theorem highF_bit {c n : Nat} : ∀ d ∈ highF c n, n / 2 ^ d % 2 = 1 := by
  induction c with
  | zero => intro d h; cases h
  | succ c ih =>
    intro d h
    unfold highF at h
    split at h
    · rcases List.mem_cons.1 h with h | h
      · subst h; assumption
      · exact ih d h
    · exact ih d h
theorem half_up (n c : Nat) : n / 2 ^ (c + 1) * 2 ^ (c + 1) = (n / 2 ^ c / 2 * 2) * 2 ^ c := by
  rw [Nat.pow_succ, ← Nat.div_div_eq_div_mul, Nat.mul_assoc, Nat.mul_comm 2 (2 ^ c)]
/-- The leaves ahead of the first peak below c. -/
theorem cover_head {c n h : Nat} {l : List Nat} (e : highF c n = h :: l) : (n / 2 ^ h - 1) * 2 ^ h = n / 2 ^ c * 2 ^ c ∧ highF h n = l := by
  induction c with
  | zero => cases e
  | succ c ih =>
    unfold highF at e
    by_cases hb : n / 2 ^ c % 2 = 1
    · rw [if_pos hb] at e
      obtain ⟨rfl, rfl⟩ := List.cons.inj e
      refine ⟨?_, rfl⟩
      rw [half_up]
      congr 1
      omega
    · rw [if_neg hb] at e
      obtain ⟨h1, h2⟩ := ih e
      refine ⟨?_, h2⟩
      rw [h1, half_up]
      congr 1
      omega
theorem cover_nil {c n : Nat} (e : highF c n = []) : n / 2 ^ c * 2 ^ c = n := by
  induction c with
  | zero => simp
  | succ c ih =>
    unfold highF at e
    by_cases hb : n / 2 ^ c % 2 = 1
    · rw [if_pos hb] at e; cases e
    · rw [if_neg hb] at e
      have := ih e
      rw [half_up]
      rw [show n / 2 ^ c / 2 * 2 = n / 2 ^ c by omega]
      exact this
theorem right_up' {x y : Nat} (r : Right x y) (hx : x < 62) : Right (x + 1) (y / 2) := by
  refine ⟨by omega, ?_⟩
  have h2 := r.2
  have e : 62 - x = (62 - (x + 1)) + 1 := by omega
  rw [e, Nat.pow_succ] at h2
  generalize 2 ^ (62 - (x + 1)) = q at *
  omega
theorem peak_here {n d : Nat} (hn : n ≤ 4611686018427387904) (hd : d ≤ 62) (h : n / 2 ^ d % 2 = 1) : placeN d (n / 2 ^ d - 1) < nodeN n := by
  have hm := Nat.div_mul_le_self n (2 ^ d)
  have e : n / 2 ^ d - 1 + 1 = n / 2 ^ d := by
    generalize n / 2 ^ d = q at *
    omega
  have pn := place_next (h := d) (k := n / 2 ^ d - 1) (by rw [e]; omega)
  rw [e] at pn
  exact Nat.lt_of_lt_of_le pn (nodeN_mono_le hm)
theorem peak_up {n d : Nat} (hn : n ≤ 4611686018427387904) (hd : d < 62) (h : n / 2 ^ d % 2 = 1) : nodeN n ≤ placeN (d + 1) ((n / 2 ^ d - 1) / 2) := by
  have r := right_up' (peak_right hn (by omega) h) hd
  have b := right_bound r
  have pl := place_leaf (h := d + 1) (k := (n / 2 ^ d - 1) / 2) (by omega)
  have e : ((n / 2 ^ d - 1) / 2 + 1) * 2 ^ (d + 1) = (n / 2 ^ d + 1) * 2 ^ d := by
    rw [Nat.pow_succ, Nat.mul_comm (2 ^ d) 2, ← Nat.mul_assoc]
    congr 1
    clear pl b r
    generalize n / 2 ^ d = q at *
    omega
  have hm : n < (n / 2 ^ d + 1) * 2 ^ d := by
    rw [Nat.add_mul, Nat.one_mul]
    have h1 := Nat.div_add_mod n (2 ^ d)
    have h2 := Nat.mod_lt n (Nat.two_pow_pos d)
    rw [Nat.mul_comm] at h1
    omega
  rw [e] at pl
  rw [pl]
  have := nodeN_mono_le (show n ≤ (n / 2 ^ d + 1) * 2 ^ d - 1 by omega)
  omega
theorem peak_last {n d : Nat} (hn : n ≤ 4611686018427387904) (hd : d ≤ 62) (h : n / 2 ^ d % 2 = 1) (he : n / 2 ^ d * 2 ^ d = n) : placeN d (n / 2 ^ d - 1) + 1 = nodeN n := by
  have r := peak_right hn hd h
  have kb := right_k r
  obtain ⟨m, hm⟩ : ∃ m, n / 2 ^ d = 2 * m + 1 := ⟨n / 2 ^ d / 2, by omega⟩
  rw [hm] at he kb ⊢
  rw [Nat.add_sub_cancel] at kb ⊢
  have o1 : ones n = ones m + 1 := by
    rw [← he, ones_shift d (2 * m + 1) (by omega), ones_odd (by omega)]
  have o2 : ones (2 * m) = ones m := ones_even (by omega)
  have hl := ones_le_mul d (2 * m)
  have e2 : (2 * m + 1) * 2 ^ (d + 1) = 2 * n := by rw [Nat.pow_succ, ← Nat.mul_assoc, he, Nat.mul_comm]
  have e3 : (2 * m + 1) * 2 ^ (d + 1) = 2 * m * 2 ^ (d + 1) + 2 ^ (d + 1) := by rw [Nat.add_mul, Nat.one_mul]
  have t2 := two_le_pow d
  unfold placeN nodeN
  rw [o1, o2, e2]
  rw [o2] at hl
  omega
end Go.Proofs.YtpbahbigimnboaaDoor
