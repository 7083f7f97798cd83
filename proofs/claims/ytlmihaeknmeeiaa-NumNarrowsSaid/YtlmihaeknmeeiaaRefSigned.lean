/-
  massifref1's Plain and Signed: a signed number as its bits, and back.
-/
import Derived.Test.YtlmihaeknmeeiaaRefShl
namespace Go.Proofs.Ytlmihaeknmeeiaa
open Go.RowKit
set_option linter.unusedVariables false

/-- A signed number's bits as a number; and back. -/
def plainN (y : Int) : Nat := (y % 18446744073709551616).toNat
def sgn (z : Nat) : Int := if z < 9223372036854775808 then z else (z : Int) - 18446744073709551616
theorem plainN_lt (y : Int) : plainN y < 18446744073709551616 := by unfold plainN; omega
theorem sgn_plainN {y : Int} (h0 : -9223372036854775808 ≤ y) (h1 : y ≤ 9223372036854775807) : sgn (plainN y) = y := by
  unfold sgn plainN
  split <;> omega

theorem plain_any {y : Int} (h0 : -9223372036854775808 ≤ y) (h1 : y ≤ 9223372036854775807) (w : World) :
    Calls Try.prog 49 #[.int .i64 y] w fun e w' => e = .returned (.int .u64 (plainN y)) ∧ w = w' := by
  by_cases hy : 0 ≤ y
  · have E : (plainN y : Int) = y := by unfold plainN; omega
    have HE := Lib.hid E
    clear E
    go_enter Try.func49, Try.ntmps49
    go_wp2
    go_ret
    exact ⟨by rw [HE.out]; rfl, rfl⟩
  · have E : (plainN y : Int) = 18446744073709551615 + (y + 1) := by unfold plainN; omega
    have HE := Lib.hid E
    clear E
    go_enter Try.func49, Try.ntmps49
    go_wp2
    go_ret
    exact ⟨by rw [HE.out]; rfl, rfl⟩

theorem top_bit {z : Nat} (hz : z < 18446744073709551616) : bitsF z 63 = if z < 9223372036854775808 then 0 else 1 := by
  unfold bitsF
  rw [Nat.toNat_testBit]
  have : (2 : Nat) ^ 63 = 9223372036854775808 := by decide
  rw [this]
  split <;> omega
theorem half_low (z j : Nat) : 2 * ((z % 9223372036854775808 / 2 ^ (j + 1) : Nat) : Int) + bitsF (z % 9223372036854775808) j = ((z % 9223372036854775808 / 2 ^ j : Nat) : Int) := half_of _ _
theorem bits_low (z : Nat) {j : Nat} (hj : j < 63) : bitsF (z % 9223372036854775808) j = bitsF z j := by
  unfold bitsF
  have : (9223372036854775808 : Nat) = 2 ^ 63 := by decide
  rw [this, Nat.testBit_mod_two_pow]
  simp [hj]

theorem signed_any {z : Nat} (hz : z < 18446744073709551616) (w : World) :
    Calls Try.prog 50 #[.int .u64 z] w fun e w' => e = .returned (.int .i64 (sgn z)) ∧ Below w.heap.size w w' := by
  go_enter Try.func50, Try.ntmps50
  go_wp2_with fail
  refine (row_any z hz _).mono ?_
  rintro e w1 ⟨rfl, hb1⟩
  go_wp2_with (refine wpList_store_row rfl 50 _ _ rfl w1.heap.size _ rfl rfl 50 _ (heap_alloc_new _ _) (size64 _) rfl (arr64_one _) ?_; rw [setRow_alloc])
  generalize hW : World.alloc w1 _ = w2
  have hb2 : Below w.heap.size w w2 := by rw [← hW]; exact hb1.alloc hb1.size _
  have g : w2.heap[w1.heap.size]? = some (.cells (arr64 (bitsF z)) 50 (0, 0)) := by rw [← hW, heap_alloc_new]
  clear hW hb1
  generalize w1.heap.size = b at *
  have htop := row_cell g (k := 63) (by omega)
  have HT := Lib.hid (top_bit hz)
  go_loop [4, 5] (fun n i => ∃ k : Nat, k ≤ 63 ∧ i = .int .i64 ((k : Int) - 1) ∧ n = .int .i64 ((z % 9223372036854775808 / 2 ^ k : Nat) : Int)) (fun _ i => (intOf i + 1).toNat)
  case atStart =>
    refine ⟨63, by omega, rfl, ?_⟩
    have : (2 : Nat) ^ 63 = 9223372036854775808 := by decide
    rw [this, Nat.div_eq_of_lt (by omega)]
    rfl
  case round =>
    obtain ⟨k, hk, rfl, rfl⟩ := hrel
    by_cases hlt : 0 < k
    · obtain ⟨j, rfl⟩ : ∃ j, k = j + 1 := ⟨k - 1, by omega⟩
      have hc := row_cell g (k := j) (by omega)
      have G := Lib.hid g
      have hl := half_low z j
      rw [bits_low z (by omega)] at hl
      have hh := Lib.hid hl
      have l0 := bitsF_lo z j
      have l1 := bitsF_hi z j
      have hy2 : z % 9223372036854775808 / 2 ^ j < 9223372036854775808 := Nat.lt_of_le_of_lt (Nat.div_le_self _ _) (by omega)
      have hq : (2 * ((z % 9223372036854775808 / 2 ^ (j + 1) : Nat) : Int) + bitsF z j) < 9223372036854775808 := by rw [hh.out]; omega
      clear g hy2 hl htop
      have ej : ((j + 1 : Nat) : Int) - 1 = (j : Int) := by omega
      rw [ej]
      clear ej
      generalize bitsF z j = v at *
      generalize hm : z % 9223372036854775808 / 2 ^ (j + 1) = m at *
      clear hm
      go_wp2
      go_round
      case rel => exact ⟨j, by omega, rfl, by rw [← hh.out]⟩
      case measure => simp [intOf]
    · obtain rfl : k = 0 := by omega
      clear g
      have hl : ((z % 9223372036854775808 : Nat) : Int) < 9223372036854775808 := by omega
      have hl0 : 0 ≤ ((z % 9223372036854775808 : Nat) : Int) := by omega
      have em : z % 9223372036854775808 / 2 ^ 0 = z % 9223372036854775808 := by simp
      rw [em]
      clear em
      by_cases ht : z < 9223372036854775808
      · have HT2 := HT.out
        rw [if_pos ht] at HT2
        rw [HT2] at htop
        have E : ((z % 9223372036854775808 : Nat) : Int) = sgn z := by unfold sgn; rw [if_pos ht]; omega
        have HE := Lib.hid E
        clear E HT2
        generalize z % 9223372036854775808 = m at *
        go_wp2
        go_ret
        exact ⟨ret_int HE.out, hb2⟩
      · have HT2 := HT.out
        rw [if_neg ht] at HT2
        rw [HT2] at htop
        have E : ((z % 9223372036854775808 : Nat) : Int) - 4611686018427387904 - 4611686018427387904 = sgn z := by unfold sgn; rw [if_neg ht]; omega
        have HE := Lib.hid E
        clear E HT2
        generalize z % 9223372036854775808 = m at *
        go_wp2
        go_ret
        exact ⟨ret_int HE.out, hb2⟩
end Go.Proofs.Ytlmihaeknmeeiaa
