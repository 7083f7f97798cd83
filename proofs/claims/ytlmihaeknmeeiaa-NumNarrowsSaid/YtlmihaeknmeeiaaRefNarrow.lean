/-
  massifref1's Narrow and Fits.
-/
import Derived.Test.YtlmihaeknmeeiaaKinds
namespace Go.Proofs.Ytlmihaeknmeeiaa
open Go.RowKit
set_option linter.unusedVariables false

theorem bit_of_mod {X Y b i : Nat} (h : X % 2 ^ b = Y % 2 ^ b) (hi : i < b) : bitsF X i = bitsF Y i := by
  have h1 := Nat.testBit_mod_two_pow X b i
  have h2 := Nat.testBit_mod_two_pow Y b i
  rw [h] at h1
  rw [h1] at h2
  simp only [hi, decide_true, Bool.true_and] at h2
  unfold bitsF
  rw [h2]
theorem bit_zero_of {Y b i : Nat} (h : Y < 2 ^ b) (hi : b ≤ i) : bitsF Y i = 0 := by
  unfold bitsF
  rw [Nat.testBit_lt_two_pow (Nat.lt_of_lt_of_le h (Nat.pow_le_pow_right (by decide) hi))]
  rfl
theorem bit_sign {y : Int} {c i : Nat} (h0 : -((2 ^ c : Nat) : Int) ≤ y) (h1 : y < ((2 ^ c : Nat) : Int)) (hc : c < 64) (hi : c ≤ i) (hi64 : i < 64) : bitsF (plainN y) i = if y < 0 then 1 else 0 := by
  have hp : 2 ^ c ≤ 2 ^ i := Nat.pow_le_pow_right (by decide) hi
  have hp2 : 2 ^ c ≤ 2 ^ 63 := Nat.pow_le_pow_right (by decide) (by omega)
  have h63 : (2 : Nat) ^ 63 = 9223372036854775808 := by decide
  split
  · rename_i hn
    obtain ⟨m, hm⟩ : ∃ m : Nat, (m : Int) = -y - 1 := ⟨(-y - 1).toNat, by omega⟩
    have e : plainN y = 2 ^ 64 - (m + 1) := by
      have : (2 : Nat) ^ 64 = 18446744073709551616 := by decide
      unfold plainN
      omega
    unfold bitsF
    rw [e, Nat.testBit_two_pow_sub_succ (by omega), Nat.testBit_lt_two_pow (show m < 2 ^ i by omega)]
    simp [hi64]
  · rename_i hn
    have e : plainN y < 2 ^ c := by unfold plainN; omega
    exact bit_zero_of e hi

theorem nar_low1 (x : Int) {i : Nat} (hi : i < 8) : bitsF (plainN (narN x 1)) i = bitsF (plainN x) i := by
  apply bit_of_mod (b := 8) _ hi
  rw [show narN x 1 = (x + 128) % 256 - 128 from rfl, show (2 : Nat) ^ 8 = 256 by decide]
  unfold plainN
  omega
theorem nar_high1 (x : Int) {i : Nat} (hb : 8 ≤ i) (hi : i < 64) : bitsF (plainN (narN x 1)) i = bitsF (plainN (narN x 1)) 7 := by
  have e0 : -((2 ^ 7 : Nat) : Int) ≤ narN x 1 := by rw [show narN x 1 = (x + 128) % 256 - 128 from rfl, show (2 : Nat) ^ 7 = 128 by decide]; omega
  have e1 : narN x 1 < ((2 ^ 7 : Nat) : Int) := by rw [show narN x 1 = (x + 128) % 256 - 128 from rfl, show (2 : Nat) ^ 7 = 128 by decide]; omega
  rw [bit_sign e0 e1 (by decide) (by omega) hi, bit_sign e0 e1 (by decide) (by omega) (by omega)]

theorem refNarrow1 {x : Int} (h0 : -9223372036854775808 ≤ x) (h1 : x ≤ 9223372036854775807) (w : World) :
    Calls Try.prog 28 #[.int .i64 x, .int .i64 1] w fun e w' => e = .returned (.tuple #[.int .i64 (narN x 1), .int .i64 (narE 1)]) ∧ Below w.heap.size w w' := by
  have r0 : -9223372036854775808 ≤ narN x 1 := by rw [show narN x 1 = (x + 128) % 256 - 128 from rfl]; omega
  have r1 : narN x 1 ≤ 9223372036854775807 := by rw [show narN x 1 = (x + 128) % 256 - 128 from rfl]; omega
  have l := plainN_lt (narN x 1)
  go_enter Try.func28, Try.ntmps28
  go_wp2_with fail
  refine (kind_any _ _).mono ?_
  rintro e w' ⟨rfl, rfl⟩
  rw [show wideN 1 = 8 by decide, show decide ((1 : Int) ≤ 1 ∧ (1 : Int) ≤ 4) = true by decide, show decide ((1 : Int) ≤ 1 ∧ (1 : Int) ≤ 7) = true by decide]
  go_wp2_with fail
  refine (plain_any h0 h1 _).mono ?_
  rintro e w' ⟨rfl, rfl⟩
  go_wp2_with fail
  refine (row_any _ (plainN_lt x) _).mono ?_
  rintro e w1 ⟨rfl, hb1⟩
  go_wp2_with (refine wpList_store_row rfl 50 _ _ rfl w1.heap.size _ rfl rfl 50 _ (heap_alloc_new _ _) (size64 _) rfl (arr64_one _) ?_; rw [setRow_alloc])
  generalize hW : World.alloc w1 _ = w2
  have hb2 : Below w.heap.size w w2 := by rw [← hW]; exact hb1.alloc hb1.size _
  have hB := hb1.size
  have g : w2.heap[w1.heap.size]? = some (.cells (arr64 (mixTo (plainN (narN x 1)) (bitsF (plainN x)) 8)) 50 (0, 0)) := by
    rw [← hW, heap_alloc_new]
    congr 2
    exact arr64_congr fun i hi => by
      unfold mixTo
      split
      · exact (nar_low1 x (by omega)).symm
      · rfl
  clear hW hb1
  generalize w1.heap.size = b at *
  go_loopw [10] (fun i wr => ∃ k : Nat, 8 ≤ k ∧ k ≤ 64 ∧ i = .int .i64 k ∧ wr.heap[b]? = some (.cells (arr64 (mixTo (plainN (narN x 1)) (bitsF (plainN x)) k)) 50 (0, 0)) ∧ Below w.heap.size w wr) (fun i _ => 64 - (intOf i).toNat)
  case atStart => exact ⟨8, by omega, by omega, rfl, g, hb2⟩
  case round =>
    clear g hb2
    obtain ⟨k, hk0, hk, rfl, g, hbr⟩ := hrel
    by_cases hlt : k < 64
    · have hc := row_cell g hlt
      have hf := row_free (k := k) g
      have hs := nar_high1 x (show 8 ≤ k by omega) hlt
      have hm := row_cell g (k := 7) (by omega)
      have em : mixTo (plainN (narN x 1)) (bitsF (plainN x)) k 7 = bitsF (plainN (narN x 1)) 7 := by unfold mixTo; rw [if_pos (by omega)]
      rw [em] at hm
      have hne : ¬ (k = 7) := by omega
      have hm2 : (wr.setCell ⟨b, k, none⟩ (.int .i64 0)).cell? ⟨b, 7, none⟩ = some (.int .i64 (bitsF (plainN (narN x 1)) 7)) := by
        rw [row_cell (row_store g 0) (by omega), if_neg (by omega), em]
      have hc2 : (wr.setCell ⟨b, k, none⟩ (.int .i64 0)).cell? ⟨b, k, none⟩ = some (.int .i64 0) := by rw [row_cell (row_store g 0) hlt, if_pos rfl]
      have hf2 : (wr.setCell ⟨b, k, none⟩ (.int .i64 0)).frozen? ⟨b, k, none⟩ = false := row_free (row_store g 0)
      have g2 : ((wr.setCell ⟨b, k, none⟩ (.int .i64 0)).setCell ⟨b, k, none⟩ (.int .i64 (bitsF (plainN (narN x 1)) 7))).heap[b]? = some (.cells (arr64 (mixTo (plainN (narN x 1)) (bitsF (plainN x)) (k + 1))) 50 (0, 0)) := by
        rw [row_store (row_store g 0), ← mixTo_set _ _ _ _ hs.symm]
        congr 3
        funext i
        split <;> rfl
      have HG := Lib.hid g2
      clear g g2 hs em
      go_wp2
      go_roundw
      case rel => exact ⟨k + 1, by omega, by omega, by go_num, HG.out, (hbr.setCell (by simp; omega) _).setCell (by simp; omega) _⟩
      case measure => simp [intOf]; omega
    · obtain rfl : k = 64 := by omega
      rw [mixTo_full] at g
      have HG := Lib.hid g
      have HE := Lib.hid (sgn_plainN r0 r1)
      clear g
      go_wp2_with (first | (refine wpList_load_row rfl 50 _ rfl b rfl 50 _ (0, 0) _ HG.out Try.underlying50 rfl (size64 _) ?_) | (go_at_call 48; refine (number_any _ l _).mono ?_; rintro e w3 ⟨rfl, hb3⟩) | (go_at_call 50; refine (signed_any l _).mono ?_; rintro e w4 ⟨rfl, hb4⟩))
      go_ret2
      exact ⟨ret2_int HE.out rfl, hbr.trans ((hb3.mono hbr.size).trans (hb4.mono (Nat.le_trans hbr.size hb3.size)))⟩
theorem nar_low2 (x : Int) {i : Nat} (hi : i < 16) : bitsF (plainN (narN x 2)) i = bitsF (plainN x) i := by
  apply bit_of_mod (b := 16) _ hi
  rw [show narN x 2 = (x + 32768) % 65536 - 32768 from rfl, show (2 : Nat) ^ 16 = 65536 by decide]
  unfold plainN
  omega
theorem nar_high2 (x : Int) {i : Nat} (hb : 16 ≤ i) (hi : i < 64) : bitsF (plainN (narN x 2)) i = bitsF (plainN (narN x 2)) 15 := by
  have e0 : -((2 ^ 15 : Nat) : Int) ≤ narN x 2 := by rw [show narN x 2 = (x + 32768) % 65536 - 32768 from rfl, show (2 : Nat) ^ 15 = 32768 by decide]; omega
  have e1 : narN x 2 < ((2 ^ 15 : Nat) : Int) := by rw [show narN x 2 = (x + 32768) % 65536 - 32768 from rfl, show (2 : Nat) ^ 15 = 32768 by decide]; omega
  rw [bit_sign e0 e1 (by decide) (by omega) hi, bit_sign e0 e1 (by decide) (by omega) (by omega)]

theorem refNarrow2 {x : Int} (h0 : -9223372036854775808 ≤ x) (h1 : x ≤ 9223372036854775807) (w : World) :
    Calls Try.prog 28 #[.int .i64 x, .int .i64 2] w fun e w' => e = .returned (.tuple #[.int .i64 (narN x 2), .int .i64 (narE 2)]) ∧ Below w.heap.size w w' := by
  have r0 : -9223372036854775808 ≤ narN x 2 := by rw [show narN x 2 = (x + 32768) % 65536 - 32768 from rfl]; omega
  have r1 : narN x 2 ≤ 9223372036854775807 := by rw [show narN x 2 = (x + 32768) % 65536 - 32768 from rfl]; omega
  have l := plainN_lt (narN x 2)
  go_enter Try.func28, Try.ntmps28
  go_wp2_with fail
  refine (kind_any _ _).mono ?_
  rintro e w' ⟨rfl, rfl⟩
  rw [show wideN 2 = 16 by decide, show decide ((1 : Int) ≤ 2 ∧ (2 : Int) ≤ 4) = true by decide, show decide ((1 : Int) ≤ 2 ∧ (2 : Int) ≤ 7) = true by decide]
  go_wp2_with fail
  refine (plain_any h0 h1 _).mono ?_
  rintro e w' ⟨rfl, rfl⟩
  go_wp2_with fail
  refine (row_any _ (plainN_lt x) _).mono ?_
  rintro e w1 ⟨rfl, hb1⟩
  go_wp2_with (refine wpList_store_row rfl 50 _ _ rfl w1.heap.size _ rfl rfl 50 _ (heap_alloc_new _ _) (size64 _) rfl (arr64_one _) ?_; rw [setRow_alloc])
  generalize hW : World.alloc w1 _ = w2
  have hb2 : Below w.heap.size w w2 := by rw [← hW]; exact hb1.alloc hb1.size _
  have hB := hb1.size
  have g : w2.heap[w1.heap.size]? = some (.cells (arr64 (mixTo (plainN (narN x 2)) (bitsF (plainN x)) 16)) 50 (0, 0)) := by
    rw [← hW, heap_alloc_new]
    congr 2
    exact arr64_congr fun i hi => by
      unfold mixTo
      split
      · exact (nar_low2 x (by omega)).symm
      · rfl
  clear hW hb1
  generalize w1.heap.size = b at *
  go_loopw [10] (fun i wr => ∃ k : Nat, 16 ≤ k ∧ k ≤ 64 ∧ i = .int .i64 k ∧ wr.heap[b]? = some (.cells (arr64 (mixTo (plainN (narN x 2)) (bitsF (plainN x)) k)) 50 (0, 0)) ∧ Below w.heap.size w wr) (fun i _ => 64 - (intOf i).toNat)
  case atStart => exact ⟨16, by omega, by omega, rfl, g, hb2⟩
  case round =>
    clear g hb2
    obtain ⟨k, hk0, hk, rfl, g, hbr⟩ := hrel
    by_cases hlt : k < 64
    · have hc := row_cell g hlt
      have hf := row_free (k := k) g
      have hs := nar_high2 x (show 16 ≤ k by omega) hlt
      have hm := row_cell g (k := 15) (by omega)
      have em : mixTo (plainN (narN x 2)) (bitsF (plainN x)) k 15 = bitsF (plainN (narN x 2)) 15 := by unfold mixTo; rw [if_pos (by omega)]
      rw [em] at hm
      have hne : ¬ (k = 15) := by omega
      have hm2 : (wr.setCell ⟨b, k, none⟩ (.int .i64 0)).cell? ⟨b, 15, none⟩ = some (.int .i64 (bitsF (plainN (narN x 2)) 15)) := by
        rw [row_cell (row_store g 0) (by omega), if_neg (by omega), em]
      have hc2 : (wr.setCell ⟨b, k, none⟩ (.int .i64 0)).cell? ⟨b, k, none⟩ = some (.int .i64 0) := by rw [row_cell (row_store g 0) hlt, if_pos rfl]
      have hf2 : (wr.setCell ⟨b, k, none⟩ (.int .i64 0)).frozen? ⟨b, k, none⟩ = false := row_free (row_store g 0)
      have g2 : ((wr.setCell ⟨b, k, none⟩ (.int .i64 0)).setCell ⟨b, k, none⟩ (.int .i64 (bitsF (plainN (narN x 2)) 15))).heap[b]? = some (.cells (arr64 (mixTo (plainN (narN x 2)) (bitsF (plainN x)) (k + 1))) 50 (0, 0)) := by
        rw [row_store (row_store g 0), ← mixTo_set _ _ _ _ hs.symm]
        congr 3
        funext i
        split <;> rfl
      have HG := Lib.hid g2
      clear g g2 hs em
      go_wp2
      go_roundw
      case rel => exact ⟨k + 1, by omega, by omega, by go_num, HG.out, (hbr.setCell (by simp; omega) _).setCell (by simp; omega) _⟩
      case measure => simp [intOf]; omega
    · obtain rfl : k = 64 := by omega
      rw [mixTo_full] at g
      have HG := Lib.hid g
      have HE := Lib.hid (sgn_plainN r0 r1)
      clear g
      go_wp2_with (first | (refine wpList_load_row rfl 50 _ rfl b rfl 50 _ (0, 0) _ HG.out Try.underlying50 rfl (size64 _) ?_) | (go_at_call 48; refine (number_any _ l _).mono ?_; rintro e w3 ⟨rfl, hb3⟩) | (go_at_call 50; refine (signed_any l _).mono ?_; rintro e w4 ⟨rfl, hb4⟩))
      go_ret2
      exact ⟨ret2_int HE.out rfl, hbr.trans ((hb3.mono hbr.size).trans (hb4.mono (Nat.le_trans hbr.size hb3.size)))⟩
theorem nar_low3 (x : Int) {i : Nat} (hi : i < 32) : bitsF (plainN (narN x 3)) i = bitsF (plainN x) i := by
  apply bit_of_mod (b := 32) _ hi
  rw [show narN x 3 = (x + 2147483648) % 4294967296 - 2147483648 from rfl, show (2 : Nat) ^ 32 = 4294967296 by decide]
  unfold plainN
  omega
theorem nar_high3 (x : Int) {i : Nat} (hb : 32 ≤ i) (hi : i < 64) : bitsF (plainN (narN x 3)) i = bitsF (plainN (narN x 3)) 31 := by
  have e0 : -((2 ^ 31 : Nat) : Int) ≤ narN x 3 := by rw [show narN x 3 = (x + 2147483648) % 4294967296 - 2147483648 from rfl, show (2 : Nat) ^ 31 = 2147483648 by decide]; omega
  have e1 : narN x 3 < ((2 ^ 31 : Nat) : Int) := by rw [show narN x 3 = (x + 2147483648) % 4294967296 - 2147483648 from rfl, show (2 : Nat) ^ 31 = 2147483648 by decide]; omega
  rw [bit_sign e0 e1 (by decide) (by omega) hi, bit_sign e0 e1 (by decide) (by omega) (by omega)]

theorem refNarrow3 {x : Int} (h0 : -9223372036854775808 ≤ x) (h1 : x ≤ 9223372036854775807) (w : World) :
    Calls Try.prog 28 #[.int .i64 x, .int .i64 3] w fun e w' => e = .returned (.tuple #[.int .i64 (narN x 3), .int .i64 (narE 3)]) ∧ Below w.heap.size w w' := by
  have r0 : -9223372036854775808 ≤ narN x 3 := by rw [show narN x 3 = (x + 2147483648) % 4294967296 - 2147483648 from rfl]; omega
  have r1 : narN x 3 ≤ 9223372036854775807 := by rw [show narN x 3 = (x + 2147483648) % 4294967296 - 2147483648 from rfl]; omega
  have l := plainN_lt (narN x 3)
  go_enter Try.func28, Try.ntmps28
  go_wp2_with fail
  refine (kind_any _ _).mono ?_
  rintro e w' ⟨rfl, rfl⟩
  rw [show wideN 3 = 32 by decide, show decide ((1 : Int) ≤ 3 ∧ (3 : Int) ≤ 4) = true by decide, show decide ((1 : Int) ≤ 3 ∧ (3 : Int) ≤ 7) = true by decide]
  go_wp2_with fail
  refine (plain_any h0 h1 _).mono ?_
  rintro e w' ⟨rfl, rfl⟩
  go_wp2_with fail
  refine (row_any _ (plainN_lt x) _).mono ?_
  rintro e w1 ⟨rfl, hb1⟩
  go_wp2_with (refine wpList_store_row rfl 50 _ _ rfl w1.heap.size _ rfl rfl 50 _ (heap_alloc_new _ _) (size64 _) rfl (arr64_one _) ?_; rw [setRow_alloc])
  generalize hW : World.alloc w1 _ = w2
  have hb2 : Below w.heap.size w w2 := by rw [← hW]; exact hb1.alloc hb1.size _
  have hB := hb1.size
  have g : w2.heap[w1.heap.size]? = some (.cells (arr64 (mixTo (plainN (narN x 3)) (bitsF (plainN x)) 32)) 50 (0, 0)) := by
    rw [← hW, heap_alloc_new]
    congr 2
    exact arr64_congr fun i hi => by
      unfold mixTo
      split
      · exact (nar_low3 x (by omega)).symm
      · rfl
  clear hW hb1
  generalize w1.heap.size = b at *
  go_loopw [10] (fun i wr => ∃ k : Nat, 32 ≤ k ∧ k ≤ 64 ∧ i = .int .i64 k ∧ wr.heap[b]? = some (.cells (arr64 (mixTo (plainN (narN x 3)) (bitsF (plainN x)) k)) 50 (0, 0)) ∧ Below w.heap.size w wr) (fun i _ => 64 - (intOf i).toNat)
  case atStart => exact ⟨32, by omega, by omega, rfl, g, hb2⟩
  case round =>
    clear g hb2
    obtain ⟨k, hk0, hk, rfl, g, hbr⟩ := hrel
    by_cases hlt : k < 64
    · have hc := row_cell g hlt
      have hf := row_free (k := k) g
      have hs := nar_high3 x (show 32 ≤ k by omega) hlt
      have hm := row_cell g (k := 31) (by omega)
      have em : mixTo (plainN (narN x 3)) (bitsF (plainN x)) k 31 = bitsF (plainN (narN x 3)) 31 := by unfold mixTo; rw [if_pos (by omega)]
      rw [em] at hm
      have hne : ¬ (k = 31) := by omega
      have hm2 : (wr.setCell ⟨b, k, none⟩ (.int .i64 0)).cell? ⟨b, 31, none⟩ = some (.int .i64 (bitsF (plainN (narN x 3)) 31)) := by
        rw [row_cell (row_store g 0) (by omega), if_neg (by omega), em]
      have hc2 : (wr.setCell ⟨b, k, none⟩ (.int .i64 0)).cell? ⟨b, k, none⟩ = some (.int .i64 0) := by rw [row_cell (row_store g 0) hlt, if_pos rfl]
      have hf2 : (wr.setCell ⟨b, k, none⟩ (.int .i64 0)).frozen? ⟨b, k, none⟩ = false := row_free (row_store g 0)
      have g2 : ((wr.setCell ⟨b, k, none⟩ (.int .i64 0)).setCell ⟨b, k, none⟩ (.int .i64 (bitsF (plainN (narN x 3)) 31))).heap[b]? = some (.cells (arr64 (mixTo (plainN (narN x 3)) (bitsF (plainN x)) (k + 1))) 50 (0, 0)) := by
        rw [row_store (row_store g 0), ← mixTo_set _ _ _ _ hs.symm]
        congr 3
        funext i
        split <;> rfl
      have HG := Lib.hid g2
      clear g g2 hs em
      go_wp2
      go_roundw
      case rel => exact ⟨k + 1, by omega, by omega, by go_num, HG.out, (hbr.setCell (by simp; omega) _).setCell (by simp; omega) _⟩
      case measure => simp [intOf]; omega
    · obtain rfl : k = 64 := by omega
      rw [mixTo_full] at g
      have HG := Lib.hid g
      have HE := Lib.hid (sgn_plainN r0 r1)
      clear g
      go_wp2_with (first | (refine wpList_load_row rfl 50 _ rfl b rfl 50 _ (0, 0) _ HG.out Try.underlying50 rfl (size64 _) ?_) | (go_at_call 48; refine (number_any _ l _).mono ?_; rintro e w3 ⟨rfl, hb3⟩) | (go_at_call 50; refine (signed_any l _).mono ?_; rintro e w4 ⟨rfl, hb4⟩))
      go_ret2
      exact ⟨ret2_int HE.out rfl, hbr.trans ((hb3.mono hbr.size).trans (hb4.mono (Nat.le_trans hbr.size hb3.size)))⟩
theorem nar_low4 (x : Int) {i : Nat} (hi : i < 64) : bitsF (plainN (narN x 4)) i = bitsF (plainN x) i := by
  rw [show narN x 4 = x from rfl]

theorem refNarrow4 {x : Int} (h0 : -9223372036854775808 ≤ x) (h1 : x ≤ 9223372036854775807) (w : World) :
    Calls Try.prog 28 #[.int .i64 x, .int .i64 4] w fun e w' => e = .returned (.tuple #[.int .i64 (narN x 4), .int .i64 (narE 4)]) ∧ Below w.heap.size w w' := by
  have r0 : -9223372036854775808 ≤ narN x 4 := by rw [show narN x 4 = x from rfl]; omega
  have r1 : narN x 4 ≤ 9223372036854775807 := by rw [show narN x 4 = x from rfl]; omega
  have l := plainN_lt (narN x 4)
  go_enter Try.func28, Try.ntmps28
  go_wp2_with fail
  refine (kind_any _ _).mono ?_
  rintro e w' ⟨rfl, rfl⟩
  rw [show wideN 4 = 64 by decide, show decide ((1 : Int) ≤ 4 ∧ (4 : Int) ≤ 4) = true by decide, show decide ((1 : Int) ≤ 4 ∧ (4 : Int) ≤ 7) = true by decide]
  go_wp2_with fail
  refine (plain_any h0 h1 _).mono ?_
  rintro e w' ⟨rfl, rfl⟩
  go_wp2_with fail
  refine (row_any _ (plainN_lt x) _).mono ?_
  rintro e w1 ⟨rfl, hb1⟩
  go_wp2_with (refine wpList_store_row rfl 50 _ _ rfl w1.heap.size _ rfl rfl 50 _ (heap_alloc_new _ _) (size64 _) rfl (arr64_one _) ?_; rw [setRow_alloc])
  generalize hW : World.alloc w1 _ = w2
  have hb2 : Below w.heap.size w w2 := by rw [← hW]; exact hb1.alloc hb1.size _
  have hB := hb1.size
  have g : w2.heap[w1.heap.size]? = some (.cells (arr64 (mixTo (plainN (narN x 4)) (bitsF (plainN x)) 64)) 50 (0, 0)) := by
    rw [← hW, heap_alloc_new]
    congr 2
  clear hW hb1
  generalize w1.heap.size = b at *
  go_loopw [10] (fun i wr => ∃ k : Nat, 64 ≤ k ∧ k ≤ 64 ∧ i = .int .i64 k ∧ wr.heap[b]? = some (.cells (arr64 (mixTo (plainN (narN x 4)) (bitsF (plainN x)) k)) 50 (0, 0)) ∧ Below w.heap.size w wr) (fun i _ => 64 - (intOf i).toNat)
  case atStart => exact ⟨64, by omega, by omega, rfl, g, hb2⟩
  case round =>
    clear g hb2
    obtain ⟨k, hk0, hk, rfl, g, hbr⟩ := hrel
    obtain rfl : k = 64 := by omega
    · rw [mixTo_full] at g
      have HG := Lib.hid g
      have HE := Lib.hid (sgn_plainN r0 r1)
      clear g
      go_wp2_with (first | (refine wpList_load_row rfl 50 _ rfl b rfl 50 _ (0, 0) _ HG.out Try.underlying50 rfl (size64 _) ?_) | (go_at_call 48; refine (number_any _ l _).mono ?_; rintro e w3 ⟨rfl, hb3⟩) | (go_at_call 50; refine (signed_any l _).mono ?_; rintro e w4 ⟨rfl, hb4⟩))
      go_ret2
      exact ⟨ret2_int HE.out rfl, hbr.trans ((hb3.mono hbr.size).trans (hb4.mono (Nat.le_trans hbr.size hb3.size)))⟩
theorem nar_low5 (x : Int) {i : Nat} (hi : i < 8) : bitsF (plainN (narN x 5)) i = bitsF (plainN x) i := by
  apply bit_of_mod (b := 8) _ hi
  rw [show narN x 5 = x % 256 from rfl, show (2 : Nat) ^ 8 = 256 by decide]
  unfold plainN
  omega
theorem nar_high5 (x : Int) {i : Nat} (hb : 8 ≤ i) : bitsF (plainN (narN x 5)) i = 0 := by
  apply bit_zero_of (b := 8) _ hb
  rw [show narN x 5 = x % 256 from rfl, show (2 : Nat) ^ 8 = 256 by decide]
  unfold plainN
  omega

theorem refNarrow5 {x : Int} (h0 : -9223372036854775808 ≤ x) (h1 : x ≤ 9223372036854775807) (w : World) :
    Calls Try.prog 28 #[.int .i64 x, .int .i64 5] w fun e w' => e = .returned (.tuple #[.int .i64 (narN x 5), .int .i64 (narE 5)]) ∧ Below w.heap.size w w' := by
  have r0 : -9223372036854775808 ≤ narN x 5 := by rw [show narN x 5 = x % 256 from rfl]; omega
  have r1 : narN x 5 ≤ 9223372036854775807 := by rw [show narN x 5 = x % 256 from rfl]; omega
  have l := plainN_lt (narN x 5)
  go_enter Try.func28, Try.ntmps28
  go_wp2_with fail
  refine (kind_any _ _).mono ?_
  rintro e w' ⟨rfl, rfl⟩
  rw [show wideN 5 = 8 by decide, show decide ((1 : Int) ≤ 5 ∧ (5 : Int) ≤ 4) = false by decide, show decide ((1 : Int) ≤ 5 ∧ (5 : Int) ≤ 7) = true by decide]
  go_wp2_with fail
  refine (plain_any h0 h1 _).mono ?_
  rintro e w' ⟨rfl, rfl⟩
  go_wp2_with fail
  refine (row_any _ (plainN_lt x) _).mono ?_
  rintro e w1 ⟨rfl, hb1⟩
  go_wp2_with (refine wpList_store_row rfl 50 _ _ rfl w1.heap.size _ rfl rfl 50 _ (heap_alloc_new _ _) (size64 _) rfl (arr64_one _) ?_; rw [setRow_alloc])
  generalize hW : World.alloc w1 _ = w2
  have hb2 : Below w.heap.size w w2 := by rw [← hW]; exact hb1.alloc hb1.size _
  have hB := hb1.size
  have g : w2.heap[w1.heap.size]? = some (.cells (arr64 (mixTo (plainN (narN x 5)) (bitsF (plainN x)) 8)) 50 (0, 0)) := by
    rw [← hW, heap_alloc_new]
    congr 2
    exact arr64_congr fun i hi => by
      unfold mixTo
      split
      · exact (nar_low5 x (by omega)).symm
      · rfl
  clear hW hb1
  generalize w1.heap.size = b at *
  go_loopw [10] (fun i wr => ∃ k : Nat, 8 ≤ k ∧ k ≤ 64 ∧ i = .int .i64 k ∧ wr.heap[b]? = some (.cells (arr64 (mixTo (plainN (narN x 5)) (bitsF (plainN x)) k)) 50 (0, 0)) ∧ Below w.heap.size w wr) (fun i _ => 64 - (intOf i).toNat)
  case atStart => exact ⟨8, by omega, by omega, rfl, g, hb2⟩
  case round =>
    clear g hb2
    obtain ⟨k, hk0, hk, rfl, g, hbr⟩ := hrel
    by_cases hlt : k < 64
    · have hc := row_cell g hlt
      have hf := row_free (k := k) g
      have hs := nar_high5 x (show 8 ≤ k by omega)
      have HG := Lib.hid g
      have HS := Lib.hid hs
      clear g hs
      go_wp2
      go_roundw
      case rel => exact ⟨k + 1, by omega, by omega, by go_num, by rw [row_store HG.out, mixTo_set _ _ _ _ HS.out.symm], hbr.setCell (by simp; omega) _⟩
      case measure => simp [intOf]; omega
    · obtain rfl : k = 64 := by omega
      rw [mixTo_full] at g
      have HG := Lib.hid g
      have HE := Lib.hid (sgn_plainN r0 r1)
      clear g
      go_wp2_with (first | (refine wpList_load_row rfl 50 _ rfl b rfl 50 _ (0, 0) _ HG.out Try.underlying50 rfl (size64 _) ?_) | (go_at_call 48; refine (number_any _ l _).mono ?_; rintro e w3 ⟨rfl, hb3⟩) | (go_at_call 50; refine (signed_any l _).mono ?_; rintro e w4 ⟨rfl, hb4⟩))
      go_ret2
      exact ⟨ret2_int HE.out rfl, hbr.trans ((hb3.mono hbr.size).trans (hb4.mono (Nat.le_trans hbr.size hb3.size)))⟩
theorem nar_low6 (x : Int) {i : Nat} (hi : i < 16) : bitsF (plainN (narN x 6)) i = bitsF (plainN x) i := by
  apply bit_of_mod (b := 16) _ hi
  rw [show narN x 6 = x % 65536 from rfl, show (2 : Nat) ^ 16 = 65536 by decide]
  unfold plainN
  omega
theorem nar_high6 (x : Int) {i : Nat} (hb : 16 ≤ i) : bitsF (plainN (narN x 6)) i = 0 := by
  apply bit_zero_of (b := 16) _ hb
  rw [show narN x 6 = x % 65536 from rfl, show (2 : Nat) ^ 16 = 65536 by decide]
  unfold plainN
  omega

theorem refNarrow6 {x : Int} (h0 : -9223372036854775808 ≤ x) (h1 : x ≤ 9223372036854775807) (w : World) :
    Calls Try.prog 28 #[.int .i64 x, .int .i64 6] w fun e w' => e = .returned (.tuple #[.int .i64 (narN x 6), .int .i64 (narE 6)]) ∧ Below w.heap.size w w' := by
  have r0 : -9223372036854775808 ≤ narN x 6 := by rw [show narN x 6 = x % 65536 from rfl]; omega
  have r1 : narN x 6 ≤ 9223372036854775807 := by rw [show narN x 6 = x % 65536 from rfl]; omega
  have l := plainN_lt (narN x 6)
  go_enter Try.func28, Try.ntmps28
  go_wp2_with fail
  refine (kind_any _ _).mono ?_
  rintro e w' ⟨rfl, rfl⟩
  rw [show wideN 6 = 16 by decide, show decide ((1 : Int) ≤ 6 ∧ (6 : Int) ≤ 4) = false by decide, show decide ((1 : Int) ≤ 6 ∧ (6 : Int) ≤ 7) = true by decide]
  go_wp2_with fail
  refine (plain_any h0 h1 _).mono ?_
  rintro e w' ⟨rfl, rfl⟩
  go_wp2_with fail
  refine (row_any _ (plainN_lt x) _).mono ?_
  rintro e w1 ⟨rfl, hb1⟩
  go_wp2_with (refine wpList_store_row rfl 50 _ _ rfl w1.heap.size _ rfl rfl 50 _ (heap_alloc_new _ _) (size64 _) rfl (arr64_one _) ?_; rw [setRow_alloc])
  generalize hW : World.alloc w1 _ = w2
  have hb2 : Below w.heap.size w w2 := by rw [← hW]; exact hb1.alloc hb1.size _
  have hB := hb1.size
  have g : w2.heap[w1.heap.size]? = some (.cells (arr64 (mixTo (plainN (narN x 6)) (bitsF (plainN x)) 16)) 50 (0, 0)) := by
    rw [← hW, heap_alloc_new]
    congr 2
    exact arr64_congr fun i hi => by
      unfold mixTo
      split
      · exact (nar_low6 x (by omega)).symm
      · rfl
  clear hW hb1
  generalize w1.heap.size = b at *
  go_loopw [10] (fun i wr => ∃ k : Nat, 16 ≤ k ∧ k ≤ 64 ∧ i = .int .i64 k ∧ wr.heap[b]? = some (.cells (arr64 (mixTo (plainN (narN x 6)) (bitsF (plainN x)) k)) 50 (0, 0)) ∧ Below w.heap.size w wr) (fun i _ => 64 - (intOf i).toNat)
  case atStart => exact ⟨16, by omega, by omega, rfl, g, hb2⟩
  case round =>
    clear g hb2
    obtain ⟨k, hk0, hk, rfl, g, hbr⟩ := hrel
    by_cases hlt : k < 64
    · have hc := row_cell g hlt
      have hf := row_free (k := k) g
      have hs := nar_high6 x (show 16 ≤ k by omega)
      have HG := Lib.hid g
      have HS := Lib.hid hs
      clear g hs
      go_wp2
      go_roundw
      case rel => exact ⟨k + 1, by omega, by omega, by go_num, by rw [row_store HG.out, mixTo_set _ _ _ _ HS.out.symm], hbr.setCell (by simp; omega) _⟩
      case measure => simp [intOf]; omega
    · obtain rfl : k = 64 := by omega
      rw [mixTo_full] at g
      have HG := Lib.hid g
      have HE := Lib.hid (sgn_plainN r0 r1)
      clear g
      go_wp2_with (first | (refine wpList_load_row rfl 50 _ rfl b rfl 50 _ (0, 0) _ HG.out Try.underlying50 rfl (size64 _) ?_) | (go_at_call 48; refine (number_any _ l _).mono ?_; rintro e w3 ⟨rfl, hb3⟩) | (go_at_call 50; refine (signed_any l _).mono ?_; rintro e w4 ⟨rfl, hb4⟩))
      go_ret2
      exact ⟨ret2_int HE.out rfl, hbr.trans ((hb3.mono hbr.size).trans (hb4.mono (Nat.le_trans hbr.size hb3.size)))⟩
theorem nar_low7 (x : Int) {i : Nat} (hi : i < 32) : bitsF (plainN (narN x 7)) i = bitsF (plainN x) i := by
  apply bit_of_mod (b := 32) _ hi
  rw [show narN x 7 = x % 4294967296 from rfl, show (2 : Nat) ^ 32 = 4294967296 by decide]
  unfold plainN
  omega
theorem nar_high7 (x : Int) {i : Nat} (hb : 32 ≤ i) : bitsF (plainN (narN x 7)) i = 0 := by
  apply bit_zero_of (b := 32) _ hb
  rw [show narN x 7 = x % 4294967296 from rfl, show (2 : Nat) ^ 32 = 4294967296 by decide]
  unfold plainN
  omega

theorem refNarrow7 {x : Int} (h0 : -9223372036854775808 ≤ x) (h1 : x ≤ 9223372036854775807) (w : World) :
    Calls Try.prog 28 #[.int .i64 x, .int .i64 7] w fun e w' => e = .returned (.tuple #[.int .i64 (narN x 7), .int .i64 (narE 7)]) ∧ Below w.heap.size w w' := by
  have r0 : -9223372036854775808 ≤ narN x 7 := by rw [show narN x 7 = x % 4294967296 from rfl]; omega
  have r1 : narN x 7 ≤ 9223372036854775807 := by rw [show narN x 7 = x % 4294967296 from rfl]; omega
  have l := plainN_lt (narN x 7)
  go_enter Try.func28, Try.ntmps28
  go_wp2_with fail
  refine (kind_any _ _).mono ?_
  rintro e w' ⟨rfl, rfl⟩
  rw [show wideN 7 = 32 by decide, show decide ((1 : Int) ≤ 7 ∧ (7 : Int) ≤ 4) = false by decide, show decide ((1 : Int) ≤ 7 ∧ (7 : Int) ≤ 7) = true by decide]
  go_wp2_with fail
  refine (plain_any h0 h1 _).mono ?_
  rintro e w' ⟨rfl, rfl⟩
  go_wp2_with fail
  refine (row_any _ (plainN_lt x) _).mono ?_
  rintro e w1 ⟨rfl, hb1⟩
  go_wp2_with (refine wpList_store_row rfl 50 _ _ rfl w1.heap.size _ rfl rfl 50 _ (heap_alloc_new _ _) (size64 _) rfl (arr64_one _) ?_; rw [setRow_alloc])
  generalize hW : World.alloc w1 _ = w2
  have hb2 : Below w.heap.size w w2 := by rw [← hW]; exact hb1.alloc hb1.size _
  have hB := hb1.size
  have g : w2.heap[w1.heap.size]? = some (.cells (arr64 (mixTo (plainN (narN x 7)) (bitsF (plainN x)) 32)) 50 (0, 0)) := by
    rw [← hW, heap_alloc_new]
    congr 2
    exact arr64_congr fun i hi => by
      unfold mixTo
      split
      · exact (nar_low7 x (by omega)).symm
      · rfl
  clear hW hb1
  generalize w1.heap.size = b at *
  go_loopw [10] (fun i wr => ∃ k : Nat, 32 ≤ k ∧ k ≤ 64 ∧ i = .int .i64 k ∧ wr.heap[b]? = some (.cells (arr64 (mixTo (plainN (narN x 7)) (bitsF (plainN x)) k)) 50 (0, 0)) ∧ Below w.heap.size w wr) (fun i _ => 64 - (intOf i).toNat)
  case atStart => exact ⟨32, by omega, by omega, rfl, g, hb2⟩
  case round =>
    clear g hb2
    obtain ⟨k, hk0, hk, rfl, g, hbr⟩ := hrel
    by_cases hlt : k < 64
    · have hc := row_cell g hlt
      have hf := row_free (k := k) g
      have hs := nar_high7 x (show 32 ≤ k by omega)
      have HG := Lib.hid g
      have HS := Lib.hid hs
      clear g hs
      go_wp2
      go_roundw
      case rel => exact ⟨k + 1, by omega, by omega, by go_num, by rw [row_store HG.out, mixTo_set _ _ _ _ HS.out.symm], hbr.setCell (by simp; omega) _⟩
      case measure => simp [intOf]; omega
    · obtain rfl : k = 64 := by omega
      rw [mixTo_full] at g
      have HG := Lib.hid g
      have HE := Lib.hid (sgn_plainN r0 r1)
      clear g
      go_wp2_with (first | (refine wpList_load_row rfl 50 _ rfl b rfl 50 _ (0, 0) _ HG.out Try.underlying50 rfl (size64 _) ?_) | (go_at_call 48; refine (number_any _ l _).mono ?_; rintro e w3 ⟨rfl, hb3⟩) | (go_at_call 50; refine (signed_any l _).mono ?_; rintro e w4 ⟨rfl, hb4⟩))
      go_ret2
      exact ⟨ret2_int HE.out rfl, hbr.trans ((hb3.mono hbr.size).trans (hb4.mono (Nat.le_trans hbr.size hb3.size)))⟩

theorem refNarrow_any {x : Int} (h0 : -9223372036854775808 ≤ x) (h1 : x ≤ 9223372036854775807) (k : Int) (w : World) :
    Calls Try.prog 28 #[.int .i64 x, .int .i64 k] w fun e w' => e = .returned (.tuple #[.int .i64 (narN x k), .int .i64 (narE k)]) ∧ Below w.heap.size w w' := by
  by_cases k1 : k = 1
  · subst k1; exact refNarrow1 h0 h1 w
  by_cases k2 : k = 2
  · subst k2; exact refNarrow2 h0 h1 w
  by_cases k3 : k = 3
  · subst k3; exact refNarrow3 h0 h1 w
  by_cases k4 : k = 4
  · subst k4; exact refNarrow4 h0 h1 w
  by_cases k5 : k = 5
  · subst k5; exact refNarrow5 h0 h1 w
  by_cases k6 : k = 6
  · subst k6; exact refNarrow6 h0 h1 w
  by_cases k7 : k = 7
  · subst k7; exact refNarrow7 h0 h1 w
  have hk : ¬ (1 ≤ k ∧ k ≤ 7) := by omega
  have E1 := Lib.hid (nar_no (x := x) hk)
  have E2 := Lib.hid (narE_no hk)
  have E3 := Lib.hid (show decide (1 ≤ k ∧ k ≤ 7) = false from decide_eq_false hk)
  clear hk k1 k2 k3 k4 k5 k6 k7
  go_enter Try.func28, Try.ntmps28
  go_wp2_with fail
  refine (kind_any _ _).mono ?_
  rintro e w' ⟨rfl, rfl⟩
  rw [E3.out]
  go_wp2
  go_ret2
  exact ⟨ret2_int E1.out.symm E2.out.symm, Below.refl _ _⟩

theorem refFits_any {x : Int} (h0 : -9223372036854775808 ≤ x) (h1 : x ≤ 9223372036854775807) (k : Int) (w : World) :
    Calls Try.prog 30 #[.int .i64 x, .int .i64 k] w fun e w' => e = .returned (.bool (fitsB x k)) ∧ Below w.heap.size w w' := by
  by_cases hk : 1 ≤ k ∧ k ≤ 7
  · have E1 := narE_yes hk.1 hk.2
    by_cases hx : narN x k = x
    · have F : fitsB x k = true := by unfold fitsB; exact decide_eq_true ⟨hk.1, hk.2, hx⟩
      have HF := Lib.hid F
      have HE := Lib.hid E1
      have HX := Lib.hid hx
      clear F E1 hx hk
      go_enter Try.func30, Try.ntmps30
      go_wp2_with fail
      refine (refNarrow_any h0 h1 _ _).mono ?_
      rintro e w1 ⟨rfl, hb1⟩
      rw [HE.out, HX.out]
      go_wp2
      go_ret
      exact ⟨by rw [HF.out]; rfl, hb1⟩
    · have F : fitsB x k = false := by unfold fitsB; exact decide_eq_false (fun h => hx h.2.2)
      have HF := Lib.hid F
      have HE := Lib.hid E1
      have hb : (narN x k == x) = false := beq_eq_false_iff_ne.2 hx
      clear F E1 hx hk
      go_enter Try.func30, Try.ntmps30
      go_wp2_with fail
      refine (refNarrow_any h0 h1 _ _).mono ?_
      rintro e w1 ⟨rfl, hb1⟩
      rw [HE.out]
      go_wp2
      go_ret
      exact ⟨by rw [HF.out]; rfl, hb1⟩
  · have F : fitsB x k = false := by unfold fitsB; exact decide_eq_false (fun h => hk ⟨h.1, h.2.1⟩)
    have HF := Lib.hid F
    have HE := Lib.hid (narE_no hk)
    clear F hk
    go_enter Try.func30, Try.ntmps30
    go_wp2_with fail
    refine (refNarrow_any h0 h1 _ _).mono ?_
    rintro e w1 ⟨rfl, hb1⟩
    rw [HE.out]
    go_wp2
    go_ret
    exact ⟨by rw [HF.out]; rfl, hb1⟩
end Go.Proofs.Ytlmihaeknmeeiaa
