/-
  Sar: the document's answer and the program's.
-/
import Derived.Test.YtlmihaeknmeeiaaRefSigned
import Derived.Test.YtlmihaeknmeeiaaShift
namespace Go.Proofs.Ytlmihaeknmeeiaa
open Go.RowKit
set_option linter.unusedVariables false

def sarN (y n : Int) : Int := if n < 0 then wrap64 (y * 2 ^ min (-n).toNat 64) else y / 2 ^ min n.toNat 64
theorem sarN_rng {y n : Int} (h0 : -9223372036854775808 ≤ y) (h1 : y ≤ 9223372036854775807) : -9223372036854775808 ≤ sarN y n ∧ sarN y n ≤ 9223372036854775807 := by
  unfold sarN
  split
  · unfold wrap64; omega
  · have hp : (0 : Int) < 2 ^ min n.toNat 64 := Int.pow_pos (by decide)
    have hp1 : (1 : Int) ≤ 2 ^ min n.toNat 64 := hp
    constructor
    · rw [Int.le_ediv_iff_mul_le hp]
      omega
    · apply Int.le_of_lt_add_one
      rw [Int.ediv_lt_iff_lt_mul hp]
      omega

theorem plainN_bv (y : Int) : plainN y = (BitVec.ofInt 64 y).toNat := by
  unfold plainN
  rw [BitVec.toNat_ofInt]
  rfl
theorem sar_bv {y : Int} (h0 : -9223372036854775808 ≤ y) (h1 : y ≤ 9223372036854775807) (m : Nat) : BitVec.ofInt 64 (y / 2 ^ m) = (BitVec.ofInt 64 y).sshiftRight m := by
  have ht : (BitVec.ofInt 64 y).toInt = y := by
    rw [BitVec.toInt_ofInt]
    apply Int.bmod_eq_of_le <;> simp <;> omega
  apply BitVec.eq_of_toInt_eq
  have e : y / 2 ^ m = ((BitVec.ofInt 64 y).sshiftRight m).toInt := by
    rw [BitVec.toInt_sshiftRight, ht, Int.shiftRight_eq_div_pow]
    simp
  rw [e, BitVec.ofInt_toInt]

theorem tb_sar_pos {y : Int} (h0 : -9223372036854775808 ≤ y) (h1 : y ≤ 9223372036854775807) (m : Nat) {i : Nat} (hi : i < 64) :
    (plainN (y / 2 ^ m)).testBit i = if m + i < 64 then (plainN y).testBit (m + i) else (plainN y).testBit 63 := by
  rw [plainN_bv, sar_bv h0 h1, plainN_bv]
  show ((BitVec.ofInt 64 y).sshiftRight m).getLsbD i = if m + i < 64 then (BitVec.ofInt 64 y).getLsbD (m + i) else (BitVec.ofInt 64 y).getLsbD 63
  rw [BitVec.getLsbD_sshiftRight, BitVec.msb_eq_getLsbD_last]
  simp [hi]
theorem plain_mul (y : Int) (m : Nat) : plainN (wrap64 (y * 2 ^ m)) = plainN y * 2 ^ m % 18446744073709551616 := by
  have e : ((plainN y : Nat) : Int) = y % 18446744073709551616 := by unfold plainN; omega
  have e2 : ((plainN y * 2 ^ m % 18446744073709551616 : Nat) : Int) = (y * 2 ^ m) % 18446744073709551616 := by
    rw [Int.natCast_emod, Int.natCast_mul, e, ← cast_pow]
    show (y % 18446744073709551616 * 2 ^ m) % 18446744073709551616 = _
    rw [Int.mul_emod, Int.emod_emod_of_dvd _ (Int.dvd_refl _), ← Int.mul_emod]
  unfold plainN at *
  unfold wrap64
  omega
theorem tb_sar_neg (y : Int) (m : Nat) {i : Nat} (hi : i < 64) :
    (plainN (wrap64 (y * 2 ^ m))).testBit i = (decide (m ≤ i) && (plainN y).testBit (i - m)) := by
  rw [plain_mul, mod64, Nat.testBit_mul_two_pow]
  simp [hi]
theorem bit_sar {y : Int} (h0 : -9223372036854775808 ≤ y) (h1 : y ≤ 9223372036854775807) {n : Int} {i : Nat} (hi : i < 64) :
    bitsF (plainN (sarN y n)) i = if 63 < (i : Int) + nearI n then bitsF (plainN y) 63 else if 0 ≤ (i : Int) + nearI n then bitsF (plainN y) ((i : Int) + nearI n).toNat else 0 := by
  unfold bitsF sarN
  by_cases hn : n < 0
  · rw [if_pos hn, tb_sar_neg _ _ hi]
    have hk : nearI n = -((min (-n).toNat 64 : Nat) : Int) := by unfold nearI; split <;> (try split) <;> omega
    rw [hk, if_neg (by omega)]
    generalize min (-n).toNat 64 = m
    by_cases h : m ≤ i
    · rw [if_pos (by omega), show ((i : Int) + -(m : Int)).toNat = i - m by omega]
      simp [h]
    · rw [if_neg (by omega)]
      simp [h]
  · rw [if_neg hn, tb_sar_pos h0 h1 _ hi]
    have hk : nearI n = ((min n.toNat 64 : Nat) : Int) := by unfold nearI; split <;> (try split) <;> omega
    rw [hk]
    generalize min n.toNat 64 = m
    by_cases h : m + i < 64
    · rw [if_pos h, if_neg (by omega), if_pos (by omega), show ((i : Int) + (m : Int)).toNat = m + i by omega]
    · rw [if_neg h, if_pos (by omega)]

theorem Sar_any {y : Int} (hy0 : -9223372036854775808 ≤ y) (hy1 : y ≤ 9223372036854775807) {n : Int} (h0 : -9223372036854775808 ≤ n) (h1 : n ≤ 9223372036854775807) (w : World) :
    Calls Try.prog 18 #[.int .i64 y, .int .i64 n] w fun e w' => e = .returned (.int .i64 (sarN y n)) ∧ w = w' := by
  by_cases hn : n < 0
  · have E : wrap64 (y * 2 ^ min (IntKind.u64.wrap (wrap64 (-n))).toNat 64) = sarN y n := by rw [neg_toNat h0 hn]; unfold sarN; rw [if_pos hn]
    have HE := Lib.hid E
    clear E
    go_enter Try.func18, Try.ntmps18
    go_wp2
    go_ret
    exact ⟨ret_int HE.out, rfl⟩
  · have E : y / 2 ^ min n.toNat 64 = sarN y n := by unfold sarN; rw [if_neg hn]
    have HE := Lib.hid E
    clear E
    go_enter Try.func18, Try.ntmps18
    go_wp2
    go_ret
    exact ⟨ret_int HE.out, rfl⟩

theorem refSar_any {y : Int} (h0 : -9223372036854775808 ≤ y) (h1 : y ≤ 9223372036854775807) (n : Int) (w : World) :
    Calls Try.prog 19 #[.int .i64 y, .int .i64 n] w fun e w' => e = .returned (.int .i64 (sarN y n)) ∧ Below w.heap.size w w' := by
  go_enter Try.func19, Try.ntmps19
  go_wp2_with fail
  refine (plain_any h0 h1 _).mono ?_
  rintro e w' ⟨rfl, rfl⟩
  go_wp2_with fail
  refine (row_any _ (plainN_lt y) _).mono ?_
  rintro e w1 ⟨rfl, hb1⟩
  have k0 := nearI_lo n
  have k1 := nearI_hi n
  go_wp2_with (first | (refine wpList_store_row rfl 50 _ _ rfl w1.heap.size _ rfl rfl 50 _ (heap_alloc_new _ _) (size64 _) rfl (arr64_one _) ?_; rw [setRow_alloc]) | (go_at_call 47; refine (near_any n _).mono ?_; rintro e w' ⟨rfl, rfl⟩))
  generalize hW : World.alloc (World.alloc w1 _) _ = w2
  obtain ⟨g0, g1, hb2, hB⟩ := two_rows hb1 rfl hW
  have S := Lib.hid (fun i (hi : i < 64) => bit_sar h0 h1 (n := n) hi)
  clear hW hb1
  generalize nearI n = kk at *
  generalize hbe : w1.heap.size = b at *
  clear hbe
  go_loopw [8] (fun i wr => OutRel (plainN (sarN y n)) b w.heap.size (bitsF (plainN y)) w i wr) (fun i _ => 64 - (intOf i).toNat)
  case atStart => exact ⟨0, by omega, rfl, by rw [rowTo_none]; exact g1, g0, hb2⟩
  case round =>
    obtain ⟨k, hk, rfl, G1, G0, hbr⟩ := hrel
    clear g0 g1 hb2
    by_cases hlt : k < 64
    · have hs := S.out k hlt
      by_cases hi : 63 < (k : Int) + kk
      · rw [if_pos hi] at hs
        have hcx := row_cell G0 (k := 63) (by omega)
        have hco := row_cell G1 hlt
        have hfo := row_free (k := k) G1
        have HG1 := Lib.hid G1
        have HG0 := Lib.hid G0
        have Hs := Lib.hid hs
        clear G1 G0 hs
        go_wp2
        go_roundw
        case rel => exact ⟨k + 1, by omega, by go_num, by rw [row_store HG1.out, rowTo_set _ _ _ Hs.out.symm], row_keep HG0.out (by omega) _, hbr.setCell (by simp; omega) _⟩
        case measure => simp [intOf]; omega
      · rw [if_neg hi] at hs
        by_cases i0 : 0 ≤ (k : Int) + kk
        · rw [if_pos i0] at hs
          have hcx := row_cell G0 (k := ((k : Int) + kk).toNat) (by omega)
          have hco := row_cell G1 hlt
          have hfo := row_free (k := k) G1
          have HG1 := Lib.hid G1
          have HG0 := Lib.hid G0
          have Hs := Lib.hid hs
          clear G1 G0 hs
          go_wp2
          go_roundw
          case rel => exact ⟨k + 1, by omega, by go_num, by rw [row_store HG1.out, rowTo_set _ _ _ Hs.out.symm], row_keep HG0.out (by omega) _, hbr.setCell (by simp; omega) _⟩
          case measure => simp [intOf]; omega
        · rw [if_neg i0] at hs
          rw [rowTo_skip hs] at G1
          have HG1 := Lib.hid G1
          have HG0 := Lib.hid G0
          clear G1 G0 hs
          go_wp2
          go_roundw
          case rel => exact ⟨k + 1, by omega, by go_num, HG1.out, HG0.out, hbr⟩
          case measure => simp [intOf]; omega
    · obtain rfl : k = 64 := by omega
      have l := plainN_lt (sarN y n)
      have r := sarN_rng h0 h1 (n := n)
      rw [rowTo_full] at G1
      have HG1 := Lib.hid G1
      have HG0 := Lib.hid G0
      clear G1 G0
      go_wp2_with (first | (refine wpList_load_row rfl 50 _ rfl (b + 1) rfl 50 _ (0, 0) _ HG1.out Try.underlying50 rfl (size64 _) ?_) | (go_at_call 48; refine (number_any _ l _).mono ?_; rintro e w3 ⟨rfl, hb3⟩) | (go_at_call 50; refine (signed_any l _).mono ?_; rintro e w4 ⟨rfl, hb4⟩))
      go_ret
      exact ⟨ret_int (sgn_plainN r.1 r.2), hbr.trans ((hb3.mono hbr.size).trans (hb4.mono (Nat.le_trans hbr.size hb3.size)))⟩
end Go.Proofs.Ytlmihaeknmeeiaa
