/-
  massifref1.Shr.
-/
import Derived.Test.YtlmihaeknmeeiaaRefShl
namespace Go.Proofs.Ytlmihaeknmeeiaa
open Go.RowKit
set_option linter.unusedVariables false

theorem bit_shr {x : Nat} (hx : x < 18446744073709551616) {n : Int} {i : Nat} (hi : i < 64) :
    bitsF (shrN x n) i = if 0 ≤ (i : Int) + nearI n ∧ (i : Int) + nearI n < 64 then bitsF x ((i : Int) + nearI n).toNat else 0 := by
  unfold bitsF
  rw [tb_shrN _ hi]
  unfold nearI
  by_cases h1 : n > 64
  · rw [if_pos h1, tb_hi hx (by omega)]
    simp only [Bool.and_false, show ¬ ((i : Int) + 64 < 64) by omega, and_false, if_false]; rfl
  · rw [if_neg h1]
    by_cases h2 : n < -64
    · rw [if_pos h2]
      simp only [show ¬ 0 ≤ (i : Int) + n by omega, decide_false, Bool.false_and, show ¬ (0 ≤ (i : Int) + -64) by omega, false_and, if_false]; rfl
    · rw [if_neg h2]
      by_cases h3 : 0 ≤ (i : Int) + n
      · by_cases h4 : (i : Int) + n < 64
        · rw [if_pos ⟨h3, h4⟩]; simp only [h3, decide_true, Bool.true_and]
        · rw [if_neg (fun h => h4 h.2), tb_hi hx (by omega)]; simp
      · rw [if_neg (fun h => h3 h.1)]; simp only [h3, decide_false, Bool.false_and]; rfl

theorem refShr_any {x : Nat} (hx : x < 18446744073709551616) (n : Int) (w : World) :
    Calls Try.prog 17 #[.int .u64 x, .int .i64 n] w fun e w' => e = .returned (.int .u64 (shrN x n)) ∧ Below w.heap.size w w' := by
  go_enter Try.func17, Try.ntmps17
  go_wp2_with fail
  refine (row_any x hx _).mono ?_
  rintro e w1 ⟨rfl, hb1⟩
  have k0 := nearI_lo n
  have k1 := nearI_hi n
  go_wp2_with (first | (refine wpList_store_row rfl 50 _ _ rfl w1.heap.size _ rfl rfl 50 _ (heap_alloc_new _ _) (size64 _) rfl (arr64_one _) ?_; rw [setRow_alloc]) | (go_at_call 47; refine (near_any n _).mono ?_; rintro e w' ⟨rfl, rfl⟩))
  generalize hW : World.alloc (World.alloc w1 _) _ = w2
  obtain ⟨g0, g1, hb2, hB⟩ := two_rows hb1 rfl hW
  have S := Lib.hid (fun i (hi : i < 64) => bit_shr hx (n := n) hi)
  clear hW hb1
  generalize nearI n = kk at *
  generalize hbe : w1.heap.size = b at *
  clear hbe
  go_loopw [8] (fun i wr => OutRel (shrN x n) b w.heap.size (bitsF x) w i wr) (fun i _ => 64 - (intOf i).toNat)
  case atStart => exact ⟨0, by omega, rfl, by rw [rowTo_none]; exact g1, g0, hb2⟩
  case round =>
    obtain ⟨k, hk, rfl, G1, G0, hbr⟩ := hrel
    clear g0 g1 hb2
    by_cases hlt : k < 64
    · by_cases hin : 0 ≤ (k : Int) + kk ∧ (k : Int) + kk < 64
      · have hs := S.out k hlt
        rw [if_pos hin] at hs
        obtain ⟨i0, i1⟩ := hin
        have hcx := row_cell G0 (k := ((k : Int) + kk).toNat) (by omega)
        have hco := row_cell G1 hlt
        have hfo := row_free (k := k) G1
        have HG1 := Lib.hid G1
        have HG0 := Lib.hid G0
        have Hs := Lib.hid hs
        clear G1 G0 hs
        go_wp2
        go_roundw
        case rel => exact ⟨k + 1, by omega, by go_num, by rw [row_store HG1.out, rowTo_set _ _ _ Hs.out.symm], row_keep HG0.out (by omega) _, hbr.setCell (by simp; omega) _⟩
        case measure => simp [intOf]; omega
      · have hs := S.out k hlt
        rw [if_neg hin] at hs
        rw [rowTo_skip hs] at G1
        have HG1 := Lib.hid G1
        have HG0 := Lib.hid G0
        clear G1 G0 hs
        by_cases i0 : 0 ≤ (k : Int) + kk
        all_goals
          have i1 : ¬ (0 ≤ (k : Int) + kk ∧ (k : Int) + kk < 64) := hin
          clear hin
          have i2 : 0 ≤ (k : Int) + kk → 64 ≤ (k : Int) + kk := by omega
          go_wp2
          go_roundw
          case rel => exact ⟨k + 1, by omega, by go_num, HG1.out, HG0.out, hbr⟩
          case measure => simp [intOf]; omega
    · obtain rfl : k = 64 := by omega
      have l := shrN_lt n hx
      rw [rowTo_full] at G1
      have HG1 := Lib.hid G1
      have HG0 := Lib.hid G0
      clear G1 G0
      go_wp2_with (first | (refine wpList_load_row rfl 50 _ rfl (b + 1) rfl 50 _ (0, 0) _ HG1.out Try.underlying50 rfl (size64 _) ?_) | (go_at_call 48; refine (number_any _ l _).mono ?_; rintro e w3 ⟨rfl, hb3⟩))
      go_ret
      exact ⟨rfl, hbr.trans (hb3.mono hbr.size)⟩
end Go.Proofs.Ytlmihaeknmeeiaa
