/-
  massifref1's Turn, Rev and Swap.
-/
import Derived.Test.YtlmihaeknmeeiaaRefShl
namespace Go.Proofs.Ytlmihaeknmeeiaa
open Go.RowKit
set_option linter.unusedVariables false

/-- Those places are done that come from a place below k. -/
def permTo (y : Nat) (S : Nat → Nat) (k : Nat) (i : Nat) : Int := if S i < k then bitsF y i else 0
theorem permTo_set (y : Nat) (S : Nat → Nat) (k d : Nat) (v : Int) (hv : v = bitsF y d) (hS : ∀ i, i < 64 → (S i = k ↔ i = d)) :
    arr64 (fun i => if i = d then v else permTo y S k i) = arr64 (permTo y S (k + 1)) := arr64_congr fun i hi => by
  unfold permTo
  have := hS i hi
  by_cases h : i = d
  · have e := this.2 h
    rw [if_pos h, if_pos (by omega), hv, h]
  · have e : ¬ S i = k := fun e => h (this.1 e)
    rw [if_neg h]
    by_cases h2 : S i < k
    · rw [if_pos h2, if_pos (by omega)]
    · rw [if_neg h2, if_neg (by omega)]
theorem permTo_none (y : Nat) (S : Nat → Nat) : arr64 (permTo y S 0) = arr64 (fun _ => 0) := arr64_congr fun i _ => by unfold permTo; rw [if_neg (by omega)]
theorem permTo_full (y : Nat) (S : Nat → Nat) (hS : ∀ i, i < 64 → S i < 64) : arr64 (permTo y S 64) = arr64 (bitsF y) := arr64_congr fun i hi => by unfold permTo; rw [if_pos (hS i hi)]

def PermRel (y : Nat) (S : Nat → Nat) (b B : Nat) (fx : Nat → Int) (w : World) (i : Value) (wr : World) : Prop :=
  ∃ k : Nat, k ≤ 64 ∧ i = .int .i64 k ∧ wr.heap[b + 1]? = some (.cells (arr64 (permTo y S k)) 50 (0, 0)) ∧
    wr.heap[b]? = some (.cells (arr64 fx) 50 (0, 0)) ∧ Below B w wr

theorem bit_rev (x : Nat) {k : Nat} (hk : k < 64) : bitsF x k = bitsF (revN x) (63 - k) := by
  unfold bitsF
  rw [tb_revN _ (by omega), show 63 - (63 - k) = k by omega]
theorem bit_swap (x : Nat) {k : Nat} (hk : k < 64) : bitsF x k = bitsF (swapN x) (8 * (7 - k / 8) + k % 8) := by
  unfold bitsF
  rw [tb_swapN _ (by omega), show 8 * (7 - (8 * (7 - k / 8) + k % 8) / 8) + (8 * (7 - k / 8) + k % 8) % 8 = k by omega]
theorem bit_turn {x : Nat} (hx : x < 18446744073709551616) (n : Int) {k : Nat} (hk : k < 64) : bitsF x k = bitsF (turnN x n) ((k + turnK n) % 64) := by
  unfold bitsF
  have e : (((((k + turnK n) % 64 : Nat) : Int) - n) % 64).toNat = k := by unfold turnK; omega
  rw [tb_turnN _ hx (by omega), e]

theorem refRev_any {x : Nat} (hx : x < 18446744073709551616) (w : World) :
    Calls Try.prog 34 #[.int .u64 x] w fun e w' => e = .returned (.int .u64 (revN x)) ∧ Below w.heap.size w w' := by
  have l := revN_lt x
  go_enter Try.func34, Try.ntmps34
  go_wp2_with fail
  refine (row_any x hx _).mono ?_
  rintro e w1 ⟨rfl, hb1⟩
  go_wp2_with (refine wpList_store_row rfl 50 _ _ rfl w1.heap.size _ rfl rfl 50 _ (heap_alloc_new _ _) (size64 _) rfl (arr64_one _) ?_; rw [setRow_alloc])
  generalize hW : World.alloc (World.alloc w1 _) _ = w2
  obtain ⟨g0, g1, hb2, hB⟩ := two_rows hb1 rfl hW
  clear hW hb1
  generalize hbe : w1.heap.size = b at *
  clear hbe
  go_loopw [5] (fun i wr => PermRel (revN x) (fun j => 63 - j) b w.heap.size (bitsF x) w i wr) (fun i _ => 64 - (intOf i).toNat)
  case atStart => exact ⟨0, by omega, rfl, by rw [permTo_none]; exact g1, g0, hb2⟩
  case round =>
    obtain ⟨k, hk, rfl, G1, G0, hbr⟩ := hrel
    clear g0 g1 hb2
    by_cases hlt : k < 64
    · have hs := bit_rev x hlt
      have hcx := row_cell G0 hlt
      have hd : 63 - k < 64 := by omega
      have hco := row_cell G1 hd
      have hfo := row_free (k := 63 - k) G1
      have HG1 := Lib.hid G1
      have HG0 := Lib.hid G0
      have Hs := Lib.hid hs
      clear G1 G0 hs
      have ed : (63 - (k : Int)).toNat = 63 - k := by omega
      go_wp2
      go_roundw
      case rel => exact ⟨k + 1, by omega, by go_num, by rw [row_store HG1.out, permTo_set _ _ _ _ _ Hs.out (fun i hi => by omega)], row_keep HG0.out (by omega) _, hbr.setCell (by simp; omega) _⟩
      case measure => simp [intOf]; omega
    · obtain rfl : k = 64 := by omega
      rw [permTo_full _ _ (by intro i hi; omega)] at G1
      have HG1 := Lib.hid G1
      have HG0 := Lib.hid G0
      clear G1 G0
      go_wp2_with (first | (refine wpList_load_row rfl 50 _ rfl (b + 1) rfl 50 _ (0, 0) _ HG1.out Try.underlying50 rfl (size64 _) ?_) | (go_at_call 48; refine (number_any _ l _).mono ?_; rintro e w3 ⟨rfl, hb3⟩))
      go_ret
      exact ⟨rfl, hbr.trans (hb3.mono hbr.size)⟩

theorem refSwap_any {x : Nat} (hx : x < 18446744073709551616) (w : World) :
    Calls Try.prog 36 #[.int .u64 x] w fun e w' => e = .returned (.int .u64 (swapN x)) ∧ Below w.heap.size w w' := by
  have l := swapN_lt x
  go_enter Try.func36, Try.ntmps36
  go_wp2_with fail
  refine (row_any x hx _).mono ?_
  rintro e w1 ⟨rfl, hb1⟩
  go_wp2_with (refine wpList_store_row rfl 50 _ _ rfl w1.heap.size _ rfl rfl 50 _ (heap_alloc_new _ _) (size64 _) rfl (arr64_one _) ?_; rw [setRow_alloc])
  generalize hW : World.alloc (World.alloc w1 _) _ = w2
  obtain ⟨g0, g1, hb2, hB⟩ := two_rows hb1 rfl hW
  clear hW hb1
  generalize hbe : w1.heap.size = b at *
  clear hbe
  go_loopw [5] (fun i wr => PermRel (swapN x) (fun j => 8 * (7 - j / 8) + j % 8) b w.heap.size (bitsF x) w i wr) (fun i _ => 64 - (intOf i).toNat)
  case atStart => exact ⟨0, by omega, rfl, by rw [permTo_none]; exact g1, g0, hb2⟩
  case round =>
    obtain ⟨k, hk, rfl, G1, G0, hbr⟩ := hrel
    clear g0 g1 hb2
    by_cases hlt : k < 64
    · have hs := bit_swap x hlt
      have hcx := row_cell G0 hlt
      have hd : 8 * (7 - k / 8) + k % 8 < 64 := by omega
      have hco := row_cell G1 hd
      have hfo := row_free (k := 8 * (7 - k / 8) + k % 8) G1
      have HG1 := Lib.hid G1
      have HG0 := Lib.hid G0
      have Hs := Lib.hid hs
      clear G1 G0 hs
      have ed : (8 * (7 - (k : Int) / 8) + (k : Int) % 8).toNat = 8 * (7 - k / 8) + k % 8 := by omega
      go_wp2
      go_roundw
      case rel => exact ⟨k + 1, by omega, by go_num, by rw [row_store HG1.out, permTo_set _ _ _ _ _ Hs.out (fun i hi => by omega)], row_keep HG0.out (by omega) _, hbr.setCell (by simp; omega) _⟩
      case measure => simp [intOf]; omega
    · obtain rfl : k = 64 := by omega
      rw [permTo_full _ _ (by intro i hi; omega)] at G1
      have HG1 := Lib.hid G1
      have HG0 := Lib.hid G0
      clear G1 G0
      go_wp2_with (first | (refine wpList_load_row rfl 50 _ rfl (b + 1) rfl 50 _ (0, 0) _ HG1.out Try.underlying50 rfl (size64 _) ?_) | (go_at_call 48; refine (number_any _ l _).mono ?_; rintro e w3 ⟨rfl, hb3⟩))
      go_ret
      exact ⟨rfl, hbr.trans (hb3.mono hbr.size)⟩

theorem tmod_neg {n : Int} (h : n < 0) : n.tmod 64 = -((-n) % 64) := by
  have e : n = -(-n) := by omega
  conv => lhs; rw [e, Int.neg_tmod, Int.tmod_eq_emod_of_nonneg (by omega)]

set_option maxHeartbeats 800000 in
theorem refTurn_any {x : Nat} (hx : x < 18446744073709551616) {n : Int} (n0 : -9223372036854775808 ≤ n) (n1 : n ≤ 9223372036854775807) (w : World) :
    Calls Try.prog 32 #[.int .u64 x, .int .i64 n] w fun e w' => e = .returned (.int .u64 (turnN x n)) ∧ Below w.heap.size w w' := by
  have l := turnN_lt n hx
  have hk64 : turnK n < 64 := by unfold turnK; omega
  have HBit := Lib.hid (fun k (hk : k < 64) => bit_turn hx n hk)
  by_cases hn : 0 ≤ n
  · have hK : n % 64 = (turnK n : Int) := by unfold turnK; omega
    go_enter Try.func32, Try.ntmps32
    go_wp2_with fail
    refine (row_any x hx _).mono ?_
    rintro e w1 ⟨rfl, hb1⟩
    go_wp2_with (refine wpList_store_row rfl 50 _ _ rfl w1.heap.size _ rfl rfl 50 _ (heap_alloc_new _ _) (size64 _) rfl (arr64_one _) ?_; rw [setRow_alloc])
    generalize hW : World.alloc (World.alloc w1 _) _ = w2
    obtain ⟨g0, g1, hb2, hB⟩ := two_rows hb1 rfl hW
    clear hW hb1
    generalize hbe : w1.heap.size = b at *
    clear hbe
    go_loopw [8] (fun i wr => PermRel (turnN x n) (fun j => (j + (64 - turnK n)) % 64) b w.heap.size (bitsF x) w i wr) (fun i _ => 64 - (intOf i).toNat)
    case atStart => exact ⟨0, by omega, rfl, by rw [permTo_none]; exact g1, g0, hb2⟩
    case round =>
      obtain ⟨k, hk, rfl, G1, G0, hbr⟩ := hrel
      clear g0 g1 hb2
      by_cases hlt : k < 64
      · have hs := HBit.out k hlt
        have hcx := row_cell G0 hlt
        have hd : (k + turnK n) % 64 < 64 := by omega
        have hco := row_cell G1 hd
        have hfo := row_free (k := (k + turnK n) % 64) G1
        have HG1 := Lib.hid G1
        have HG0 := Lib.hid G0
        have Hs := Lib.hid hs
        clear G1 G0 hs
        have ed : (((k : Int) + (turnK n : Int)) % 64).toNat = (k + turnK n) % 64 := by omega
        go_wp2
        go_roundw
        case rel => exact ⟨k + 1, by omega, by go_num, by rw [row_store HG1.out, permTo_set _ _ _ _ _ Hs.out (fun i hi => by omega)], row_keep HG0.out (by omega) _, hbr.setCell (by simp; omega) _⟩
        case measure => simp [intOf]; omega
      · obtain rfl : k = 64 := by omega
        rw [permTo_full _ _ (by intro i hi; omega)] at G1
        have HG1 := Lib.hid G1
        have HG0 := Lib.hid G0
        clear G1 G0
        go_wp2_with (first | (refine wpList_load_row rfl 50 _ rfl (b + 1) rfl 50 _ (0, 0) _ HG1.out Try.underlying50 rfl (size64 _) ?_) | (go_at_call 48; refine (number_any _ l _).mono ?_; rintro e w3 ⟨rfl, hb3⟩))
        go_ret
        exact ⟨rfl, hbr.trans (hb3.mono hbr.size)⟩
  · have e1 := tmod_neg (n := n) (by omega)
    by_cases hz : (-n) % 64 = 0
    · have hK : n.tmod 64 = (turnK n : Int) := by rw [e1]; unfold turnK; omega
      clear e1 hz
      go_enter Try.func32, Try.ntmps32
      go_wp2_with fail
      refine (row_any x hx _).mono ?_
      rintro e w1 ⟨rfl, hb1⟩
      go_wp2_with (refine wpList_store_row rfl 50 _ _ rfl w1.heap.size _ rfl rfl 50 _ (heap_alloc_new _ _) (size64 _) rfl (arr64_one _) ?_; rw [setRow_alloc])
      generalize hW : World.alloc (World.alloc w1 _) _ = w2
      obtain ⟨g0, g1, hb2, hB⟩ := two_rows hb1 rfl hW
      clear hW hb1
      generalize hbe : w1.heap.size = b at *
      clear hbe
      go_loopw [8] (fun i wr => PermRel (turnN x n) (fun j => (j + (64 - turnK n)) % 64) b w.heap.size (bitsF x) w i wr) (fun i _ => 64 - (intOf i).toNat)
      case atStart => exact ⟨0, by omega, rfl, by rw [permTo_none]; exact g1, g0, hb2⟩
      case round =>
        obtain ⟨k, hk, rfl, G1, G0, hbr⟩ := hrel
        clear g0 g1 hb2
        by_cases hlt : k < 64
        · have hs := HBit.out k hlt
          have hcx := row_cell G0 hlt
          have hd : (k + turnK n) % 64 < 64 := by omega
          have hco := row_cell G1 hd
          have hfo := row_free (k := (k + turnK n) % 64) G1
          have HG1 := Lib.hid G1
          have HG0 := Lib.hid G0
          have Hs := Lib.hid hs
          clear G1 G0 hs
          have ed : (((k : Int) + (turnK n : Int)) % 64).toNat = (k + turnK n) % 64 := by omega
          go_wp2
          go_roundw
          case rel => exact ⟨k + 1, by omega, by go_num, by rw [row_store HG1.out, permTo_set _ _ _ _ _ Hs.out (fun i hi => by omega)], row_keep HG0.out (by omega) _, hbr.setCell (by simp; omega) _⟩
          case measure => simp [intOf]; omega
        · obtain rfl : k = 64 := by omega
          rw [permTo_full _ _ (by intro i hi; omega)] at G1
          have HG1 := Lib.hid G1
          have HG0 := Lib.hid G0
          clear G1 G0
          go_wp2_with (first | (refine wpList_load_row rfl 50 _ rfl (b + 1) rfl 50 _ (0, 0) _ HG1.out Try.underlying50 rfl (size64 _) ?_) | (go_at_call 48; refine (number_any _ l _).mono ?_; rintro e w3 ⟨rfl, hb3⟩))
          go_ret
          exact ⟨rfl, hbr.trans (hb3.mono hbr.size)⟩
    · have hK : n.tmod 64 = (turnK n : Int) - 64 := by rw [e1]; unfold turnK; omega
      clear e1 hz
      go_enter Try.func32, Try.ntmps32
      go_wp2_with fail
      refine (row_any x hx _).mono ?_
      rintro e w1 ⟨rfl, hb1⟩
      go_wp2_with (refine wpList_store_row rfl 50 _ _ rfl w1.heap.size _ rfl rfl 50 _ (heap_alloc_new _ _) (size64 _) rfl (arr64_one _) ?_; rw [setRow_alloc])
      generalize hW : World.alloc (World.alloc w1 _) _ = w2
      obtain ⟨g0, g1, hb2, hB⟩ := two_rows hb1 rfl hW
      clear hW hb1
      generalize hbe : w1.heap.size = b at *
      clear hbe
      go_loopw [8] (fun i wr => PermRel (turnN x n) (fun j => (j + (64 - turnK n)) % 64) b w.heap.size (bitsF x) w i wr) (fun i _ => 64 - (intOf i).toNat)
      case atStart => exact ⟨0, by omega, rfl, by rw [permTo_none]; exact g1, g0, hb2⟩
      case round =>
        obtain ⟨k, hk, rfl, G1, G0, hbr⟩ := hrel
        clear g0 g1 hb2
        by_cases hlt : k < 64
        · have hs := HBit.out k hlt
          have hcx := row_cell G0 hlt
          have hd : (k + turnK n) % 64 < 64 := by omega
          have hco := row_cell G1 hd
          have hfo := row_free (k := (k + turnK n) % 64) G1
          have HG1 := Lib.hid G1
          have HG0 := Lib.hid G0
          have Hs := Lib.hid hs
          clear G1 G0 hs
          have ed : (((k : Int) + (turnK n : Int)) % 64).toNat = (k + turnK n) % 64 := by omega
          go_wp2
          go_roundw
          case rel => exact ⟨k + 1, by omega, by go_num, by rw [row_store HG1.out, permTo_set _ _ _ _ _ Hs.out (fun i hi => by omega)], row_keep HG0.out (by omega) _, hbr.setCell (by simp; omega) _⟩
          case measure => simp [intOf]; omega
        · obtain rfl : k = 64 := by omega
          rw [permTo_full _ _ (by intro i hi; omega)] at G1
          have HG1 := Lib.hid G1
          have HG0 := Lib.hid G0
          clear G1 G0
          go_wp2_with (first | (refine wpList_load_row rfl 50 _ rfl (b + 1) rfl 50 _ (0, 0) _ HG1.out Try.underlying50 rfl (size64 _) ?_) | (go_at_call 48; refine (number_any _ l _).mono ?_; rintro e w3 ⟨rfl, hb3⟩))
          go_ret
          exact ⟨rfl, hbr.trans (hb3.mono hbr.size)⟩
end Go.Proofs.Ytlmihaeknmeeiaa
