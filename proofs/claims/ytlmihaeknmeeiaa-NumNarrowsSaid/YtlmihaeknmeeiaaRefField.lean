/-
  massifref1's Mask, Field and Lay.
-/
import Derived.Test.YtlmihaeknmeeiaaRefShr
import Derived.RegionTactic
import Derived.BigRegion
namespace Go.Proofs.Ytlmihaeknmeeiaa
open Go.RowKit
set_option linter.unusedVariables false

theorem bit_mask {n : Int} {i : Nat} (hi : i < 64) : bitsF (maskN n) i = if (i : Int) < n then 1 else 0 := by
  unfold bitsF
  rw [tb_maskN _ hi]
  by_cases h : (i : Int) < n
  · simp [h]
  · simp [h]

theorem refMask_any (n : Int) (w : World) :
    Calls Try.prog 22 #[.int .i64 n] w fun e w' => e = .returned (.int .u64 (maskN n)) ∧ Below w.heap.size w w' := by
  go_enter Try.func22, Try.ntmps22
  go_wp2
  generalize hW : World.alloc w _ = w2
  have hb : Below w.heap.size w w2 := by rw [← hW]; exact (Below.refl _ _).alloc (Nat.le_refl _) _
  have h1 : w2.heap[w.heap.size]? = some (.cells (arr64 (rowTo (maskN n) 0)) 50 (0, 0)) := by rw [← hW, heap_alloc_new, rowTo_none]; rfl
  clear hW
  generalize hB : w.heap.size = b at *
  have HB := Lib.hid hB
  clear hB
  go_loopw [4] (fun i wr => ∃ k : Nat, k ≤ 64 ∧ i = .int .i64 k ∧ (0 < k → (k : Int) ≤ n) ∧ wr.heap[b]? = some (.cells (arr64 (rowTo (maskN n) k)) 50 (0, 0)) ∧ Below b w wr) (fun i _ => 64 - (intOf i).toNat)
  case atStart => exact ⟨0, by omega, rfl, by omega, h1, hb⟩
  case round =>
    obtain ⟨k, hk, rfl, hkn, g, hbr⟩ := hrel
    clear h1 hb
    by_cases hlt : k < 64 ∧ (k : Int) < n
    · obtain ⟨hlt, hn⟩ := hlt
      have hs := bit_mask (n := n) hlt
      rw [if_pos hn] at hs
      have hco := row_cell g hlt
      have hfo := row_free (k := k) g
      have HG := Lib.hid g
      have HS := Lib.hid hs
      clear g hs
      go_wp2
      go_roundw
      case rel => exact ⟨k + 1, by omega, by go_num, by omega, by rw [row_store HG.out, rowTo_set _ _ _ HS.out.symm], hbr.setCell (by simp) _⟩
      case measure => simp [intOf]; omega
    · have l := maskN_lt n
      have e : arr64 (rowTo (maskN n) k) = arr64 (bitsF (maskN n)) := arr64_congr fun i hi => by
        unfold rowTo
        by_cases h : i < k
        · rw [if_pos h]
        · rw [if_neg h, bit_mask hi, if_neg (by omega)]
      rw [e] at g
      have HG := Lib.hid g
      have hn : k < 64 → n ≤ (k : Int) := by omega
      clear g e hlt
      by_cases h64 : k < 64
      all_goals
        go_wp2_with (first | (refine wpList_load_row rfl 50 _ rfl b rfl 50 _ (0, 0) _ HG.out Try.underlying50 rfl (size64 _) ?_) | (go_at_call 48; refine (number_any _ l _).mono ?_; rintro e w3 ⟨rfl, hb3⟩))
        go_ret
        exact ⟨rfl, by have s := hbr.size; rw [HB.out] at *; exact hbr.trans (hb3.mono s)⟩
end Go.Proofs.Ytlmihaeknmeeiaa
