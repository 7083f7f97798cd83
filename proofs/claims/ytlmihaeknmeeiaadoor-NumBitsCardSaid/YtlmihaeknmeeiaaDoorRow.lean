/-
  The walks of massifref1.Row and massifref1.Number: a number's bits as a row, and back.
-/
import Derived.Test.YtlmihaeknmeeiaaDoorArr
import Derived.Outline
namespace Go.Proofs.YtlmihaeknmeeiaaDoor
open Go.RowKit

/-- Of the first k bits the row holds those of x, above them naughts. -/
def rowTo (x k : Nat) (i : Nat) : Int := if i < k then bitsF x i else 0
theorem rowTo_set (x k : Nat) (v : Int) (hv : v = bitsF x k) : (fun i => if i = k then v else rowTo x k i) = rowTo x (k + 1) := by
  funext i
  unfold rowTo
  by_cases h : i = k
  · subst h; simp [hv]
  · by_cases h2 : i < k
    · simp [h, h2, show i < k + 1 by omega]
    · simp [h, h2, show ¬ i < k + 1 by omega]
theorem bit_of (x k : Nat) : ((x / 2 ^ k : Nat) : Int) % 2 = bitsF x k := by
  unfold bitsF
  rw [Nat.toNat_testBit]
  omega

def RowRel (x b : Nat) (w : World) (y i : Value) (wr : World) : Prop :=
  ∃ k : Nat, k ≤ 64 ∧ i = .int .i64 k ∧ y = .int .u64 ((x / 2 ^ k : Nat) : Int) ∧ wr.heap[b + 1]? = some (.cells (arr64 (rowTo x k)) 30 (0, 0)) ∧
    (∃ f, wr.heap[b]? = some (.cells (arr64 f) 30 (0, 0))) ∧ Below b w wr

theorem row_any (x : Nat) (hx : x < 18446744073709551616) (w : World) :
    Calls Tryd.prog 19 #[.int .u64 x] w fun e w' => e = .returned (.agg (arr64 (bitsF x))) ∧ Below w.heap.size w w' := by
  go_enter Tryd.func19, Tryd.ntmps19
  go_wp2
  generalize hW : World.alloc (World.alloc w _) _ = w2
  have hb : Below w.heap.size w w2 := by rw [← hW]; exact ((Below.refl _ _).alloc (Nat.le_refl _) _).alloc (by simp) _
  have h1 : w2.heap[w.heap.size + 1]? = some (.cells (arr64 (rowTo x 0)) 30 (0, 0)) := by rw [← hW, heap_alloc2_new]; rfl
  have h0 : w2.heap[w.heap.size]? = some (.cells (arr64 fun _ => 0) 30 (0, 0)) := by rw [← hW, heap_alloc2_old]; rfl
  clear hW
  generalize hB : w.heap.size = b at *
  have HB := Lib.hid hB
  clear hB
  go_loopw [0, 4] (fun y i wr => RowRel x b w y i wr) (fun _ i _ => 64 - (intOf i).toNat)
  case atStart => exact ⟨0, by omega, rfl, by simp, h1, ⟨_, h0⟩, hb⟩
  case round =>
    obtain ⟨k, hk, rfl, rfl, g1, ⟨f0, g0⟩, hbr⟩ := hrel
    clear h0 h1 hb
    by_cases hlt : k < 64
    · have hc := row_cell g1 hlt
      have hf := row_free (k := k) g1
      have hbit := Lib.hid (bit_of x k)
      have hnx := Lib.hid (Nat.div_div_eq_div_mul x (2 ^ k) 2)
      have hy : x / 2 ^ k < 18446744073709551616 := Nat.lt_of_le_of_lt (Nat.div_le_self _ _) hx
      have G1 := Lib.hid g1
      have G0 := Lib.hid g0
      clear g1 g0
      generalize x / 2 ^ k = y at *
      go_wp2
      go_roundw
      case rel =>
        refine ⟨k + 1, by omega, by go_num, ?_, ?_, ⟨_, row_keep G0.out (by omega) _⟩, hbr.setCell (by simp) _⟩
        · rw [Nat.pow_succ, ← hnx.out]; go_num
        · rw [row_store G1.out, rowTo_set x k _ hbit.out]
      case measure => simp [intOf]; omega
    · obtain rfl : k = 64 := by omega
      have G1 := Lib.hid g1
      have G0 := Lib.hid g0
      clear g1 g0
      go_wp2_with (first | (refine wpList_load_row rfl 30 _ rfl (b + 1) rfl 30 _ (0, 0) _ G1.out Tryd.underlying30 rfl (size64 _) ?_) | (refine wpList_store_row rfl 30 _ _ rfl b _ rfl rfl 30 _ G0.out (size64 _) (by rw [arr64_size, arr64_size]) (arr64_one _) ?_))
      refine bodyPost_ret (results_cell_row rfl _ _ b 30 _ (0, 0) _ rfl (setRow_heap _ _ _ _ _ _ G0.out) Tryd.underlying30 rfl (size64 _)) rfl ⟨?_, by rw [HB.out]; exact below_setRow hbr (Nat.le_refl _) _⟩
      rw [arr64_congr fun i hi => by unfold rowTo; rw [if_pos hi]]

theorem half_of (y j : Nat) : 2 * ((y / 2 ^ (j + 1) : Nat) : Int) + bitsF y j = ((y / 2 ^ j : Nat) : Int) := by
  unfold bitsF
  rw [Nat.toNat_testBit, Nat.pow_succ, ← Nat.div_div_eq_div_mul]
  omega
theorem bitsF_lo (y j : Nat) : 0 ≤ bitsF y j := by unfold bitsF; omega
theorem bitsF_hi (y j : Nat) : bitsF y j ≤ 1 := by
  unfold bitsF
  cases y.testBit j <;> simp

end Go.Proofs.YtlmihaeknmeeiaaDoor
