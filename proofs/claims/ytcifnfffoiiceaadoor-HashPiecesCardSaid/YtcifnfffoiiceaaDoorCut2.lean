/-
  The walks of hash.cut and massifref2.cutOff.
-/
import Derived.Test.YtcifnfffoiiceaaDoorSha
import Derived.Test.YtcifnfffoiiceaaDoorClear
import Derived.Test.YtcifnfffoiiceaaDoorWordRef
namespace Go.Proofs.YtcifnfffoiiceaaDoor
open Go.RowKit
set_option linter.unusedVariables false

theorem Width_any {w : Int} (W : World) : Calls Tryd.prog 68 #[.int .i64 w] W fun e w' => e = .returned (.int .i64 ((widthN w : Nat) : Int)) ∧ w' = W := by
  by_cases h1 : w < 1
  · have e : widthN w = 1 := by unfold widthN; rw [if_pos h1]
    rw [e]
    clear e
    go_enter Tryd.func68, Tryd.ntmps68
    go_wp2
    go_ret
    exact ⟨rfl, rfl⟩
  · by_cases h2 : 32 < w
    · have e : widthN w = 32 := by unfold widthN; rw [if_neg h1, if_pos h2]
      rw [e]
      clear e
      go_enter Tryd.func68, Tryd.ntmps68
      go_wp2
      go_ret
      exact ⟨rfl, rfl⟩
    · have e : ((widthN w : Nat) : Int) = w := by unfold widthN; rw [if_neg h1, if_neg h2]; omega
      rw [e]
      clear e
      go_enter Tryd.func68, Tryd.ntmps68
      go_wp2
      go_ret
      exact ⟨rfl, rfl⟩
theorem widthN_le (w : Int) : 1 ≤ widthN w ∧ widthN w ≤ 32 := by unfold widthN; split <;> (try split) <;> omega
theorem width_max (w : Int) : min (max w 1) 32 = ((widthN w : Nat) : Int) := by unfold widthN; split <;> (try split) <;> omega

theorem cutL_length {w : Int} {l : List Nat} (hl : l.length = 32) : (cutL w l).length = l.length := by
  have := (widthN_le w).2
  unfold cutL
  rw [List.length_append, List.length_take, List.length_replicate]
  omega
theorem cut_row {w : Int} {l : List Nat} (hl : l.length = 32) {k : Nat} (hk : k = widthN w) :
    ((cellsOf' u8c l).toList.take k ++ (List.replicate (32 - k) (Value.int .u8 0) ++ (cellsOf' u8c l).toList.drop (k + (32 - k)))).toArray = cellsOf' u8c (cutL w l) := by
  have h2 := (widthN_le w).2
  unfold cellsOf' cutL
  rw [← hk, show k + (32 - k) = 32 by omega, hl]
  congr 1
  rw [List.map_append, List.map_take, List.map_replicate]
  have e : List.drop 32 (l.map u8c) = [] := List.drop_eq_nil_of_le (by simp [hl])
  simp only [e, List.append_nil]
  rfl
theorem cut_row32 {w : Int} {l : List Nat} (hl : l.length = 32) (hk : widthN w = 32) :
    ((cellsOf' u8c l).toList.take 0 ++ (List.replicate 0 (Value.int .u8 0) ++ (cellsOf' u8c l).toList.drop (0 + 0))).toArray = cellsOf' u8c (cutL w l) := by
  have e : cutL w l = l := by
    unfold cutL
    rw [hk, hl, List.take_of_length_le (by omega)]
    simp
  rw [e]
  simp
theorem width_ways (w : Int) : (w < 1 ∧ widthN w = 1) ∨ (¬ w < 1 ∧ 32 < w ∧ widthN w = 32) ∨ (w = 32 ∧ widthN w = 32) ∨ ∃ k : Nat, w = (k : Int) ∧ 1 ≤ k ∧ k < 32 ∧ widthN w = k := by
  unfold widthN
  by_cases h : w < 1
  · exact .inl ⟨h, by rw [if_pos h]⟩
  · by_cases h2 : 32 < w
    · exact .inr (.inl ⟨h, h2, by rw [if_neg h, if_pos h2]⟩)
    · by_cases h3 : w = 32
      · exact .inr (.inr (.inl ⟨h3, by rw [if_neg h, if_neg h2, h3]; rfl⟩))
      · exact .inr (.inr (.inr ⟨w.toNat, by omega, by omega, by omega, by rw [if_neg h, if_neg h2]⟩))
set_option maxHeartbeats 1000000 in
theorem cut_any {w : Int} {l : List Nat} (hl : l.length = 32) (W : World) :
    Calls Tryd.prog 47 #[.int .i64 w, .agg (cellsOf' u8c l)] W fun e w' => e = .returned (.agg (cellsOf' u8c (cutL w l))) ∧ Below W.heap.size W w' := by
  have CR := Lib.hid (fun k hk => cut_row (w := w) hl (k := k) hk)
  have CR2 := Lib.hid (fun hk => cut_row32 (w := w) hl hk)
  have hs : (cellsOf' u8c l).size = 32 := by rw [co_size, hl]
  have hc : (cellsOf' u8c (cutL w l)).size = 32 := by rw [co_size, cutL_length hl, hl]
  obtain ⟨A, hA⟩ : ∃ A, cellsOf' u8c l = A := ⟨_, rfl⟩
  have HA := Lib.hid hA
  rw [hA] at hs ⊢
  obtain ⟨i0, hi, hz0, hz1, hz2⟩ := info_parts info_u8
  have ways := width_ways w
  clear hl hA
  rcases ways with ⟨h1, hk⟩ | ⟨h1, h2, hk⟩ | ⟨rfl, hk⟩ | ⟨k, rfl, k1, k2, hk⟩
  case inl =>
    have HK := Lib.hid hk
    clear hk
    go_enter Tryd.func47, Tryd.ntmps47
    go_wp2_with (first | (refine wpList_clear_row rfl (.tmp 8) 29 rfl 5 (.int .u8 0) Tryd.underlying29 hi hz0 rfl rfl W.heap.size 1 31 31 rfl A 23 (heap_alloc2_old _ _ _) (by rw [hs]; exact Nat.le_refl _) (cellsOf' u8c (cutL w l)) (by rw [← HA.out]; exact CR.out 1 HK.out.symm) (W.heap.size + 1) _ (heap_alloc2_new _ _ _) (by omega) W.heap.size W (((Below.refl _ _).alloc (Nat.le_refl _) _).alloc (by simp) _) (Nat.le_refl _) ?_; intro w2 G1 G2 hb2) | (refine wpList_load_row rfl 23 _ rfl W.heap.size rfl 23 _ (0, 0) _ G1.out Tryd.underlying23 rfl (by rw [hc]; exact size_32) ?_) | (refine wpList_store_row rfl 23 _ _ rfl (W.heap.size + 1) _ rfl rfl 23 _ G2.out (by rw [hc]; exact size_32) (by rw [hc]; rfl) (co_one u8c_one) ?_))
    refine bodyPost_ret (results_cell_row rfl _ _ (W.heap.size + 1) 23 _ (0, 0) _ rfl (setRow_heap _ _ _ _ _ _ G2.out) Tryd.underlying23 rfl (by rw [hc]; exact size_32)) rfl ⟨rfl, below_setRow hb2 (by omega) _⟩
  case inr.inl =>
    have HK := Lib.hid hk
    clear hk
    go_enter Tryd.func47, Tryd.ntmps47
    go_wp2_with (first | (refine wpList_clear_row rfl (.tmp 8) 29 rfl 5 (.int .u8 0) Tryd.underlying29 hi hz0 rfl rfl W.heap.size 0 0 0 rfl A 23 (heap_alloc2_old _ _ _) (Nat.zero_le _) (cellsOf' u8c (cutL w l)) (by rw [← HA.out]; exact CR2.out HK.out) (W.heap.size + 1) _ (heap_alloc2_new _ _ _) (by omega) W.heap.size W (((Below.refl _ _).alloc (Nat.le_refl _) _).alloc (by simp) _) (Nat.le_refl _) ?_; intro w2 G1 G2 hb2) | (refine wpList_load_row rfl 23 _ rfl W.heap.size rfl 23 _ (0, 0) _ G1.out Tryd.underlying23 rfl (by rw [hc]; exact size_32) ?_) | (refine wpList_store_row rfl 23 _ _ rfl (W.heap.size + 1) _ rfl rfl 23 _ G2.out (by rw [hc]; exact size_32) (by rw [hc]; rfl) (co_one u8c_one) ?_))
    refine bodyPost_ret (results_cell_row rfl _ _ (W.heap.size + 1) 23 _ (0, 0) _ rfl (setRow_heap _ _ _ _ _ _ G2.out) Tryd.underlying23 rfl (by rw [hc]; exact size_32)) rfl ⟨rfl, below_setRow hb2 (by omega) _⟩
  case inr.inr.inl =>
    have HK := Lib.hid hk
    clear hk
    go_enter Tryd.func47, Tryd.ntmps47
    go_wp2_with (first | (refine wpList_clear_row rfl (.tmp 8) 29 rfl 5 (.int .u8 0) Tryd.underlying29 hi hz0 rfl rfl W.heap.size 0 0 0 rfl A 23 (heap_alloc2_old _ _ _) (Nat.zero_le _) (cellsOf' u8c (cutL 32 l)) (by rw [← HA.out]; exact CR2.out HK.out) (W.heap.size + 1) _ (heap_alloc2_new _ _ _) (by omega) W.heap.size W (((Below.refl _ _).alloc (Nat.le_refl _) _).alloc (by simp) _) (Nat.le_refl _) ?_; intro w2 G1 G2 hb2) | (refine wpList_load_row rfl 23 _ rfl W.heap.size rfl 23 _ (0, 0) _ G1.out Tryd.underlying23 rfl (by rw [hc]; exact size_32) ?_) | (refine wpList_store_row rfl 23 _ _ rfl (W.heap.size + 1) _ rfl rfl 23 _ G2.out (by rw [hc]; exact size_32) (by rw [hc]; rfl) (co_one u8c_one) ?_))
    refine bodyPost_ret (results_cell_row rfl _ _ (W.heap.size + 1) 23 _ (0, 0) _ rfl (setRow_heap _ _ _ _ _ _ G2.out) Tryd.underlying23 rfl (by rw [hc]; exact size_32)) rfl ⟨rfl, below_setRow hb2 (by omega) _⟩
  case inr.inr.inr =>
    have ki : (k : Int) < 32 := by omega
    have hne : ¬ 32 = k := by omega
    have ki2 : (k : Int) ≤ 32 := by omega
    have kj : (1 : Int) ≤ (k : Int) := by omega
    have HK := Lib.hid hk
    clear hk
    go_enter Tryd.func47, Tryd.ntmps47
    go_wp2_with (first | (refine wpList_clear_row rfl (.tmp 8) 29 rfl 5 (.int .u8 0) Tryd.underlying29 hi hz0 rfl rfl W.heap.size k (32 - k) (32 - k) rfl A 23 (heap_alloc2_old _ _ _) (by rw [hs]; omega) (cellsOf' u8c (cutL k l)) (by rw [← HA.out]; exact CR.out k HK.out.symm) (W.heap.size + 1) _ (heap_alloc2_new _ _ _) (by omega) W.heap.size W (((Below.refl _ _).alloc (Nat.le_refl _) _).alloc (by simp) _) (Nat.le_refl _) ?_; intro w2 G1 G2 hb2) | (refine wpList_load_row rfl 23 _ rfl W.heap.size rfl 23 _ (0, 0) _ G1.out Tryd.underlying23 rfl (by rw [hc]; exact size_32) ?_) | (refine wpList_store_row rfl 23 _ _ rfl (W.heap.size + 1) _ rfl rfl 23 _ G2.out (by rw [hc]; exact size_32) (by rw [hc]; rfl) (co_one u8c_one) ?_))
    refine bodyPost_ret (results_cell_row rfl _ _ (W.heap.size + 1) 23 _ (0, 0) _ rfl (setRow_heap _ _ _ _ _ _ G2.out) Tryd.underlying23 rfl (by rw [hc]; exact size_32)) rfl ⟨rfl, below_setRow hb2 (by omega) _⟩
end Go.Proofs.YtcifnfffoiiceaaDoor
