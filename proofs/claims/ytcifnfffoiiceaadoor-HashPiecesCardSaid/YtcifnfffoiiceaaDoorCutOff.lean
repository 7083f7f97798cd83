/-
  The walk of massifref2.cutOff.
-/
import Derived.Test.YtcifnfffoiiceaaDoorCut2
namespace Go.Proofs.YtcifnfffoiiceaaDoor
open Go.RowKit
set_option linter.unusedVariables false

/-- From the k-th to the j-th the elements are 0. -/
def cutP (l : List Nat) (k j : Nat) : List Nat := l.take k ++ (List.replicate (j - k) 0 ++ l.drop j)
theorem cutP_start (l : List Nat) (k : Nat) : cutP l k k = l := by simp [cutP]
theorem cutP_set {l : List Nat} {k j : Nat} (hk : k ≤ j) (hj : j < l.length) : (cutP l k j).set j 0 = cutP l k (j + 1) := by
  unfold cutP
  have h1 : (l.take k).length = k := by rw [List.length_take]; omega
  have e : l.drop j = l[j] :: l.drop (j + 1) := (List.drop_eq_getElem_cons hj)
  rw [List.set_append_right _ _ (by omega), List.set_append_right _ _ (by rw [List.length_replicate]; omega), h1, List.length_replicate, e]
  have e2 : j - k - (j - k) = 0 := by omega
  rw [e2, List.set_cons_zero, show j + 1 - k = (j - k) + 1 by omega, List.replicate_succ', List.append_assoc]
  rfl
theorem cutP_end {w : Int} {l : List Nat} (hl : l.length = 32) : cutP l (widthN w) 32 = cutL w l := by
  unfold cutP cutL
  rw [hl, List.drop_of_length_le (by omega), List.append_nil]
theorem cutP_length {l : List Nat} {k j : Nat} (hk : k ≤ j) (hj : j ≤ l.length) : (cutP l k j).length = l.length := by
  unfold cutP
  rw [List.length_append, List.length_append, List.length_take, List.length_replicate, List.length_drop]
  omega
theorem cutOff_any {w : Int} {l : List Nat} (hl : l.length = 32) (W : World) :
    Calls Tryd.prog 55 #[.int .i64 w, .agg (cellsOf' u8c l)] W fun e w' => e = .returned (.agg (cellsOf' u8c (cutL w l))) ∧ Below W.heap.size W w' := by
  obtain ⟨k1, k2⟩ := widthN_le w
  have WD := Width_any (w := w)
  have CE := Lib.hid (cutP_end (w := w) hl)
  have hc : (cellsOf' u8c (cutL w l)).size = 32 := by rw [co_size, cutL_length hl, hl]
  obtain ⟨k, hk⟩ : ∃ k, widthN w = k := ⟨_, rfl⟩
  rw [hk] at CE k1 k2
  simp only [hk] at WD
  have HL := Lib.hid hl
  clear hl hk
  go_enter Tryd.func55, Tryd.ntmps55
  go_wp2_with (go_at_call 68; refine (WD _).mono ?_; rintro e w' ⟨rfl, rfl⟩)
  generalize hW : World.alloc (World.alloc W _) _ = w2
  have hb : Below W.heap.size W w2 := by rw [← hW]; exact ((Below.refl _ _).alloc (Nat.le_refl _) _).alloc (by simp) _
  have h1 : w2.heap[W.heap.size]? = some (.cells (cellsOf' u8c (cutP l k k)) 23 (0, 0)) := by rw [← hW, heap_alloc2_old, cutP_start]
  have h0 : w2.heap[W.heap.size + 1]? = some (.cells (cellsOf' u8c (List.replicate 32 0)) 23 (0, 0)) := by rw [← hW, heap_alloc2_new]; rfl
  clear hW
  generalize hB : W.heap.size = b at *
  have HB := Lib.hid hB
  clear hB
  go_loopw [5] (fun i wr => ∃ j : Nat, k ≤ j ∧ j ≤ 32 ∧ i = .int .i64 j ∧ wr.heap[b]? = some (.cells (cellsOf' u8c (cutP l k j)) 23 (0, 0)) ∧ wr.heap[b + 1]? = some (.cells (cellsOf' u8c (List.replicate 32 0)) 23 (0, 0)) ∧ Below b W wr) (fun i _ => 32 - (intOf i).toNat)
  case atStart => exact ⟨k, Nat.le_refl _, k2, rfl, h1, h0, hb⟩
  case round =>
    obtain ⟨j, hkj, hj, rfl, g1, g0, hbr⟩ := hrel
    clear h0 h1 hb
    by_cases hlt : j < 32
    · have hlen := cutP_length hkj (l := l) (by rw [HL.out]; omega)
      rw [HL.out] at hlen
      obtain ⟨x, hx⟩ : ∃ x, (cutP l k j)[j]? = some x := ⟨_, List.getElem?_eq_getElem (by rw [hlen]; exact hlt)⟩
      have hcell := co_cell g1 hx
      have hfree := co_free (k := j) g1
      have hst := co_store g1 (k := j) 0
      rw [cutP_set hkj (by rw [HL.out]; exact hlt)] at hst
      have HS := Lib.hid hst
      have G0 := Lib.hid g0
      unfold u8c at hcell
      have hi : (j : Int) < 32 := by omega
      clear hst g0 g1 hx hlen
      go_wp2
      go_roundw
      case rel => exact ⟨j + 1, by omega, by omega, by go_num, HS.out, co_keep G0.out (by omega) _, hbr.setCell (by simp) _⟩
      case measure => simp [intOf]; omega
    · obtain rfl : j = 32 := by omega
      rw [CE.out] at g1
      have G1 := Lib.hid g1
      have G0 := Lib.hid g0
      clear g1 g0
      go_wp2_with (first | (refine wpList_load_row rfl 23 _ rfl b rfl 23 _ (0, 0) _ G1.out Tryd.underlying23 rfl (by rw [hc]; exact size_32) ?_) | (refine wpList_store_row rfl 23 _ _ rfl (b + 1) _ rfl rfl 23 _ G0.out (by rw [hc]; exact size_32) (by rw [hc]; rfl) (co_one u8c_one) ?_))
      refine bodyPost_ret (results_cell_row rfl _ _ (b + 1) 23 _ (0, 0) _ rfl (setRow_heap _ _ _ _ _ _ G0.out) Tryd.underlying23 rfl (by rw [hc]; exact size_32)) rfl ⟨rfl, by rw [HB.out]; exact below_setRow hbr (by omega) _⟩
end Go.Proofs.YtcifnfffoiiceaaDoor
