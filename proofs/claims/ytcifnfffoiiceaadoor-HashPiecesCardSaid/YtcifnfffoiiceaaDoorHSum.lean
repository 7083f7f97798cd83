/-
  The walks of a hasher's Sum and of hash.Sum.
-/
import Derived.Test.YtcifnfffoiiceaaDoorHWrite
namespace Go.Proofs.YtcifnfffoiiceaaDoor
open Go.RowKit
set_option linter.unusedVariables false
set_option pp.deepTerms true
set_option pp.maxSteps 1000000

theorem hash_range {w : World} {g : Nat} {wd : Int} {T : List Nat} (h : HashAt w g wd T) : w.rangeAt g 1 ((stateN wd T (T.length / 64)).map u8c) := by
  obtain ⟨_, R, hR, hh⟩ := h
  exact row_range hh (fun j v hj => hc_st (state_len _ _ _) hj)
theorem hash_cell {w : World} {g : Nat} {wd : Int} {T : List Nat} (h : HashAt w g wd T) : w.cell? ⟨g, 97, none⟩ = some (.int .u64 (T.length : Int)) := by
  obtain ⟨_, R, hR, hh⟩ := h
  exact heap_cell_n (state_len _ _ _) hR.len hh
theorem own_apart {w : World} {B n c : Nat} {v : Value} {xs : List Value} {t : TypeId} (h : w.ownsRow B t 1 v n xs) (hc : c < B) : v.ownBlock ≠ some c := fun e => by
  have := (h.lt c e).1
  omega
theorem hold32 {Z : List Nat} (h : Z.length = 32) : (cellsOf' u8c (List.replicate 32 0)).size = (cellsOf' u8c Z).size := by rw [co_size, co_size, h, List.length_replicate]
theorem sum_eq (wd : Int) (T : List Nat) : stateN wd (T ++ tailN T.length) ((T ++ tailN T.length).length / 64) = sumN wd T := by unfold sumN; rfl
set_option maxHeartbeats 1000000 in
theorem HSum_any {W : World} {g : Nat} {wd : Int} {T : List Nat} (H : HashAt W g wd T) (D : DoorAt W) (hl : T.length ≤ 576460752303423488) :
    Calls Tryd.prog 22 #[.pointer (some ⟨g, 0, none⟩)] W fun e w' => e = .returned (.agg (cellsOf' u8c (sumN wd T))) ∧ Below W.heap.size W w' := by
  have HH := Lib.hid H
  have HD := Lib.hid D
  have hgl := H.lt
  have hb2 := D.1
  have SL := Lib.hid (sum_len wd T)
  have tl := tail_len T.length
  have tb := tail_bytes T.length
  have HTB := Lib.hid tb
  have HTL : (tailN T.length).length ≤ 72 := by omega
  clear H D tl tb
  go_enter Tryd.func22, Tryd.ntmps22
  go_wp2_with fail
  generalize hW1 : World.alloc W _ = w1
  have G1 : Hid (w1.heap[W.heap.size]? = some (.cells (cellsOf' u8c (List.replicate 32 0)) 23 (0, 0))) := Lib.hid (by rw [← hW1, heap_alloc_new]; rfl)
  have b1 : Below W.heap.size W w1 := by rw [← hW1]; exact (Below.refl _ _).alloc (Nat.le_refl _) _
  have z1 : w1.heap.size = W.heap.size + 1 := by rw [← hW1]; simp
  have H1 : HashAt w1 g wd T := HH.out.of_heap (b1.block _ hgl)
  clear hW1
  refine (Clone_any H1).mono ?_
  rintro e w2 ⟨rfl, h2, q2⟩
  have c2 : w2.cell? ⟨g, 97, none⟩ = some (.int .u64 (T.length : Int)) := hash_cell (H1.of_heap (q2.block _ (by omega)))
  have TL := Lib.hid (tail_any (n := T.length) (by omega) w2)
  obtain ⟨n, hn⟩ : ∃ n, T.length = n := ⟨_, rfl⟩
  rw [hn] at c2 TL HTB HTL
  have G2 := Lib.hid ((q2.block _ (by omega)).trans G1.out)
  have b2 := b1.trans (q2.mono (by omega))
  have z2 := q2.size
  have H2 := Lib.hid h2
  have D2 := Lib.hid (HD.out.low hb2 b2)
  have cl2 := h2.lt
  clear H1 h2 q2
  have cW : W.heap.size < w1.heap.size := by omega
  clear z1
  generalize w1.heap.size = c at *
  go_wp2_with fail
  refine TL.out.mono ?_
  rintro e w3 ⟨v3, rfl, own3, q3⟩
  have s3 : SliceOf u8c w3 v3 (tailN n) := SliceOf.of_own own3 (u8s_eq _)
  have ap3 := own_apart own3 cl2
  have H3 := H2.out.of_heap (q3.block _ cl2)
  have D3 := D2.out.low (Z := 2) (by decide) (q3.mono (by omega))
  have G3 := Lib.hid ((q3.block _ (by omega)).trans G2.out)
  have b3 := b2.trans (q3.mono (by omega))
  have WR := Lib.hid (Write_any H3 D3 (by omega) s3 ap3 HTB.out (by omega))
  have z3 := q3.size
  clear own3 s3 ap3 H3 D3 q3
  go_wp2_with fail
  refine WR.out.mono ?_
  rintro e w4 ⟨⟨x4, rfl⟩, h4, t4⟩
  have G4 := Lib.hid ((t4.block W.heap.size (by omega) (by omega)).trans G3.out)
  have b4 : Below W.heap.size W w4 := b3.trans (t4.below (by omega) (by omega))
  have R4 := hash_range h4
  rw [← hn] at R4
  rw [sum_eq] at R4
  have R5 := Lib.hid R4
  obtain ⟨Z, hZ⟩ : ∃ Z, sumN wd T = Z := ⟨_, rfl⟩
  rw [hZ] at R5 SL
  have HZ := Lib.hid hZ
  clear hZ
  clear R4 h4 t4 c2
  go_wp2_with (first | (refine wpList_load_mid rfl 23 _ rfl c 1 rfl (Z.map u8c) _ R5.out Tryd.underlying23 rfl (by rw [List.length_map, SL.out]; exact size_32) ?_) | (refine wpList_store_row rfl 23 _ _ rfl W.heap.size (cellsOf' u8c Z) rfl rfl 23 _ G4.out (hc_all SL.out) (hold32 SL.out) (co_one u8c_one) ?_))
  refine bodyPost_ret (results_cell_row rfl _ _ W.heap.size 23 _ (0, 0) _ rfl (setRow_heap _ _ _ _ _ _ G4.out) Tryd.underlying23 rfl (hc_all SL.out)) rfl ⟨by rw [← HZ.out], below_setRow b4 (Nat.le_refl _) _⟩
theorem take_snoc' {α : Type} {l : List α} {n : Nat} {x : α} (h : l[n]? = some x) : l.take (n + 1) = l.take n ++ [x] := by rw [List.take_add_one, h]; rfl
/-- A slice of slices of bytes. -/
def PartsAt (w : World) (v : Value) (vs : List Value) (Ls : List (List Nat)) : Prop :=
  SliceOf (fun x : Value => x) w v vs ∧ vs.length = Ls.length ∧ ∀ (i : Nat) (x : Value) (L : List Nat), vs[i]? = some x → Ls[i]? = some L → SliceOf u8c w x L ∧ ∀ b, x.ownBlock = some b → b < w.heap.size
theorem PartsAt.below {w w' : World} {v : Value} {vs : List Value} {Ls : List (List Nat)} (h : PartsAt w v vs Ls) (hb : Below w.heap.size w w') : PartsAt w' v vs Ls :=
  ⟨h.1.below hb, h.2.1, fun i x L hx hL => ⟨(h.2.2 i x L hx hL).1.below hb, fun b hb' => Nat.lt_of_lt_of_le ((h.2.2 i x L hx hL).2 b hb') hb.size⟩⟩
set_option maxHeartbeats 1000000 in
theorem hashSum_any {W : World} {wd : Int} {v : Value} {vs : List Value} {Ls : List (List Nat)} (H : PartsAt W v vs Ls) (hB : ∀ L ∈ Ls, Bytes L) (D : DoorAt W) (hl : Ls.flatten.length ≤ 576460752303423488) (hn : vs.length ≤ 4611686018427387904) :
    Calls Tryd.prog 17 #[.int .i64 wd, v] W fun e w' => e = .returned (.agg (cellsOf' u8c (sumN wd Ls.flatten))) ∧ Below W.heap.size W w' := by
  have HP := Lib.hid H
  have HD := Lib.hid D
  have HB := Lib.hid hB
  have HL := Lib.hid hl
  have hb2 := D.1
  have HN := Lib.hid hn
  clear H D hB hl hn
  go_enter Tryd.func17, Tryd.ntmps17
  go_wp2_with fail
  generalize hW1 : World.alloc W _ = w1
  have G1 : Hid (w1.heap[W.heap.size]? = some (.cells (cellsOf' u8c (List.replicate 32 0)) 23 (0, 0))) := Lib.hid (by rw [← hW1, heap_alloc_new]; rfl)
  have b1 : Below W.heap.size W w1 := by rw [← hW1]; exact (Below.refl _ _).alloc (Nat.le_refl _) _
  have z1 : w1.heap.size = W.heap.size + 1 := by rw [← hW1]; simp
  have NW := Lib.hid (New_any wd w1 (HD.out.low hb2 b1))
  clear hW1
  refine NW.out.mono ?_
  rintro e w2 ⟨g, rfl, gl, h2, q2⟩
  have gW : W.heap.size < g := by omega
  have b2 : Below W.heap.size W w2 := b1.trans (q2.mono (by omega))
  have G2 := Lib.hid ((q2.block _ (by omega)).trans G1.out)
  have D2 := Lib.hid (HD.out.low hb2 b2)
  have B2 := Lib.hid b2
  obtain ⟨a, cap, rfl, c1, c2, c3, c4⟩ := HP.out.1.form
  have C3 := Lib.hid c3
  have C4 := Lib.hid c4
  have Z2 : W.heap.size + 1 ≤ w2.heap.size := by have := q2.size; omega
  have NL := Lib.hid HP.out.2.1
  obtain ⟨N, hN⟩ : ∃ N, vs.length = N := ⟨_, rfl⟩
  rw [hN] at c1 HN NL ⊢
  have HNN := Lib.hid hN
  have Ni : (N : Int) ≤ 4611686018427387904 := by have := HN.out; omega
  clear q2 b1 b2 z1 NW gl c3 c4 hN
  go_wp2_with fail
  go_loopw [12] (fun i wr => ∃ n : Nat, n ≤ N ∧ i = .int .i64 (n : Int) ∧ HashAt wr g wd (Ls.take n).flatten ∧ TouchB g w2 wr) (fun i _ => N - (intOf i).toNat)
  case atStart => exact ⟨0, by omega, rfl, h2, TouchB.refl _ _⟩
  case round =>
    obtain ⟨n, hn, rfl, hh, ht⟩ := hrel
    clear h2
    by_cases hlt : n < N
    · obtain ⟨x, hx⟩ : ∃ x, vs[n]? = some x := ⟨vs[n]'(by rw [HNN.out]; exact hlt), List.getElem?_eq_getElem _⟩
      obtain ⟨L, hL⟩ : ∃ L, Ls[n]? = some L := ⟨Ls[n]'(by rw [← NL.out]; exact hlt), List.getElem?_eq_getElem _⟩
      obtain ⟨sx, bx⟩ := HP.out.2.2 n x L hx hL
      obtain ⟨b, off, rfl⟩ := C3.out n x hx
      have cW := C4.out b off rfl n x hx
      have bW : b < W.heap.size := World.block_lt_of_cell? W _ cW
      have cx : wr.cell? ⟨b, off + n, none⟩ = some x := ht.cell ((B2.out.cell (p := ⟨b, off + n, none⟩) bW).trans cW) (by show b ≠ g; omega)
      have ap : x.ownBlock ≠ some g := fun e => by have := bx g e; omega
      have fl : (Ls.take (n + 1)).flatten = (Ls.take n).flatten ++ L := by rw [take_snoc' hL, List.flatten_append]; simp
      have ln : (Ls.take n).flatten.length + L.length ≤ 576460752303423488 := by
        have e : Ls.flatten = (Ls.take (n + 1)).flatten ++ (Ls.drop (n + 1)).flatten := by rw [← List.flatten_append, List.take_append_drop]
        have := HL.out
        rw [e, fl, List.length_append, List.length_append] at this
        omega
      have WR := Lib.hid (Write_any hh (D2.out.touch ht (by omega)) (by omega) ((sx.below B2.out).touch ht ap) ap (HB.out L (List.mem_of_getElem? hL)) (by omega))
      have FL := Lib.hid fl
      have HT := Lib.hid ht
      have ni : (n : Int) < (N : Int) := by omega
      clear hh ht sx bx cW bW ap fl ln hx hL
      go_wp2_with fail
      refine WR.out.mono ?_
      rintro e w4 ⟨⟨x4, rfl⟩, h4, t4⟩
      rw [← FL.out] at h4
      have H4 := Lib.hid h4
      clear WR h4
      go_wp2_with fail
      go_roundw
      case rel => exact ⟨n + 1, by omega, by go_num, H4.out, HT.out.trans t4⟩
      case measure => simp [intOf]; omega
    · obtain rfl : n = N := by omega
      rw [List.take_of_length_le (by rw [← NL.out]; exact Nat.le_refl _)] at hh
      have SM := Lib.hid (HSum_any hh (D2.out.touch ht (by omega)) (by have := HL.out; omega))
      have G3 := Lib.hid ((ht.block W.heap.size (by omega) (by omega)).trans G2.out)
      have b3 : Below W.heap.size W wr := B2.out.trans (ht.below (by omega) (by omega))
      have SLn := Lib.hid (sum_len wd Ls.flatten)
      obtain ⟨Z, hZ⟩ : ∃ Z, sumN wd Ls.flatten = Z := ⟨_, rfl⟩
      rw [hZ] at SM SLn
      have HZ := Lib.hid hZ
      have zr := hh.lt
      clear hh ht hZ hlt hn
      obtain ⟨w5, hw5⟩ : ∃ w, w = wr := ⟨_, rfl⟩
      subst hw5
      have G3s : W.heap.size < w5.heap.size := by omega
      go_wp2_with (first | (go_at_call 22; refine SM.out.mono ?_; rintro e w6 ⟨rfl, q6⟩; have G6 := Lib.hid ((q6.block _ G3s).trans G3.out); have b6 := b3.trans (q6.mono (Nat.le_of_lt G3s))) | (refine wpList_store_row rfl 23 _ _ rfl W.heap.size (cellsOf' u8c Z) rfl rfl 23 _ G6.out (hc_all SLn.out) (hold32 SLn.out) (co_one u8c_one) ?_))
      refine bodyPost_ret (results_cell_row rfl _ _ W.heap.size 23 _ (0, 0) _ rfl (setRow_heap _ _ _ _ _ _ G6.out) Tryd.underlying23 rfl (hc_all SLn.out)) rfl ⟨by rw [← HZ.out], below_setRow b6 (Nat.le_refl _) _⟩
end Go.Proofs.YtcifnfffoiiceaaDoor
