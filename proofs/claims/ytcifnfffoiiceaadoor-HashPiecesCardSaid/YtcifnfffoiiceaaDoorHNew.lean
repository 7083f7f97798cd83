/-
  The walks of New, Clone, Len, tail.
-/
import Derived.Test.YtcifnfffoiiceaaDoorHasher
import Derived.Test.YtcifnfffoiiceaaDoorCompProg
import Derived.Test.YtcifnfffoiiceaaDoorCut2
import Derived.Test.YtcifnfffoiiceaaDoorApp
namespace Go.Proofs.YtcifnfffoiiceaaDoor
open Go.RowKit
set_option linter.unusedVariables false
set_option pp.deepTerms true
set_option pp.maxSteps 1000000

theorem fold_h (wd : Int) {st : List Nat} (h : st.length = 32) : Array.foldl (fun cs x => cs.setIfInBounds (1 + x.snd) x.fst) (Tryd.zeroCells83.setIfInBounds 0 (Value.int IntKind.i64 wd)) (cellsOf' u8c st).zipIdx 0 32 = (hCells wd st (List.replicate 64 0) 0).toArray := by
  match st, h with
  | [c0, c1, c2, c3, c4, c5, c6, c7, c8, c9, c10, c11, c12, c13, c14, c15, c16, c17, c18, c19, c20, c21, c22, c23, c24, c25, c26, c27, c28, c29, c30, c31], _ =>
    show _ = _
    kernel_rfl
theorem cell_first {w : World} (h : DoorAt w) : w.rangeAt 1 0 (firstN.map u8c) := fun j v hv => by
  obtain ⟨c, hc, rfl⟩ := Option.map_eq_some_iff.1 (by rw [List.getElem?_map] at hv; exact hv)
  rw [Nat.zero_add]
  exact h.2.2 j c hc
theorem zero64 : List.replicate 64 0 = List.replicate 64 (0 : Nat) := rfl
theorem New_any (wd : Int) (W : World) (D : DoorAt W) :
    Calls Tryd.prog 20 #[.int .i64 wd] W fun e w' => ∃ g, e = .returned (.pointer (some ⟨g, 0, none⟩)) ∧ W.heap.size ≤ g ∧ HashAt w' g wd [] ∧ Below W.heap.size W w' := by
  have CF := cell_first D
  have HCF := Lib.hid CF
  have CO := Lib.hid (cut_any (w := wd) (l := firstN) first_len)
  have bl := begin_len wd
  obtain ⟨st, hst⟩ : ∃ st, beginN wd = st := ⟨_, rfl⟩
  have hst2 : cutL wd firstN = st := by rw [← hst]; unfold beginN; rfl
  rw [hst2] at CO
  rw [hst] at bl
  have hs : (cellsOf' u8c st).size = 32 := by rw [co_size, bl]
  have FH := Lib.hid (fold_h wd bl)
  have HST := Lib.hid hst
  clear hst hst2 CF D
  go_enter Tryd.func20, Tryd.ntmps20
  go_wp2_with (first | (refine wpList_load_mid rfl 23 _ rfl 1 0 rfl (firstN.map u8c) _ HCF.out Tryd.underlying23 rfl (by rw [List.length_map, first_len]; exact size_32) ?_) | (go_at_call 47; refine (CO.out _).mono ?_; rintro e w1 ⟨rfl, q1⟩))
  rw [FH.out]
  go_ret
  refine ⟨_, rfl, q1.size, ⟨fun c hc => (by cases hc), List.replicate 64 0, rest_zero, ?_⟩, q1.alloc q1.size _⟩
  rw [heap_alloc_new, show stateN wd [] (([] : List Nat).length / 64) = st from (state_zero wd []).trans HST.out]
  rfl
theorem zero_size : Tryd.zeroCells83.size = 98 := by kernel_rfl
theorem hold_h {L : List Value} (h : L.length = 98) : Tryd.zeroCells83.size = L.toArray.size := by rw [zero_size, List.size_toArray, h]
theorem info_h {L : List Value} (h : L.length = 98) : (Tryd.prog.info? 83).map (·.size) = some L.toArray.size := by rw [List.size_toArray, h]; exact size_h
theorem Clone_any {W : World} {g : Nat} {wd : Int} {T : List Nat} (H : HashAt W g wd T) :
    Calls Tryd.prog 24 #[.pointer (some ⟨g, 0, none⟩)] W fun e w' => e = .returned (.pointer (some ⟨W.heap.size, 0, none⟩)) ∧ HashAt w' W.heap.size wd T ∧ Below W.heap.size W w' := by
  obtain ⟨bT, R, hR, hh⟩ := H
  have hs := hc_len (wd := wd) (n := T.length) (state_len wd T (T.length / 64)) hR.len
  have ho := hc_one (wd := wd) (st := stateN wd T (T.length / 64)) (R := R) (n := T.length)
  have HR := Lib.hid hR
  have HF : Hid (∀ w' : World, w'.heap[W.heap.size]? = some (.cells (hCells wd (stateN wd T (T.length / 64)) R T.length).toArray 83 (0, 0)) → HashAt w' W.heap.size wd T) := Lib.hid fun w' h => ⟨bT, R, hR, h⟩
  obtain ⟨L, hL⟩ : ∃ L, hCells wd (stateN wd T (T.length / 64)) R T.length = L := ⟨_, rfl⟩
  rw [hL] at hh hs ho HF
  have HH := Lib.hid hh
  have HO := Lib.hid ho
  have HS := Lib.hid hs
  clear hh hL hR bT ho hs
  go_enter Tryd.func24, Tryd.ntmps24
  go_wp2_with (first | (refine wpList_load_row rfl 83 _ rfl g rfl 83 _ (0, 0) _ HH.out Tryd.underlying83 rfl (info_h HS.out) ?_) | (refine wpList_store_row rfl 83 _ _ rfl _ _ rfl rfl 83 _ (heap_alloc_new _ _) (info_h HS.out) (hold_h HS.out) (all_oneCell_toArray HO.out) ?_))
  go_ret
  refine ⟨rfl, HF.out _ (setRow_heap _ _ _ _ _ _ (heap_alloc_new _ _)), below_setRow ((Below.refl _ _).alloc (Nat.le_refl _) _) (Nat.le_refl _) _⟩
theorem Len_any {W : World} {g : Nat} {wd : Int} {T : List Nat} (H : HashAt W g wd T) :
    Calls Tryd.prog 23 #[.pointer (some ⟨g, 0, none⟩)] W fun e w' => e = .returned (.int .u64 (T.length : Int)) ∧ w' = W := by
  obtain ⟨bT, R, hR, hh⟩ := H
  have hc : W.cell? ⟨g, 97, none⟩ = some (.int .u64 (T.length : Int)) := by
    rw [cell_of_row _ _ _ _ _ _ hh]
    simpa using hc_n (wd := wd) (n := T.length) (state_len wd T (T.length / 64)) hR.len
  clear hh bT hR
  generalize (T.length : Int) = n at *
  go_enter Tryd.func23, Tryd.ntmps23
  go_wp2
  go_ret
  exact ⟨rfl, rfl⟩
theorem tail_made (z : Nat) : (rowL (1 + z) (fun _ => 0)).set 0 (.int .u8 128) = u8s (128 :: List.replicate z 0) := by
  rw [show (128 : Int) = ((128 : Nat) : Int) from rfl, rowL_set]
  unfold rowL u8s
  apply List.ext_getElem?
  intro i
  simp only [List.getElem?_map]
  by_cases hi : i < 1 + z
  · rw [List.getElem?_range hi]
    cases i with
    | zero => simp
    | succ i => simp [show i < z by omega]
  · rw [List.getElem?_eq_none (by simpa using hi), List.getElem?_eq_none (by simp; omega)]
    rfl
theorem tail_eq (n : Nat) : tailN n = 128 :: (List.replicate ((119 - n % 64) % 64) 0 ++ bigL (8 * n) 8) := rfl
set_option maxHeartbeats 800000 in
theorem tail_any {n : Nat} (hn : n ≤ 1152921504606846976) (W : World) :
    Calls Tryd.prog 59 #[.int .u64 (n : Int)] W fun e w' => ∃ v, e = .returned v ∧ w'.ownsRow W.heap.size 5 1 v (tailN n).length (u8s (tailN n)) ∧ Below W.heap.size W w' := by
  obtain ⟨i0, hi, hz0, hz1, hz2⟩ := info_parts info_u8
  have TL := Lib.hid (tail_eq n)
  have BF0 : ∀ w : World, Calls Tryd.prog 46 #[.int .u64 (8 * (n : Int)), .int .i64 8] w fun e w' => ∃ v, e = .returned (.tuple #[v, .int .i64 0]) ∧ w'.ownsRow w.heap.size 5 1 v 8 (u8s (bigL (8 * n) 8)) ∧ Below w.heap.size w w' := fun w => Big_fits (x := 8 * n) (by omega) (m := 8) (by decide) (by show 8 * n < 18446744073709551616; omega) w
  have BF := Lib.hid BF0
  obtain ⟨c, hc⟩ : ∃ c, n % 64 = c := ⟨_, rfl⟩
  have e1 : (n : Int) % 64 = (c : Int) := by omega
  obtain ⟨d, hd⟩ : ∃ d, 119 - c = d := ⟨_, rfl⟩
  have e2 : 119 - (c : Int) = (d : Int) := by omega
  obtain ⟨z, hz⟩ : ∃ z, d % 64 = z := ⟨_, rfl⟩
  have e3 : (d : Int) % 64 = (z : Int) := by omega
  have e4 : 1 + (z : Int) = ((1 + z : Nat) : Int) := by omega
  rw [hc, hd, hz] at TL
  have z63 : z ≤ 63 := by omega
  have TM := Lib.hid (tail_made z)
  obtain ⟨M, hM⟩ : ∃ M, 1 + z = M := ⟨_, rfl⟩
  rw [hM] at e4 TM
  have m64 : M ≤ 64 := by omega
  have m0 : 0 < M := by omega
  have c63 : (c : Int) ≤ 63 := by omega
  have d119 : (d : Int) ≤ 119 := by omega
  have z63i : (z : Int) ≤ 63 := by omega
  have Mi : (M : Int) ≤ 64 := by omega
  have M0i : (0 : Int) < (M : Int) := by omega
  have ni : 8 * (n : Int) ≤ 9223372036854775808 := by omega
  have n0 : (n : Int) ≤ 1152921504606846976 := by omega
  have HMz := Lib.hid hM
  clear BF0 hc hd hz hM
  generalize hB : W.heap.size = B
  have HB := Lib.hid hB
  clear hB
  go_enter Tryd.func59, Tryd.ntmps59
  go_wp2_with (at_make; refine wpList_make_full _ rfl (.tmp 10) (.tmp 10) 29 rfl B 5 i0 (.int .u8 0) 1 Tryd.underlying29 hi hz0 hz1 .u64 .u64 _ _ M rfl rfl rfl rfl ?b2 ?b3 ?b4 ?_; (case b2 => (rw [hz2]; omega)); (case b3 => (unfold maxLen; omega)); (case b4 => exact Nat.le_of_eq HB.out.symm); intro w1 hown hg; rw [rowL_made] at hown; have hcell := own_cell hown (rowL_get M _ m0); have hfree := hown.frozenAt 0; have hst := (hown.stored 0 (.int .u8 128)).1; rw [TM.out] at hst; have HST := Lib.hid hst; have qw1 : Below B W w1 := ⟨hg.os, hg.tape, hg.output, hg.size, fun k hk => hg.block k (by have := HB.out; omega) (by simp)⟩; clear hown hst hg)
  have q2 : Below B W (w1.setCell ⟨W.heap.size, 0, none⟩ (.int .u8 128)) := qw1.setCell (by have := HB.out; show B ≤ W.heap.size; omega) _
  clear qw1 hcell hfree
  generalize hw2 : w1.setCell ⟨W.heap.size, 0, none⟩ (.int .u8 128) = w2 at *
  clear hw2
  refine (BF.out _).mono ?_
  rintro e w3 ⟨v3, rfl, own3, q3⟩
  have own2 := HST.out.kept (w' := w3) (row := none) ⟨q3.os, q3.tape, q3.output, q3.size, fun k hk _ => q3.block k hk⟩ (.inr (by intro h; cases h))
  have s3 : SliceOf u8c w3 v3 (bigL (8 * n) 8) := SliceOf.of_own own3 rfl
  have z3 : B ≤ w3.heap.size := by have := q2.size; have := q3.size; have := HB.out; omega
  have qB3 : Below B W w3 := q2.trans (q3.mono (by have := q2.size; have := HB.out; omega))
  have l8 := bigL_length (8 * n) 8
  clear own3 q3 q2
  go_wp2_with (at_builtin; refine app_u8 (.tmp 20) (.tmp 21) rfl rfl B _ M _ rfl own2 v3 (bigL (8 * n) 8) rfl s3 (by omega) z3 ?_; intro v4 w4 own4 hg4; have q4 : Below B W w4 := qB3.grown hg4 z3 (fun k hk => (own2.lt k hk).1))
  go_ret
  refine ⟨_, rfl, ?_, q4⟩
  have eT : u8s (tailN n) = u8s (128 :: List.replicate z 0) ++ u8s (bigL (8 * n) 8) := by rw [TL.out, ← u8s_append, List.cons_append]
  have eL : (tailN n).length = M + (bigL (8 * n) 8).length := by rw [TL.out, List.length_cons, List.length_append, List.length_replicate, ← HMz.out]; omega
  rw [eT, eL]
  exact own4
end Go.Proofs.YtcifnfffoiiceaaDoor
