/-
  The walk of HashCuts.
-/
import Derived.Test.YtcifnfffoiiceaaDoorWidthN
import Derived.Test.YtcifnfffoiiceaaDoorParts
import Derived.Test.YtcifnfffoiiceaaDoorAwake2
import Derived.Test.YtcifnfffoiiceaaDoorEqlA
import Derived.Test.YtcifnfffoiiceaaDoorHeldSeq
import Derived.Test.YtcifnfffoiiceaaDoorSliceI
import Derived.BigQuiet
namespace Go.Proofs.YtcifnfffoiiceaaDoor
open Go.RowKit
set_option linter.unusedVariables false
set_option pp.deepTerms true
set_option pp.maxSteps 1000000

theorem slice_cut {w : World} {g o n cap q : Nat} {L : List Nat} (hn : L.length = n) (hq : q ≤ n) (h1 : n ≤ cap) (h2 : cap ≤ maxLen) (hc : ∀ (j x : Nat), L[j]? = some x → w.cell? ⟨g, o + j, none⟩ = some (u8c x)) : SliceOf u8c w (.slice (some ⟨g, o, none⟩) q cap) (L.take q) :=
  ⟨some ⟨g, o, none⟩, cap, by rw [List.length_take, hn, Nat.min_eq_left hq], by rw [List.length_take, hn, Nat.min_eq_left hq]; omega, h2, (fun e => by cases e), .inr ⟨g, o, rfl, fun j x hj => by
    rw [List.getElem?_take] at hj
    split at hj
    · exact hc j x hj
    · cases hj⟩⟩
theorem range_keep2 {w w' : World} {b : Nat} {C : List Value} (h : w.rangeAt b 0 C) (q : Below w.heap.size w w') : w'.rangeAt b 0 C := fun j v hv => by
  have hc := h j v hv
  exact (q.cell (p := ⟨b, 0 + j, none⟩) (World.block_lt_of_cell? w _ hc)).trans hc
theorem cells_of {w : World} {g o n cap : Nat} {L : List Nat} (h : SliceOf u8c w (.slice (some ⟨g, o, none⟩) n cap) L) : ∀ (j y : Nat), L[j]? = some y → w.cell? ⟨g, o + j, none⟩ = some (u8c y) := by
  obtain ⟨a, c, e, _, _, _, h3⟩ := h
  cases e
  intro j y hj
  rcases h3 with rfl | ⟨b, off, ha, hc⟩
  · simp at hj
  · cases ha
    exact hc j y hj
set_option maxRecDepth 8000 in
set_option maxHeartbeats 4000000 in
theorem walkHashCuts (w : World) (D : DoorAt w) {wd : Int} {v vc : Value} {T : List Nat} {cu : List Int} (w0 : (Lit.int .i64 wd).wf = true) (sT : SliceOf u8c w v T) (bT : Bytes T) (lT : T.length ≤ 140737488351232) (sC : IntsOf w vc cu) (yC : Ints cu) :
    Calls Tryd.prog 7 #[.int .i64 wd, v, vc] w fun e w' => e = .returned (.bool true) ∧ Below w.heap.size w w' := by
  have ST := Lib.hid sT
  have HD := Lib.hid D
  have HBT := Lib.hid bT
  have YC := Lib.hid yC
  have hb1 := D.1
  obtain ⟨aT, capT, rfl, _⟩ := sT
  obtain ⟨ac, cc, rfl, c1, c2, c3, c4⟩ := sC.form
  have C3 := Lib.hid c3
  have C4 := Lib.hid c4
  clear c3 c4 sC yC bT D w0
  by_cases hl : 3000 < T.length
  · have hli : decide ((3000 : Int) < (T.length : Int)) = true := decide_eq_true (by omega)
    have hln : decide (3000 < T.length) = true := decide_eq_true hl
    go_enter Tryd.func7, Tryd.ntmps7
    go_wp2
    go_ret
    exact ⟨rfl, Below.refl _ _⟩
  · have hli : decide ((3000 : Int) < (T.length : Int)) = false := decide_eq_false (by omega)
    have hln : decide (3000 < T.length) = false := decide_eq_false hl
    by_cases hk : 100 < cu.length
    · have hki : decide ((100 : Int) < (cu.length : Int)) = true := decide_eq_true (by omega)
      have hkn : decide (100 < cu.length) = true := decide_eq_true hk
      go_enter Tryd.func7, Tryd.ntmps7
      go_wp2
      go_ret
      exact ⟨rfl, Below.refl _ _⟩
    · have hki : decide ((100 : Int) < (cu.length : Int)) = false := decide_eq_false (by omega)
      have hkn : decide (100 < cu.length) = false := decide_eq_false hk
      have HL : Hid (T.length ≤ 3000) := Lib.hid (by omega)
      have HK : Hid (cu.length ≤ 100) := Lib.hid (by omega)
      have NW := Lib.hid (New_any wd w HD.out)
      clear lT hl hk
      go_enter Tryd.func7, Tryd.ntmps7
      go_wp2_with fail
      refine NW.out.mono ?_
      rintro e w1 ⟨hb, rfl, hbl, hh1, q1⟩
      have R1 := Lib.hid (row2_any w1 (ST.out.below q1) (by have := HL.out; omega))
      have HH1 := Lib.hid hh1
      have HBL := Lib.hid hbl
      have Q1 := Lib.hid q1
      have HLT := Lib.hid hh1.lt
      clear hh1 q1 NW hbl
      go_wp2_with fail
      refine R1.out.mono ?_
      rintro e w2 ⟨vR, rfl, rR, q2⟩
      obtain ⟨gr, cR, rfl, r1, r2, _⟩ := rR.form
      have sR : SliceOf u8c w2 (.slice (some ⟨gr, 0, none⟩) T.length cR) T := rR.slice
      have grl := rR.block gr rfl
      have hh2 : HashAt w2 hb wd [] := HH1.out.of_heap (q2.block _ HLT.out)
      have b2 : Below w.heap.size w w2 := Q1.out.trans (q2.mono Q1.out.size)
      have B2 := Lib.hid b2
      have hne : hb ≠ gr := by have := HLT.out; omega
      have hbz : hb < w2.heap.size := by have := HLT.out; have := q2.size; omega
      have P0 : PartsOwn w2.heap.size (fun b => b = gr) w2 (.slice none 0 0) [] [] := PartsOwn.nil (fun b e => by subst e; exact grl.2)
      clear q2 rR R1 b2
      have HGR := Lib.hid grl
      have HBW : Hid (w.heap.size ≤ hb) := Lib.hid HBL.out
      have hb2 : 1 < hb := by have := HBL.out; omega
      have wz : w.heap.size ≤ w2.heap.size := B2.out.size
      generalize hZ : w2.heap.size = Z at *
      have HZ := Lib.hid hZ
      clear hZ
      go_wp2_with fail
      go_loopw [7, 9, 10] (fun vp vr i wr => ∃ (k p : Nat) (vs : List Value) (Ls : List (List Nat)) (o c : Nat), k ≤ cu.length ∧ p ≤ T.length ∧ i = .int .i64 (k : Int) ∧ PartsOwn Z (fun b => b = gr) wr vp vs Ls ∧ vs.length = k ∧ Ls.flatten = T.take p ∧ vr = .slice (some ⟨gr, o, none⟩) (T.length - p) c ∧ SliceOf u8c wr (.slice (some ⟨gr, o, none⟩) (T.length - p) c) (T.drop p) ∧ T.length - p + 1 ≤ c ∧ HashAt wr hb wd (T.take p) ∧ Below w.heap.size w wr ∧ Z ≤ wr.heap.size) (fun _ _ i _ => cu.length - (intOf i).toNat)
      case atStart => exact ⟨0, 0, [], [], 0, cR, by omega, by omega, rfl, P0, rfl, rfl, rfl, sR, r1, hh2, B2.out, by have := HZ.out; omega⟩
      case round =>
        obtain ⟨k, p, vs, Ls, o, c, hk, hp, rfl, PO, hvs, hfl, rfl, sv, mc1, hh, bw, zw⟩ := hrel
        clear P0 sR hh2
        by_cases hlt : k < cu.length
        · obtain ⟨x, hx⟩ : ∃ x, cu[k]? = some x := ⟨cu[k], List.getElem?_eq_getElem hlt⟩
          obtain ⟨bc, oc, rfl⟩ := C3.out k x hx
          have cW := C4.out bc oc rfl k x hx
          have cx := (bw.cell (p := ⟨bc, oc + k, none⟩) (World.block_lt_of_cell? w _ cW)).trans cW
          have xb := YC.out x (List.mem_of_getElem? hx)
          have mi : T.length - p ≤ 3000 := by have := HL.out; omega
          obtain ⟨m, hm⟩ : ∃ m, T.length - p = m := ⟨_, rfl⟩
          have sf := sv
          obtain ⟨_, _, se, s1, s2, _, _⟩ := sf
          rw [List.length_drop, hm] at s1 se
          cases se
          rw [hm] at sv mi mc1 ⊢
          have ki : (k : Int) < (cu.length : Int) := by omega
          have k0 : (0 : Int) ≤ (k : Int) := by omega
          have mii : (m : Int) ≤ 3000 := by omega
          have mc : (m : Int) ≤ (c : Int) := by omega
          have HSV := Lib.hid sv
          have HPO := Lib.hid PO
          have HHH := Lib.hid hh
          have HBWr := Lib.hid bw
          clear sv PO hh bw cW hx
          have mc2 : m + 1 ≤ c := mc1
          have tb : x.tmod ((m : Int) + 1) < (m : Int) + 1 := Int.tmod_lt_of_pos _ (by omega)
          obtain ⟨r, hr⟩ : ∃ r, x.tmod ((m : Int) + 1) = r := ⟨_, rfl⟩
          rw [hr] at tb
          by_cases r0 : r < 0
          · have qm0 : 0 ≤ m := by omega
            clear tb
            have AL : Below wr.heap.size wr (wr.alloc (.cells #[.slice (some ⟨gr, o, none⟩) 0 c] 29 (0, 0))) := (Below.refl _ _).alloc (Nat.le_refl _) _
            have PA := HPO.out.below zw AL
            have cg : ∀ (j y : Nat), (T.drop p)[j]? = some y → wr.cell? ⟨gr, o + j, none⟩ = some (u8c y) := cells_of HSV.out
            have sx : SliceOf u8c wr (.slice (some ⟨gr, o, none⟩) 0 c) ((T.drop p).take 0) := slice_cut (List.length_drop.trans hm) (by omega) (by omega) s2 cg
            have sr : SliceOf u8c wr (.slice (some ⟨gr, o + 0, none⟩) (m - 0) (c - 0)) ((T.drop p).drop 0) := slice_rest (List.length_drop.trans hm) (by omega) (by omega) s2 cg
            have SX := Lib.hid sx
            have SR := Lib.hid sr
            have SXA := Lib.hid (sx.below AL)
            have zA : Z ≤ (wr.alloc (.cells #[.slice (some ⟨gr, o, none⟩) 0 c] 29 (0, 0))).heap.size := Nat.le_trans zw AL.size
            have HPA := Lib.hid PA
            have HAL := Lib.hid AL
            have c1i : ¬ (c : Int) = (0 : Nat) := by omega
            have c1n : ¬ c = 0 := by omega
            have qm : ((0 : Nat) : Int) ≤ (m : Int) := by omega
            have qc : ((0 : Nat) : Int) ≤ (c : Int) := by omega
            have vl : vs.length ≤ 100000 := by have := HK.out; omega
            clear AL PA cg sx sr
            go_wp2_with (refine app_part (.tmp 43) (.tmp 47) rfl rfl rfl HPA.out wr.heap.size _ _ rfl (heap_alloc_new _ _) rfl SXA.out (fun b hb' => by cases hb'; rfl) zA vl ?_; intro v4 w4 P4 q4)
            have q4' : Below Z wr w4 := (HAL.out.mono zw).trans q4
            have h4 : HashAt w4 hb wd (T.take p) := HHH.out.of_heap (q4'.block _ hbz)
            have s4 := SX.out.keep q4' (fun b e => by cases e; exact HGR.out.2)
            have r4 := SR.out.keep q4' (fun b e => by cases e; exact HGR.out.2)
            have b4 : Below w.heap.size w w4 := HBWr.out.trans (q4'.mono (by omega))
            have WR := Lib.hid (Write_any h4 (HD.out.low hb1 b4) (by omega) s4 (fun e => by cases e; exact hne rfl) (fun y hy => HBT.out y (List.mem_of_mem_drop (List.mem_of_mem_take hy))) (by have := HL.out; rw [List.length_take, List.length_take, List.length_drop]; omega))
            have eT : T.take p ++ (T.drop p).take 0 = T.take (p + 0) := by rw [List.take_add]
            have eD : (T.drop p).drop 0 = T.drop (p + 0) := by rw [List.drop_drop]
            rw [eT] at WR
            have HP4 := Lib.hid P4
            have HR4 := Lib.hid r4
            have HB4 := Lib.hid b4
            have HZ4 := Lib.hid (Nat.le_trans zw q4'.size)
            have HED := Lib.hid eD
            have HET := Lib.hid eT
            clear h4 s4 r4 b4 q4' P4 q4 eT eD
            go_wp2_with (go_at_call 21; (with_reducible refine WR.out.mono ?_); rintro e w5 ⟨⟨x5, rfl⟩, h5, t5⟩; have H5 := Lib.hid h5; have HT5 := Lib.hid t5; clear h5 t5)
            refine ⟨⟨k + 1, p + 0, vs ++ [_], Ls ++ [_], o + 0, c - 0, by omega, by omega, by go_num, HP4.out.touch HT5.out hbz (fun e => hne e), by rw [List.length_append, hvs]; rfl, ?_, ?_, ?_, by omega, H5.out, HB4.out.trans (HT5.out.below HB4.out.size HBW.out), Nat.le_trans HZ4.out HT5.out.size⟩, ?_⟩
            · rw [List.flatten_append, hfl, ← HET.out]
              simp
            · rw [show T.length - (p + 0) = m - 0 by omega]
              first | rfl | simp
            · rw [show T.length - (p + 0) = m - 0 by omega, ← HED.out]
              exact HR4.out.touch HT5.out (fun e => by cases e; exact hne rfl)
            · simp [intOf]
              omega
          · obtain ⟨q, rfl⟩ : ∃ q : Nat, r = (q : Int) := ⟨r.toNat, by omega⟩
            have qm0 : q ≤ m := by omega
            have r0' : ¬ ((q : Int) < 0) := r0
            clear tb
            have AL : Below wr.heap.size wr (wr.alloc (.cells #[.slice (some ⟨gr, o, none⟩) q c] 29 (0, 0))) := (Below.refl _ _).alloc (Nat.le_refl _) _
            have PA := HPO.out.below zw AL
            have cg : ∀ (j y : Nat), (T.drop p)[j]? = some y → wr.cell? ⟨gr, o + j, none⟩ = some (u8c y) := cells_of HSV.out
            have sx : SliceOf u8c wr (.slice (some ⟨gr, o, none⟩) q c) ((T.drop p).take q) := slice_cut (List.length_drop.trans hm) (by omega) (by omega) s2 cg
            have sr : SliceOf u8c wr (.slice (some ⟨gr, o + q, none⟩) (m - q) (c - q)) ((T.drop p).drop q) := slice_rest (List.length_drop.trans hm) (by omega) (by omega) s2 cg
            have SX := Lib.hid sx
            have SR := Lib.hid sr
            have SXA := Lib.hid (sx.below AL)
            have zA : Z ≤ (wr.alloc (.cells #[.slice (some ⟨gr, o, none⟩) q c] 29 (0, 0))).heap.size := Nat.le_trans zw AL.size
            have HPA := Lib.hid PA
            have HAL := Lib.hid AL
            have c1i : ¬ (c : Int) = (q : Nat) := by omega
            have c1n : ¬ c = q := by omega
            have qm : ((q : Nat) : Int) ≤ (m : Int) := by omega
            have qc : ((q : Nat) : Int) ≤ (c : Int) := by omega
            have vl : vs.length ≤ 100000 := by have := HK.out; omega
            clear AL PA cg sx sr
            go_wp2_with (refine app_part (.tmp 43) (.tmp 47) rfl rfl rfl HPA.out wr.heap.size _ _ rfl (heap_alloc_new _ _) rfl SXA.out (fun b hb' => by cases hb'; rfl) zA vl ?_; intro v4 w4 P4 q4)
            have q4' : Below Z wr w4 := (HAL.out.mono zw).trans q4
            have h4 : HashAt w4 hb wd (T.take p) := HHH.out.of_heap (q4'.block _ hbz)
            have s4 := SX.out.keep q4' (fun b e => by cases e; exact HGR.out.2)
            have r4 := SR.out.keep q4' (fun b e => by cases e; exact HGR.out.2)
            have b4 : Below w.heap.size w w4 := HBWr.out.trans (q4'.mono (by omega))
            have WR := Lib.hid (Write_any h4 (HD.out.low hb1 b4) (by omega) s4 (fun e => by cases e; exact hne rfl) (fun y hy => HBT.out y (List.mem_of_mem_drop (List.mem_of_mem_take hy))) (by have := HL.out; rw [List.length_take, List.length_take, List.length_drop]; omega))
            have eT : T.take p ++ (T.drop p).take q = T.take (p + q) := by rw [List.take_add]
            have eD : (T.drop p).drop q = T.drop (p + q) := by rw [List.drop_drop]
            rw [eT] at WR
            have HP4 := Lib.hid P4
            have HR4 := Lib.hid r4
            have HB4 := Lib.hid b4
            have HZ4 := Lib.hid (Nat.le_trans zw q4'.size)
            have HED := Lib.hid eD
            have HET := Lib.hid eT
            clear h4 s4 r4 b4 q4' P4 q4 eT eD
            go_wp2_with (go_at_call 21; (with_reducible refine WR.out.mono ?_); rintro e w5 ⟨⟨x5, rfl⟩, h5, t5⟩; have H5 := Lib.hid h5; have HT5 := Lib.hid t5; clear h5 t5)
            refine ⟨⟨k + 1, p + q, vs ++ [_], Ls ++ [_], o + q, c - q, by omega, by omega, by go_num, HP4.out.touch HT5.out hbz (fun e => hne e), by rw [List.length_append, hvs]; rfl, ?_, ?_, ?_, by omega, H5.out, HB4.out.trans (HT5.out.below HB4.out.size HBW.out), Nat.le_trans HZ4.out HT5.out.size⟩, ?_⟩
            · rw [List.flatten_append, hfl, ← HET.out]
              simp
            · rw [show T.length - (p + q) = m - q by omega]
            · rw [show T.length - (p + q) = m - q by omega, ← HED.out]
              exact HR4.out.touch HT5.out (fun e => by cases e; exact hne rfl)
            · simp [intOf]
              omega
        · obtain rfl : k = cu.length := by omega
          obtain ⟨m, hm⟩ : ∃ m, T.length - p = m := ⟨_, rfl⟩
          have vl : vs.length ≤ 100000 := by have := HK.out; omega
          have AL : Below wr.heap.size wr (wr.alloc (.cells #[.slice (some ⟨gr, o, none⟩) m c] 29 (0, 0))) := (Below.refl _ _).alloc (Nat.le_refl _) _
          rw [hm] at sv ⊢
          have HPA := Lib.hid (PO.below zw AL)
          have SXA := Lib.hid (sv.below AL)
          have zA : Z ≤ (wr.alloc (.cells #[.slice (some ⟨gr, o, none⟩) m c] 29 (0, 0))).heap.size := Nat.le_trans zw AL.size
          have HAL := Lib.hid AL
          have HSV := Lib.hid sv
          have HHH := Lib.hid hh
          have HBWr := Lib.hid bw
          have mi : m ≤ 3000 := by have := HL.out; omega
          clear AL sv PO hh bw hm
          go_wp2_with (refine app_part (.tmp 57) (.tmp 59) rfl rfl rfl HPA.out wr.heap.size _ _ rfl (heap_alloc_new _ _) rfl SXA.out (fun b hb' => by cases hb'; rfl) zA vl ?_; intro v4 w4 P4 q4)
          have q4' : Below Z wr w4 := (HAL.out.mono zw).trans q4
          have h4 : HashAt w4 hb wd (T.take p) := HHH.out.of_heap (q4'.block _ hbz)
          have s4 := HSV.out.keep q4' (fun b e => by cases e; exact HGR.out.2)
          have b4 : Below w.heap.size w w4 := HBWr.out.trans (q4'.mono (by omega))
          have WR := Lib.hid (Write_any h4 (HD.out.low hb1 b4) (by omega) s4 (fun e => by cases e; exact hne rfl) (fun y hy => HBT.out y (List.mem_of_mem_drop hy)) (by have := HL.out; rw [List.length_take, List.length_drop]; omega))
          rw [List.take_append_drop] at WR
          have HP4 := Lib.hid P4
          have HB4 := Lib.hid b4
          have HZ4 := Lib.hid (Nat.le_trans zw q4'.size)
          have HF4 : Hid ((Ls ++ [T.drop p]).flatten = T) := Lib.hid (by rw [List.flatten_append, hfl]; simp)
          have HVL : Hid ((vs ++ [Value.slice (some ⟨gr, o, none⟩) m c]).length ≤ 200) := Lib.hid (by rw [List.length_append, hvs]; simp; have := HK.out; omega)
          clear h4 s4 b4 q4' P4 q4 HPA SXA HAL HSV HHH HBWr zA hfl
          go_wp2_with (go_at_call 21; (with_reducible refine WR.out.mono ?_); rintro e w5 ⟨⟨x5, rfl⟩, h5, t5⟩; have H5 := Lib.hid h5; have HT5 := Lib.hid t5; have B5 := Lib.hid (HB4.out.trans (t5.below HB4.out.size HBW.out)); have RW := Lib.hid (row2_any w5 (ST.out.below B5.out) (by have := HL.out; omega)); clear h5 t5)
          refine RW.out.mono ?_
          rintro e w6 ⟨v6, rfl, r6, q6⟩
          obtain ⟨g6, k6, rfl, _, _, _⟩ := r6.form
          have B6 := Lib.hid (B5.out.trans (q6.mono B5.out.size))
          have S6 := Lib.hid (sum_one' wd r6.slice (fun b hb => (r6.block b hb).2) HBT.out (by have := HL.out; omega) (HD.out.low hb1 B6.out))
          have P5 := HP4.out.touch HT5.out hbz (fun e => hne e)
          have z5 : Z ≤ w5.heap.size := Nat.le_trans HZ4.out HT5.out.size
          have P6 := Lib.hid (P5.below z5 q6)
          have z6 : Z ≤ w6.heap.size := Nat.le_trans z5 q6.size
          have H6 := Lib.hid (H5.out.of_heap (q6.block _ (by omega)))
          clear P5 q6 r6 RW z5 HP4 HT5 H5 B5 HZ4 HB4
          go_wp2_with fail
          refine S6.out.mono ?_
          rintro e w7 ⟨rfl, q7⟩
          have B7 := Lib.hid (B6.out.trans (q7.mono B6.out.size))
          have P7 := Lib.hid (P6.out.below z6 q7)
          have z7 : Z ≤ w7.heap.size := Nat.le_trans z6 q7.size
          have H7 := Lib.hid (H6.out.of_heap (q7.block _ (by omega)))
          obtain ⟨H, hH⟩ : ∃ H, sumN wd T = H := ⟨_, rfl⟩
          have LH := sum_len wd T
          rw [hH] at LH ⊢
          have HHS := Lib.hid hH
          have HLN := Lib.hid LH
          clear q7 P6 H6 B6 S6 hH LH z6
          go_wp2_with (refine wpList_store_row rfl 23 _ _ rfl w7.heap.size (cellsOf' u8c H) rfl rfl 23 _ (heap_alloc_new _ _) (hc_all HLN.out) (hold32 HLN.out) (co_one u8c_one) ?_; rw [setRow_alloc])
          have n8 := heap_alloc_new w7 (.cells (cellsOf' u8c H) 23 (0, 0))
          have q8 : Below w7.heap.size w7 (w7.alloc (.cells (cellsOf' u8c H) 23 (0, 0))) := (Below.refl _ _).alloc (Nat.le_refl _) _
          generalize w7.alloc (.cells (cellsOf' u8c H) 23 (0, 0)) = w8 at *
          have B8 := Lib.hid (B7.out.trans (q8.mono B7.out.size))
          have P8 := Lib.hid (P7.out.below z7 q8)
          have z8 : Z ≤ w8.heap.size := Nat.le_trans z7 q8.size
          have H8 := Lib.hid (H7.out.of_heap (q8.block _ (by omega)))
          obtain ⟨r12, hr12⟩ : ∃ r, w7.heap.size = r := ⟨_, rfl⟩
          rw [hr12] at n8 ⊢
          have rng : w8.drew.rangeAt r12 0 (H.map u8c) := (World.rangeAt_drew _ _ _ _).2 (row_range (cur := H.map u8c) n8 (fun j v hj => by rw [Nat.zero_add]; exact hj))
          have zs : (Tryd.prog.info? 23).map (·.size) = some (H.map u8c).length := by rw [List.length_map, HLN.out]; exact size_32
          have EQ : ∀ w, (Op.equalIn 10000 23 (.agg (cellsOf' u8c H)) (.agg (cellsOf' u8c H))).run Tryd.prog w = .ok true w := fun w => by rw [run_eql_h w HLN.out HLN.out, decide_eq_true rfl]
          have EG := guard_h
          have T1 : w8.drew.rangeAt r12 0 (H.map u8c) ∧ Below w8.heap.size w8 w8.drew := ⟨rng, (Below.refl _ _).drew⟩
          have HB2 : Hid (∀ w', Below w8.heap.size w8 w' → Below w.heap.size w w') := Lib.hid fun w' q => B8.out.trans (q.mono B8.out.size)
          have HH2 : Hid (∀ w', Below w8.heap.size w8 w' → HashAt w' hb wd T) := Lib.hid fun w' q => H8.out.of_heap (q.block _ H8.out.lt)
          have SM : Calls Tryd.prog 17 #[.int .i64 wd, v4] w8.drew fun e w' => e = .returned (.agg (cellsOf' u8c H)) ∧ Below w8.drew.heap.size w8.drew w' := by
            have := hashSum_any (wd := wd) ((P8.out.below z8 (Below.refl _ _).drew).at z8) (fun L hL => by
              have hs : ∀ y ∈ (Ls ++ [T.drop p]).flatten, y < 256 := by rw [HF4.out]; exact HBT.out
              exact fun y hy => hs y (List.mem_flatten.2 ⟨L, hL, hy⟩)) (HD.out.low hb1 (HB2.out _ (Below.refl _ _).drew)) (by rw [HF4.out]; have := HL.out; omega) (by have := HVL.out; omega)
            rw [HF4.out, HHS.out] at this
            exact this
          have HSM := Lib.hid SM
          have ti : (T.length : Int) ≤ 3000 := by have := HL.out; omega
          clear SM n8 q8 P7 H7 B7 z7 rng hr12
          go_wp2_with fail
          refine wp_region_held (S := fun w' => w'.rangeAt r12 0 (H.map u8c) ∧ Below w8.heap.size w8 w') (by kernel_rfl) ?_
          change wpAnyH _ _ _ _ _ _ _ _ (World.drew _)
          refine anyH_take (i := 0) (d := 69) (v := .int .i64 wd) rfl rfl (by kernel_rfl) (by kernel_rfl) (by kernel_rfl) (fun _ _ _ h => h) (Or.inl ⟨by rfl, fun w _ => by go_simp⟩) T1 ?_
          refine anyH_take (i := 1) (d := 70) (v := v4) rfl rfl (by kernel_rfl) (by kernel_rfl) (by kernel_rfl) (fun _ _ _ h => h) (Or.inl ⟨by rfl, fun w _ => by go_simp⟩) T1 ?_
          refine anyH_take (i := 3) (d := 72) (v := .agg (cellsOf' u8c H)) rfl rfl (by kernel_rfl) (by kernel_rfl) (by kernel_rfl) (fun _ _ _ h => h) (yieldsIf_load_mid (by rfl) 23 (.tmp 12) rfl r12 0 (by kernel_rfl) (H.map u8c) _ (fun w h => h.1) Tryd.underlying23 rfl zs) T1 ?_
          refine anyH_one (i := 2) (by kernel_rfl) rfl ?_
          go_wp2_with (go_at_call 17; (with_reducible refine HSM.out.mono ?_); rintro e wA ⟨rfl, qA⟩)
          have T2 : wA.rangeAt r12 0 (H.map u8c) ∧ Below w8.heap.size w8 wA := ⟨range_keep2 T1.1 qA, T1.2.trans (qA.mono (Nat.le_refl _))⟩
          clear qA HSM
          refine ⟨T2, ?_⟩
          refine anyH_one (i := 4) (by kernel_rfl) rfl ?_
          go_wp2_with fail
          refine ⟨T2, ?_⟩
          refine anyH_one (i := 5) (by kernel_rfl) rfl ?_
          go_wp2_with fail
          refine ⟨T2, ?_⟩
          refine anyH_take (i := 6) (d := 75) (v := .pointer (some ⟨hb, 0, none⟩)) rfl rfl (by kernel_rfl) (by kernel_rfl) (by kernel_rfl) (fun _ _ _ h => h) (Or.inl ⟨by rfl, fun w _ => by go_simp⟩) T2 ?_
          refine anyH_take (i := 8) (d := 77) (v := .agg (cellsOf' u8c H)) rfl rfl (by kernel_rfl) (by kernel_rfl) (by kernel_rfl) (fun _ _ _ h => h) (yieldsIf_load_mid (by rfl) 23 (.tmp 12) rfl r12 0 (by kernel_rfl) (H.map u8c) _ (fun w h => h.1) Tryd.underlying23 rfl zs) T2 ?_
          have SB := HSum_any (HH2.out _ T2.2) (HD.out.low hb1 (HB2.out _ T2.2)) (by have := HL.out; omega)
          rw [HHS.out] at SB
          have HSB := Lib.hid SB
          clear SB
          refine anyH_one (i := 7) (by kernel_rfl) rfl ?_
          go_wp2_with (go_at_call 22; (with_reducible refine HSB.out.mono ?_); rintro e wB ⟨rfl, qB⟩)
          have T3 : wB.rangeAt r12 0 (H.map u8c) ∧ Below w8.heap.size w8 wB := ⟨range_keep2 T2.1 qB, T2.2.trans (qB.mono T2.2.size)⟩
          clear qB HSB T2
          refine ⟨T3, ?_⟩
          refine anyH_one (i := 9) (by kernel_rfl) rfl ?_
          go_wp2_with fail
          refine ⟨T3, ?_⟩
          refine anyH_one (i := 10) (by kernel_rfl) rfl ?_
          go_wp2_with fail
          refine ⟨T3, ?_⟩
          refine anyH_one (i := 11) (by kernel_rfl) rfl ?_
          go_wp2_with fail
          refine ⟨T3, ?_⟩
          refine anyH_take (i := 12) (d := 81) (v := .pointer (some ⟨hb, 0, none⟩)) rfl rfl (by kernel_rfl) (by kernel_rfl) (by kernel_rfl) (fun _ _ _ h => h) (Or.inl ⟨by rfl, fun w _ => by go_simp⟩) T3 ?_
          refine anyH_take (i := 14) (d := 83) (v := .slice aT T.length capT) rfl rfl (by kernel_rfl) (by kernel_rfl) (by kernel_rfl) (fun _ _ _ h => h) (Or.inl ⟨by rfl, fun w _ => by go_simp⟩) T3 ?_
          have LE := Lib.hid (Len_any (HH2.out _ T3.2))
          have uw : IntKind.u64.wrap (T.length : Int) = (T.length : Int) := by rw [wrap_u64]; omega
          refine anyH_take (i := 15) (d := 84) (v := .int .i64 (T.length : Int)) rfl rfl (by kernel_rfl) (by kernel_rfl) (by kernel_rfl) (fun _ _ _ h => h) (Or.inl ⟨by rfl, fun w _ => by go_simp⟩) T3 ?_
          refine anyH_take (i := 16) (d := 85) (v := .int .u64 (T.length : Int)) rfl rfl (by kernel_rfl) (by kernel_rfl) (by kernel_rfl) (fun _ _ _ h => h) (Or.inl ⟨by rfl, fun w _ => by go_simp⟩) T3 ?_
          refine anyH_one (i := 13) (by kernel_rfl) rfl ?_
          go_wp2_with (go_at_call 23; (with_reducible refine LE.out.mono ?_); rintro e w' ⟨rfl, rfl⟩)
          refine ⟨T3, ?_⟩
          refine anyH_one (i := 17) (by kernel_rfl) rfl ?_
          go_wp2_with fail
          refine ⟨T3, ?_⟩
          refine anyH_one (i := 18) (by kernel_rfl) rfl ?_
          go_wp2_with fail
          refine ⟨T3, ?_⟩
          refine anyH_one (i := 19) (by kernel_rfl) rfl ?_
          go_wp2_with fail
          refine ⟨T3, ?_⟩
          clear uw
          have AW := Lib.hid (awake2_any (HD.out.low hb1 (HB2.out _ T3.2)))
          refine anyH_one (i := 20) (by kernel_rfl) rfl ?_
          go_wp2_with (go_at_call 14; (with_reducible refine AW.out.mono ?_); rintro e wK ⟨rfl, qK⟩)
          have T5 : wK.rangeAt r12 0 (H.map u8c) ∧ Below w8.heap.size w8 wK := ⟨range_keep2 T3.1 qK, T3.2.trans (qK.mono T3.2.size)⟩
          refine ⟨T5, ?_⟩
          refine anyH_one (i := 21) (by kernel_rfl) rfl ?_
          go_wp2_with fail
          refine ⟨T5, ?_⟩
          refine anyH_one (i := 22) (by kernel_rfl) rfl ?_
          go_wp2_with fail
          refine ⟨T5, wpAnyH_done (by kernel_rfl) ?_ _⟩
          go_wp2_with fail
          go_ret
          exact ⟨rfl, HB2.out _ T5.2⟩
end Go.Proofs.YtcifnfffoiiceaaDoor
