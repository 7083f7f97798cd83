/-
  The walk of HashTexts.
-/
import Derived.Test.YtcifnfffoiiceaaDoorKinds3
import Derived.Test.YtcifnfffoiiceaaDoorTwins
import Derived.Test.YtcifnfffoiiceaaDoorAwakeH
namespace Go.Proofs.YtcifnfffoiiceaaDoor
open Go.RowKit
set_option linter.unusedVariables false
set_option linter.unusedSimpArgs false
set_option pp.deepTerms true
set_option pp.maxSteps 1000000

/-- Two boxes stand, and nothing below is touched. -/
def Boxes2 (b7 b8 Z : Nat) (l r : List Nat) (w0 w : World) : Prop := w.rangeAt b7 0 (l.map u8c) ∧ w.rangeAt b8 0 (r.map u8c) ∧ Below Z w0 w
section
variable {b7 b8 Z : Nat} {l r : List Nat} {w0 w w' : World}
theorem Boxes2.lt (h : Boxes2 b7 b8 Z l r w0 w) (hl : l.length = 32) (hr : r.length = 32) : b7 < w.heap.size ∧ b8 < w.heap.size := by
  obtain ⟨x, hx⟩ : ∃ x, l[0]? = some x := ⟨l[0]'(by omega), List.getElem?_eq_getElem _⟩
  obtain ⟨y, hy⟩ : ∃ y, r[0]? = some y := ⟨r[0]'(by omega), List.getElem?_eq_getElem _⟩
  exact ⟨World.block_lt_of_cell? w _ (h.1 0 (u8c x) (by rw [List.getElem?_map, hx]; rfl)), World.block_lt_of_cell? w _ (h.2.1 0 (u8c y) (by rw [List.getElem?_map, hy]; rfl))⟩
theorem range_keep5 {w w' : World} {b : Nat} {C : List Value} (h : w.rangeAt b 0 C) (q : Below w.heap.size w w') : w'.rangeAt b 0 C := fun j v hv => by
  have hc := h j v hv
  exact (q.cell (p := ⟨b, 0 + j, none⟩) (World.block_lt_of_cell? w _ hc)).trans hc
theorem Boxes2.go (h : Boxes2 b7 b8 Z l r w0 w) (hZ : w0.heap.size = Z) (q : Below w.heap.size w w') : Boxes2 b7 b8 Z l r w0 w' :=
  ⟨range_keep5 h.1 q, range_keep5 h.2.1 q, h.2.2.trans (q.mono (by rw [← hZ]; exact h.2.2.size))⟩
end
theorem keep3 {w w' : World} {p1 p2 p3 : Addr} {v1 v2 v3 : Value} (q : Below w.heap.size w w') (h : w.cell? p1 = some v1 ∧ w.cell? p2 = some v2 ∧ w.cell? p3 = some v3) : w'.cell? p1 = some v1 ∧ w'.cell? p2 = some v2 ∧ w'.cell? p3 = some v3 :=
  ⟨(q.cell (World.block_lt_of_cell? w _ h.1)).trans h.1, (q.cell (World.block_lt_of_cell? w _ h.2.1)).trans h.2.1, (q.cell (World.block_lt_of_cell? w _ h.2.2)).trans h.2.2⟩
set_option maxRecDepth 16000 in
set_option maxHeartbeats 40000000 in
theorem walkHashTexts (w : World) (D : DoorAt w) {wd : Int} {vd : Value} {dt l r : List Nat} {n : Int} (w0 : (Lit.int .i64 wd).wf = true) (sD : SliceOf u8c w vd dt) (bD : Bytes dt) (lD : dt.length ≤ 140737488351232) (hl : l.length = 32) (bl : Bytes l) (hr : r.length = 32) (br : Bytes r) (w4 : (Lit.int .u64 n).wf = true) :
    Calls Tryd.prog 9 #[.int .i64 wd, vd, .agg (cellsOf' u8c l), .agg (cellsOf' u8c r), .int .u64 n] w fun e w' => e = .returned (.bool true) ∧ Below w.heap.size w w' := by
  obtain ⟨n, rfl, hn⟩ := nat_of_u64 w4
  have HN := Lib.hid hn
  have HX := Lib.hid (And.intro hl (And.intro hr (And.intro bl br)))
  have HDT := Lib.hid bD
  have cl : (cellsOf' u8c l).size = 32 := by rw [co_size, hl]
  have cr : (cellsOf' u8c r).size = 32 := by rw [co_size, hr]
  obtain ⟨wb, hwb⟩ : ∃ wb, (w.alloc (.cells (cellsOf' u8c l) 23 (0, 0))).alloc (.cells (cellsOf' u8c r) 23 (0, 0)) = wb := ⟨_, rfl⟩
  have bb : Below w.heap.size w wb := by rw [← hwb]; exact ((Below.refl _ _).alloc (Nat.le_refl _) _).alloc (by simp) _
  have e1 : (w.alloc (.cells (cellsOf' u8c l) 23 (0, 0))).heap.size = w.heap.size + 1 := by simp
  have g7 : wb.heap[w.heap.size]? = some (.cells (cellsOf' u8c l) 23 (0, 0)) := by rw [← hwb, Below.heap_alloc _ _ _ (by simp), heap_alloc_new]
  have g8 : wb.heap[w.heap.size + 1]? = some (.cells (cellsOf' u8c r) 23 (0, 0)) := by rw [← hwb, ← e1, heap_alloc_new]
  have zb : wb.heap.size = w.heap.size + 2 := by rw [← hwb]; simp
  have HSD := Lib.hid (sD.below bb)
  have HD := Lib.hid (D.below bb)
  have HWB := Lib.hid hwb
  have HBB := Lib.hid bb
  have BX := Lib.hid (show Boxes2 w.heap.size (w.heap.size + 1) wb.heap.size l r wb wb from ⟨box_range' g7, box_range' g8, Below.refl _ _⟩)
  have hb1 := D.1
  have hz1 : 1 < wb.heap.size := by omega
  obtain ⟨aD, cD, rfl, _⟩ := sD
  clear D w0 w4 hn bD lD hl bl hr br hwb bb e1 g7 g8
  by_cases hlen : 3000 < dt.length
  · have hli : decide ((3000 : Int) < (dt.length : Int)) = true := decide_eq_true (by omega)
    have hln : decide (3000 < dt.length) = true := decide_eq_true hlen
    clear zb hz1
    go_enter Tryd.func9, Tryd.ntmps9
    go_wp2_with fail
    rw [HWB.out]
    go_ret
    exact ⟨rfl, HBB.out⟩
  · have hli : decide ((3000 : Int) < (dt.length : Int)) = false := decide_eq_false (by omega)
    have hln : decide (3000 < dt.length) = false := decide_eq_false hlen
    have HL : Hid (dt.length ≤ 3000) := Lib.hid (by omega)
    clear hlen
    obtain ⟨b7, hb7⟩ : ∃ b, w.heap.size = b := ⟨_, rfl⟩
    obtain ⟨Z, hZ⟩ : ∃ Z, wb.heap.size = Z := ⟨_, rfl⟩
    have HB7 := Lib.hid hb7
    have HZ := Lib.hid hZ
    rw [hb7, hZ] at BX
    rw [hZ] at hz1
    have RW := Lib.hid (row2_any wb HSD.out (by have := HL.out; omega))
    have EL : Hid (∀ w, (Op.equalIn 10000 23 (.agg (cellsOf' u8c (sumN wd (0 :: dt)))) (.agg (cellsOf' u8c (sumN wd (0 :: dt))))).run Tryd.prog w = .ok true w) := Lib.hid fun w => by rw [run_eql_h w (sum_len _ _) (sum_len _ _), decide_eq_true rfl]
    have EN : Hid (∀ w, (Op.equalIn 10000 23 (.agg (cellsOf' u8c (sumN wd (1 :: (l ++ r))))) (.agg (cellsOf' u8c (sumN wd (1 :: (l ++ r)))))).run Tryd.prog w = .ok true w) := Lib.hid fun w => by rw [run_eql_h w (sum_len _ _) (sum_len _ _), decide_eq_true rfl]
    have EF : Hid (∀ w, (Op.equalIn 10000 23 (.agg (cellsOf' u8c (sumN wd (2 :: (l ++ r))))) (.agg (cellsOf' u8c (sumN wd (2 :: (l ++ r)))))).run Tryd.prog w = .ok true w) := Lib.hid fun w => by rw [run_eql_h w (sum_len _ _) (sum_len _ _), decide_eq_true rfl]
    have ER : Hid (∀ w, (Op.equalIn 10000 23 (.agg (cellsOf' u8c (sumN wd (3 :: (bigL n 8 ++ l))))) (.agg (cellsOf' u8c (sumN wd (3 :: (bigL n 8 ++ l)))))).run Tryd.prog w = .ok true w) := Lib.hid fun w => by rw [run_eql_h w (sum_len _ _) (sum_len _ _), decide_eq_true rfl]
    have zl : (Tryd.prog.info? 23).map (·.size) = some (l.map u8c).length := by rw [List.length_map, HX.out.1]; exact size_32
    have zr : (Tryd.prog.info? 23).map (·.size) = some (r.map u8c).length := by rw [List.length_map, HX.out.2.1]; exact size_32
    clear zb hZ
    go_enter Tryd.func9, Tryd.ntmps9
    go_wp2_with fail
    rw [HWB.out]
    refine RW.out.mono ?_
    rintro e w1 ⟨v1, rfl, r1, q1⟩
    have T1 := BX.out.go HZ.out q1
    have T0 : Boxes2 b7 (b7 + 1) Z l r wb w1.drew := ⟨(World.rangeAt_drew _ _ _ _).2 T1.1, (World.rangeAt_drew _ _ _ _).2 T1.2.1, T1.2.2.drew⟩
    have R0 : RowAt wb.heap.size w1.drew v1 dt := r1.below (Below.refl _ _).drew
    clear T1 q1 RW
    go_wp2_with fail
    refine wp_region_held (S := Boxes2 b7 (b7 + 1) Z l r wb) (by kernel_rfl) ?_
    change wpAnyH _ _ _ _ _ _ _ _ (World.drew _)
    refine anyH_take (i := 0) (d := 26) (v := .int .i64 wd) rfl rfl (by kernel_rfl) (by kernel_rfl) (by kernel_rfl) (fun _ _ _ h => h) (Or.inl ⟨by kernel_rfl, fun w _ => by kernel_rfl⟩) T0 ?_
    refine anyH_take (i := 1) (d := 27) (v := v1) rfl rfl (by kernel_rfl) (by kernel_rfl) (by kernel_rfl) (fun _ _ _ h => h) (Or.inl ⟨by kernel_rfl, fun w _ => by kernel_rfl⟩) T0 ?_
    refine anyH_take (i := 3) (d := 29) (v := .int .i64 wd) rfl rfl (by kernel_rfl) (by kernel_rfl) (by kernel_rfl) (fun _ _ _ h => h) (Or.inl ⟨by kernel_rfl, fun w _ => by kernel_rfl⟩) T0 ?_
    refine anyH_take (i := 4) (d := 30) (v := (.slice aD dt.length cD)) rfl rfl (by kernel_rfl) (by kernel_rfl) (by kernel_rfl) (fun _ _ _ h => h) (Or.inl ⟨by kernel_rfl, fun w _ => by kernel_rfl⟩) T0 ?_
    refine anyH_enter1 (i := 2) (d := 28) (by kernel_rfl) rfl rfl (by kernel_rfl) (Leaf_any (wd := wd) _ R0.slice (fun g hg => (R0.block g hg).2) HDT.out (by have := HL.out; omega) (HD.out.low hz1 T0.2.2)) (by kernel_rfl) ?_
    intro y1 p1
    have T1 := T0.go HZ.out p1
    have R1 := R0.below p1
    refine ⟨T1, ?_⟩
    refine anyH_enter1 (i := 5) (d := 31) (by kernel_rfl) rfl rfl (by kernel_rfl) (refLeaf_any (wd := wd) _ (HSD.out.below (by rw [HZ.out]; exact T1.2.2)) HDT.out (by have := HL.out; omega)) (by kernel_rfl) ?_
    intro y2 p2
    have T2 := T1.go HZ.out p2
    have R2 := R1.below p2
    refine ⟨T2, ?_⟩
    refine anyH_take (i := 6) (d := 32) (v := .bool false) rfl rfl (by kernel_rfl) (by kernel_rfl) (by kernel_rfl) (fun _ _ _ h => h) (yields_neA (p := true) (by kernel_rfl) rfl (X := cellsOf' u8c (sumN wd (0 :: dt))) (Y := cellsOf' u8c (sumN wd (0 :: dt))) (by kernel_rfl) (by kernel_rfl) guard_h EL.out) T2 ?_
    refine anyH_take (i := 7) (d := 33) (v := .bool false) rfl rfl (by kernel_rfl) (by kernel_rfl) (by kernel_rfl) (fun _ _ _ h => h) (Or.inl ⟨by kernel_rfl, fun w _ => by kernel_rfl⟩) T2 ?_
    refine anyH_take (i := 8) (d := 34) (v := .int .i64 wd) rfl rfl (by kernel_rfl) (by kernel_rfl) (by kernel_rfl) (fun _ _ _ h => h) (Or.inl ⟨by kernel_rfl, fun w _ => by kernel_rfl⟩) T2 ?_
    refine anyH_take (i := 9) (d := 35) (v := .agg (cellsOf' u8c l)) rfl rfl (by kernel_rfl) (by kernel_rfl) (by kernel_rfl) (fun _ _ _ h => h) (yieldsIf_load_mid (by kernel_rfl) 23 (.tmp 7) rfl b7 0 (by kernel_rfl) (l.map u8c) _ (fun w h => h.1) Tryd.underlying23 rfl zl) T2 ?_
    refine anyH_take (i := 10) (d := 36) (v := .agg (cellsOf' u8c r)) rfl rfl (by kernel_rfl) (by kernel_rfl) (by kernel_rfl) (fun _ _ _ h => h) (yieldsIf_load_mid (by kernel_rfl) 23 (.tmp 8) rfl (b7 + 1) 0 (by kernel_rfl) (r.map u8c) _ (fun w h => h.2.1) Tryd.underlying23 rfl zr) T2 ?_
    refine anyH_take (i := 12) (d := 38) (v := .int .i64 wd) rfl rfl (by kernel_rfl) (by kernel_rfl) (by kernel_rfl) (fun _ _ _ h => h) (Or.inl ⟨by kernel_rfl, fun w _ => by kernel_rfl⟩) T2 ?_
    refine anyH_take (i := 13) (d := 39) (v := .agg (cellsOf' u8c l)) rfl rfl (by kernel_rfl) (by kernel_rfl) (by kernel_rfl) (fun _ _ _ h => h) (yieldsIf_load_mid (by kernel_rfl) 23 (.tmp 7) rfl b7 0 (by kernel_rfl) (l.map u8c) _ (fun w h => h.1) Tryd.underlying23 rfl zl) T2 ?_
    refine anyH_take (i := 14) (d := 40) (v := .agg (cellsOf' u8c r)) rfl rfl (by kernel_rfl) (by kernel_rfl) (by kernel_rfl) (fun _ _ _ h => h) (yieldsIf_load_mid (by kernel_rfl) 23 (.tmp 8) rfl (b7 + 1) 0 (by kernel_rfl) (r.map u8c) _ (fun w h => h.2.1) Tryd.underlying23 rfl zr) T2 ?_
    refine anyH_enter1 (i := 11) (d := 37) (by kernel_rfl) rfl rfl (by kernel_rfl) (Node_any (wd := wd) HX.out.1 HX.out.2.1 HX.out.2.2.1 HX.out.2.2.2 _ (HD.out.low hz1 T2.2.2)) (by kernel_rfl) ?_
    intro y3 p3
    have T3 := T2.go HZ.out p3
    have R3 := R2.below p3
    refine ⟨T3, ?_⟩
    refine anyH_enter1 (i := 15) (d := 41) (by kernel_rfl) rfl rfl (by kernel_rfl) (refNode_any (wd := wd) HX.out.1 HX.out.2.1 HX.out.2.2.1 HX.out.2.2.2 _) (by kernel_rfl) ?_
    intro y4 p4
    have T4 := T3.go HZ.out p4
    have R4 := R3.below p4
    refine ⟨T4, ?_⟩
    refine anyH_take (i := 16) (d := 42) (v := .bool false) rfl rfl (by kernel_rfl) (by kernel_rfl) (by kernel_rfl) (fun _ _ _ h => h) (yields_neA (p := true) (by kernel_rfl) rfl (X := cellsOf' u8c (sumN wd (1 :: (l ++ r)))) (Y := cellsOf' u8c (sumN wd (1 :: (l ++ r)))) (by kernel_rfl) (by kernel_rfl) guard_h EN.out) T4 ?_
    refine anyH_take (i := 17) (d := 43) (v := .bool false) rfl rfl (by kernel_rfl) (by kernel_rfl) (by kernel_rfl) (fun _ _ _ h => h) (Or.inl ⟨by kernel_rfl, fun w _ => by kernel_rfl⟩) T4 ?_
    refine anyH_take (i := 18) (d := 44) (v := .bool false) rfl rfl (by kernel_rfl) (by kernel_rfl) (by kernel_rfl) (fun _ _ _ h => h) (Or.inl ⟨by kernel_rfl, fun w _ => by kernel_rfl⟩) T4 ?_
    refine anyH_take (i := 19) (d := 45) (v := .int .i64 wd) rfl rfl (by kernel_rfl) (by kernel_rfl) (by kernel_rfl) (fun _ _ _ h => h) (Or.inl ⟨by kernel_rfl, fun w _ => by kernel_rfl⟩) T4 ?_
    refine anyH_take (i := 20) (d := 46) (v := .agg (cellsOf' u8c l)) rfl rfl (by kernel_rfl) (by kernel_rfl) (by kernel_rfl) (fun _ _ _ h => h) (yieldsIf_load_mid (by kernel_rfl) 23 (.tmp 7) rfl b7 0 (by kernel_rfl) (l.map u8c) _ (fun w h => h.1) Tryd.underlying23 rfl zl) T4 ?_
    refine anyH_take (i := 21) (d := 47) (v := .agg (cellsOf' u8c r)) rfl rfl (by kernel_rfl) (by kernel_rfl) (by kernel_rfl) (fun _ _ _ h => h) (yieldsIf_load_mid (by kernel_rfl) 23 (.tmp 8) rfl (b7 + 1) 0 (by kernel_rfl) (r.map u8c) _ (fun w h => h.2.1) Tryd.underlying23 rfl zr) T4 ?_
    refine anyH_take (i := 23) (d := 49) (v := .int .i64 wd) rfl rfl (by kernel_rfl) (by kernel_rfl) (by kernel_rfl) (fun _ _ _ h => h) (Or.inl ⟨by kernel_rfl, fun w _ => by kernel_rfl⟩) T4 ?_
    refine anyH_take (i := 24) (d := 50) (v := .agg (cellsOf' u8c l)) rfl rfl (by kernel_rfl) (by kernel_rfl) (by kernel_rfl) (fun _ _ _ h => h) (yieldsIf_load_mid (by kernel_rfl) 23 (.tmp 7) rfl b7 0 (by kernel_rfl) (l.map u8c) _ (fun w h => h.1) Tryd.underlying23 rfl zl) T4 ?_
    refine anyH_take (i := 25) (d := 51) (v := .agg (cellsOf' u8c r)) rfl rfl (by kernel_rfl) (by kernel_rfl) (by kernel_rfl) (fun _ _ _ h => h) (yieldsIf_load_mid (by kernel_rfl) 23 (.tmp 8) rfl (b7 + 1) 0 (by kernel_rfl) (r.map u8c) _ (fun w h => h.2.1) Tryd.underlying23 rfl zr) T4 ?_
    refine anyH_enter1 (i := 22) (d := 48) (by kernel_rfl) rfl rfl (by kernel_rfl) (Fold_any (wd := wd) HX.out.1 HX.out.2.1 HX.out.2.2.1 HX.out.2.2.2 _ (HD.out.low hz1 T4.2.2)) (by kernel_rfl) ?_
    intro y5 p5
    have T5 := T4.go HZ.out p5
    have R5 := R4.below p5
    refine ⟨T5, ?_⟩
    refine anyH_enter1 (i := 26) (d := 52) (by kernel_rfl) rfl rfl (by kernel_rfl) (refFold_any (wd := wd) HX.out.1 HX.out.2.1 HX.out.2.2.1 HX.out.2.2.2 _) (by kernel_rfl) ?_
    intro y6 p6
    have T6 := T5.go HZ.out p6
    have R6 := R5.below p6
    refine ⟨T6, ?_⟩
    refine anyH_take (i := 27) (d := 53) (v := .bool false) rfl rfl (by kernel_rfl) (by kernel_rfl) (by kernel_rfl) (fun _ _ _ h => h) (yields_neA (p := true) (by kernel_rfl) rfl (X := cellsOf' u8c (sumN wd (2 :: (l ++ r)))) (Y := cellsOf' u8c (sumN wd (2 :: (l ++ r)))) (by kernel_rfl) (by kernel_rfl) guard_h EF.out) T6 ?_
    refine anyH_take (i := 28) (d := 54) (v := .bool false) rfl rfl (by kernel_rfl) (by kernel_rfl) (by kernel_rfl) (fun _ _ _ h => h) (Or.inl ⟨by kernel_rfl, fun w _ => by kernel_rfl⟩) T6 ?_
    refine anyH_take (i := 29) (d := 55) (v := .bool false) rfl rfl (by kernel_rfl) (by kernel_rfl) (by kernel_rfl) (fun _ _ _ h => h) (Or.inl ⟨by kernel_rfl, fun w _ => by kernel_rfl⟩) T6 ?_
    refine anyH_take (i := 30) (d := 56) (v := .int .i64 wd) rfl rfl (by kernel_rfl) (by kernel_rfl) (by kernel_rfl) (fun _ _ _ h => h) (Or.inl ⟨by kernel_rfl, fun w _ => by kernel_rfl⟩) T6 ?_
    refine anyH_take (i := 31) (d := 57) (v := .int .u64 (n : Int)) rfl rfl (by kernel_rfl) (by kernel_rfl) (by kernel_rfl) (fun _ _ _ h => h) (Or.inl ⟨by kernel_rfl, fun w _ => by kernel_rfl⟩) T6 ?_
    refine anyH_take (i := 32) (d := 58) (v := .agg (cellsOf' u8c l)) rfl rfl (by kernel_rfl) (by kernel_rfl) (by kernel_rfl) (fun _ _ _ h => h) (yieldsIf_load_mid (by kernel_rfl) 23 (.tmp 7) rfl b7 0 (by kernel_rfl) (l.map u8c) _ (fun w h => h.1) Tryd.underlying23 rfl zl) T6 ?_
    refine anyH_take (i := 34) (d := 60) (v := .int .i64 wd) rfl rfl (by kernel_rfl) (by kernel_rfl) (by kernel_rfl) (fun _ _ _ h => h) (Or.inl ⟨by kernel_rfl, fun w _ => by kernel_rfl⟩) T6 ?_
    refine anyH_take (i := 35) (d := 61) (v := .int .u64 (n : Int)) rfl rfl (by kernel_rfl) (by kernel_rfl) (by kernel_rfl) (fun _ _ _ h => h) (Or.inl ⟨by kernel_rfl, fun w _ => by kernel_rfl⟩) T6 ?_
    refine anyH_take (i := 36) (d := 62) (v := .agg (cellsOf' u8c l)) rfl rfl (by kernel_rfl) (by kernel_rfl) (by kernel_rfl) (fun _ _ _ h => h) (yieldsIf_load_mid (by kernel_rfl) 23 (.tmp 7) rfl b7 0 (by kernel_rfl) (l.map u8c) _ (fun w h => h.1) Tryd.underlying23 rfl zl) T6 ?_
    refine anyH_enter1 (i := 33) (d := 59) (by kernel_rfl) rfl rfl (by kernel_rfl) (Root_any (wd := wd) HN.out HX.out.1 HX.out.2.2.1 _ (HD.out.low hz1 T6.2.2)) (by kernel_rfl) ?_
    intro y7 p7
    have T7 := T6.go HZ.out p7
    have R7 := R6.below p7
    refine ⟨T7, ?_⟩
    refine anyH_enter1 (i := 37) (d := 63) (by kernel_rfl) rfl rfl (by kernel_rfl) (refRoot_any (wd := wd) HN.out HX.out.1 HX.out.2.2.1 _) (by kernel_rfl) ?_
    intro y8 p8
    have T8 := T7.go HZ.out p8
    have R8 := R7.below p8
    refine ⟨T8, ?_⟩
    refine anyH_take (i := 38) (d := 64) (v := .bool false) rfl rfl (by kernel_rfl) (by kernel_rfl) (by kernel_rfl) (fun _ _ _ h => h) (yields_neA (p := true) (by kernel_rfl) rfl (X := cellsOf' u8c (sumN wd (3 :: (bigL n 8 ++ l)))) (Y := cellsOf' u8c (sumN wd (3 :: (bigL n 8 ++ l)))) (by kernel_rfl) (by kernel_rfl) guard_h ER.out) T8 ?_
    refine anyH_take (i := 39) (d := 65) (v := .bool false) rfl rfl (by kernel_rfl) (by kernel_rfl) (by kernel_rfl) (fun _ _ _ h => h) (Or.inl ⟨by kernel_rfl, fun w _ => by kernel_rfl⟩) T8 ?_
    refine wpAnyH_done (by kernel_rfl) ?_ _
    simp only [Act.put, List.setIfInBounds_toArray, List.set_cons_succ, List.set_cons_zero]
    have T0a : Boxes2 b7 (b7 + 1) Z l r wb y8.drew := ⟨(World.rangeAt_drew _ _ _ _).2 T8.1, (World.rangeAt_drew _ _ _ _).2 T8.2.1, T8.2.2.drew⟩
    have R0a : RowAt wb.heap.size y8.drew v1 dt := R8.below (Below.refl _ _).drew
    go_wp2_with fail
    refine wp_region_held (S := Boxes2 b7 (b7 + 1) Z l r wb) (by kernel_rfl) ?_
    change wpAnyH _ _ _ _ _ _ _ _ (World.drew _)
    refine anyH_take (i := 0) (d := 66) (v := v1) rfl rfl (by kernel_rfl) (by kernel_rfl) (by kernel_rfl) (fun _ _ _ h => h) (Or.inl ⟨by kernel_rfl, fun w _ => by kernel_rfl⟩) T0a ?_
    refine anyH_take (i := 2) (d := 68) (v := .agg (cellsOf' u8c l)) rfl rfl (by kernel_rfl) (by kernel_rfl) (by kernel_rfl) (fun _ _ _ h => h) (yieldsIf_load_mid (by kernel_rfl) 23 (.tmp 7) rfl b7 0 (by kernel_rfl) (l.map u8c) _ (fun w h => h.1) Tryd.underlying23 rfl zl) T0a ?_
    refine anyH_take (i := 3) (d := 69) (v := .agg (cellsOf' u8c r)) rfl rfl (by kernel_rfl) (by kernel_rfl) (by kernel_rfl) (fun _ _ _ h => h) (yieldsIf_load_mid (by kernel_rfl) 23 (.tmp 8) rfl (b7 + 1) 0 (by kernel_rfl) (r.map u8c) _ (fun w h => h.2.1) Tryd.underlying23 rfl zr) T0a ?_
    refine anyH_take (i := 5) (d := 71) (v := .agg (cellsOf' u8c l)) rfl rfl (by kernel_rfl) (by kernel_rfl) (by kernel_rfl) (fun _ _ _ h => h) (yieldsIf_load_mid (by kernel_rfl) 23 (.tmp 7) rfl b7 0 (by kernel_rfl) (l.map u8c) _ (fun w h => h.1) Tryd.underlying23 rfl zl) T0a ?_
    refine anyH_take (i := 6) (d := 72) (v := .agg (cellsOf' u8c r)) rfl rfl (by kernel_rfl) (by kernel_rfl) (by kernel_rfl) (fun _ _ _ h => h) (yieldsIf_load_mid (by kernel_rfl) 23 (.tmp 8) rfl (b7 + 1) 0 (by kernel_rfl) (r.map u8c) _ (fun w h => h.2.1) Tryd.underlying23 rfl zr) T0a ?_
    refine anyH_take (i := 8) (d := 74) (v := .int .u64 (n : Int)) rfl rfl (by kernel_rfl) (by kernel_rfl) (by kernel_rfl) (fun _ _ _ h => h) (Or.inl ⟨by kernel_rfl, fun w _ => by kernel_rfl⟩) T0a ?_
    refine anyH_take (i := 9) (d := 75) (v := .agg (cellsOf' u8c l)) rfl rfl (by kernel_rfl) (by kernel_rfl) (by kernel_rfl) (fun _ _ _ h => h) (yieldsIf_load_mid (by kernel_rfl) 23 (.tmp 7) rfl b7 0 (by kernel_rfl) (l.map u8c) _ (fun w h => h.1) Tryd.underlying23 rfl zl) T0a ?_
    refine anyH_enter (i := 1) (d := 67) (by kernel_rfl) rfl rfl (by kernel_rfl) (LeafText_any _ R0a.slice (fun g hg => (R0a.block g hg).2) (by have := HL.out; omega)) (by kernel_rfl) ?_
    rintro va0 ya0 ⟨oa0, pa0⟩
    have Ta0 := T0a.go HZ.out pa0
    have Ra0 := R0a.below pa0
    obtain ⟨ga0, ca0, rfl, loa0, hia0, _, _⟩ := own_form3 oa0 (by omega)
    refine ⟨Ta0, ?_⟩
    refine anyH_enter (i := 4) (d := 70) (by kernel_rfl) rfl rfl (by kernel_rfl) (NodeText_any HX.out.1 HX.out.2.1 _) (by kernel_rfl) ?_
    rintro va1 ya1 ⟨oa1, pa1⟩
    have Ta1 := Ta0.go HZ.out pa1
    have Ra1 := Ra0.below pa1
    replace oa0 := own_below oa0 pa1
    obtain ⟨ga1, ca1, rfl, loa1, hia1, _, _⟩ := own_form3 oa1 (by omega)
    refine ⟨Ta1, ?_⟩
    refine anyH_enter (i := 7) (d := 73) (by kernel_rfl) rfl rfl (by kernel_rfl) (FoldText_any HX.out.1 HX.out.2.1 _) (by kernel_rfl) ?_
    rintro va2 ya2 ⟨oa2, pa2⟩
    have Ta2 := Ta1.go HZ.out pa2
    have Ra2 := Ra1.below pa2
    replace oa0 := own_below oa0 pa2
    replace oa1 := own_below oa1 pa2
    obtain ⟨ga2, ca2, rfl, loa2, hia2, _, _⟩ := own_form3 oa2 (by omega)
    refine ⟨Ta2, ?_⟩
    refine anyH_enter (i := 10) (d := 76) (by kernel_rfl) rfl rfl (by kernel_rfl) (RootText_any HN.out HX.out.1 _) (by kernel_rfl) ?_
    rintro va3 ya3 ⟨oa3, pa3⟩
    have Ta3 := Ta2.go HZ.out pa3
    have Ra3 := Ra2.below pa3
    replace oa0 := own_below oa0 pa3
    replace oa1 := own_below oa1 pa3
    replace oa2 := own_below oa2 pa3
    obtain ⟨ga3, ca3, rfl, loa3, hia3, _, _⟩ := own_form3 oa3 (by omega)
    refine ⟨Ta3, ?_⟩
    refine anyH_one (i := 11) (by kernel_rfl) rfl ?_
    go_wp2_with fail
    generalize hwa : World.alloc _ _ = za
    have qa : Below ya3.heap.size ya3 za := by rw [← hwa]; exact (Below.refl _ _).alloc (Nat.le_refl _) _
    have na : za.heap[ya3.heap.size]? = some (.cells #[.slice (some ⟨ga0, 0, none⟩) (dt.length + 1) ca0, .slice (some ⟨ga1, 0, none⟩) 65 ca1, .slice (some ⟨ga2, 0, none⟩) 65 ca2, .slice (some ⟨ga3, 0, none⟩) 41 ca3] 29 (0, 0)) := by rw [← hwa, heap_alloc_new]
    have sa : ya3.heap.size < za.heap.size := lt_of_heap na
    have TZa := Ta3.go HZ.out qa
    have RZa := Ra3.below qa
    replace oa0 := own_below oa0 qa
    replace oa1 := own_below oa1 qa
    replace oa2 := own_below oa2 qa
    replace oa3 := own_below oa3 qa
    refine ⟨TZa, ?_⟩
    refine anyH_one (i := 12) (by kernel_rfl) rfl ?_
    go_wp2_with fail
    refine ⟨TZa, wpAnyH_done (by kernel_rfl) ?_ _⟩
    try simp only [Act.put, List.setIfInBounds_toArray, List.set_cons_succ, List.set_cons_zero]
    have T0b : Boxes2 b7 (b7 + 1) Z l r wb za.drew := ⟨(World.rangeAt_drew _ _ _ _).2 TZa.1, (World.rangeAt_drew _ _ _ _).2 TZa.2.1, TZa.2.2.drew⟩
    have R0b : RowAt wb.heap.size za.drew v1 dt := RZa.below (Below.refl _ _).drew
    replace oa0 := own_below oa0 (Below.refl _ za).drew
    replace oa1 := own_below oa1 (Below.refl _ za).drew
    replace oa2 := own_below oa2 (Below.refl _ za).drew
    replace oa3 := own_below oa3 (Below.refl _ za).drew
    go_wp2_with fail
    refine wp_region_held (S := Boxes2 b7 (b7 + 1) Z l r wb) (by kernel_rfl) ?_
    change wpAnyH _ _ _ _ _ _ _ _ (World.drew _)
    refine anyH_take (i := 0) (d := 78) (v := v1) rfl rfl (by kernel_rfl) (by kernel_rfl) (by kernel_rfl) (fun _ _ _ h => h) (Or.inl ⟨by kernel_rfl, fun w _ => by kernel_rfl⟩) T0b ?_
    refine anyH_take (i := 2) (d := 80) (v := .agg (cellsOf' u8c l)) rfl rfl (by kernel_rfl) (by kernel_rfl) (by kernel_rfl) (fun _ _ _ h => h) (yieldsIf_load_mid (by kernel_rfl) 23 (.tmp 7) rfl b7 0 (by kernel_rfl) (l.map u8c) _ (fun w h => h.1) Tryd.underlying23 rfl zl) T0b ?_
    refine anyH_take (i := 3) (d := 81) (v := .agg (cellsOf' u8c r)) rfl rfl (by kernel_rfl) (by kernel_rfl) (by kernel_rfl) (fun _ _ _ h => h) (yieldsIf_load_mid (by kernel_rfl) 23 (.tmp 8) rfl (b7 + 1) 0 (by kernel_rfl) (r.map u8c) _ (fun w h => h.2.1) Tryd.underlying23 rfl zr) T0b ?_
    refine anyH_take (i := 5) (d := 83) (v := .agg (cellsOf' u8c l)) rfl rfl (by kernel_rfl) (by kernel_rfl) (by kernel_rfl) (fun _ _ _ h => h) (yieldsIf_load_mid (by kernel_rfl) 23 (.tmp 7) rfl b7 0 (by kernel_rfl) (l.map u8c) _ (fun w h => h.1) Tryd.underlying23 rfl zl) T0b ?_
    refine anyH_take (i := 6) (d := 84) (v := .agg (cellsOf' u8c r)) rfl rfl (by kernel_rfl) (by kernel_rfl) (by kernel_rfl) (fun _ _ _ h => h) (yieldsIf_load_mid (by kernel_rfl) 23 (.tmp 8) rfl (b7 + 1) 0 (by kernel_rfl) (r.map u8c) _ (fun w h => h.2.1) Tryd.underlying23 rfl zr) T0b ?_
    refine anyH_take (i := 8) (d := 86) (v := .int .u64 (n : Int)) rfl rfl (by kernel_rfl) (by kernel_rfl) (by kernel_rfl) (fun _ _ _ h => h) (Or.inl ⟨by kernel_rfl, fun w _ => by kernel_rfl⟩) T0b ?_
    refine anyH_take (i := 9) (d := 87) (v := .agg (cellsOf' u8c l)) rfl rfl (by kernel_rfl) (by kernel_rfl) (by kernel_rfl) (fun _ _ _ h => h) (yieldsIf_load_mid (by kernel_rfl) 23 (.tmp 7) rfl b7 0 (by kernel_rfl) (l.map u8c) _ (fun w h => h.1) Tryd.underlying23 rfl zl) T0b ?_
    refine anyH_enter (i := 1) (d := 79) (by kernel_rfl) rfl rfl (by kernel_rfl) (LeafText_any _ R0b.slice (fun g hg => (R0b.block g hg).2) (by have := HL.out; omega)) (by kernel_rfl) ?_
    rintro vb0 yb0 ⟨ob0, pb0⟩
    have Tb0 := T0b.go HZ.out pb0
    have Rb0 := R0b.below pb0
    replace oa0 := own_below oa0 pb0
    replace oa1 := own_below oa1 pb0
    replace oa2 := own_below oa2 pb0
    replace oa3 := own_below oa3 pb0
    replace na := (pb0.block _ (lt_of_heap na)).trans na
    obtain ⟨gb0, cb0, rfl, lob0, hib0, _, _⟩ := own_form3 ob0 (by omega)
    refine ⟨Tb0, ?_⟩
    refine anyH_enter (i := 4) (d := 82) (by kernel_rfl) rfl rfl (by kernel_rfl) (NodeText_any HX.out.1 HX.out.2.1 _) (by kernel_rfl) ?_
    rintro vb1 yb1 ⟨ob1, pb1⟩
    have Tb1 := Tb0.go HZ.out pb1
    have Rb1 := Rb0.below pb1
    replace oa0 := own_below oa0 pb1
    replace oa1 := own_below oa1 pb1
    replace oa2 := own_below oa2 pb1
    replace oa3 := own_below oa3 pb1
    replace ob0 := own_below ob0 pb1
    replace na := (pb1.block _ (lt_of_heap na)).trans na
    obtain ⟨gb1, cb1, rfl, lob1, hib1, _, _⟩ := own_form3 ob1 (by omega)
    refine ⟨Tb1, ?_⟩
    refine anyH_enter (i := 7) (d := 85) (by kernel_rfl) rfl rfl (by kernel_rfl) (FoldText_any HX.out.1 HX.out.2.1 _) (by kernel_rfl) ?_
    rintro vb2 yb2 ⟨ob2, pb2⟩
    have Tb2 := Tb1.go HZ.out pb2
    have Rb2 := Rb1.below pb2
    replace oa0 := own_below oa0 pb2
    replace oa1 := own_below oa1 pb2
    replace oa2 := own_below oa2 pb2
    replace oa3 := own_below oa3 pb2
    replace ob0 := own_below ob0 pb2
    replace ob1 := own_below ob1 pb2
    replace na := (pb2.block _ (lt_of_heap na)).trans na
    obtain ⟨gb2, cb2, rfl, lob2, hib2, _, _⟩ := own_form3 ob2 (by omega)
    refine ⟨Tb2, ?_⟩
    refine anyH_enter (i := 10) (d := 88) (by kernel_rfl) rfl rfl (by kernel_rfl) (RootText_any HN.out HX.out.1 _) (by kernel_rfl) ?_
    rintro vb3 yb3 ⟨ob3, pb3⟩
    have Tb3 := Tb2.go HZ.out pb3
    have Rb3 := Rb2.below pb3
    replace oa0 := own_below oa0 pb3
    replace oa1 := own_below oa1 pb3
    replace oa2 := own_below oa2 pb3
    replace oa3 := own_below oa3 pb3
    replace ob0 := own_below ob0 pb3
    replace ob1 := own_below ob1 pb3
    replace ob2 := own_below ob2 pb3
    replace na := (pb3.block _ (lt_of_heap na)).trans na
    obtain ⟨gb3, cb3, rfl, lob3, hib3, _, _⟩ := own_form3 ob3 (by omega)
    refine ⟨Tb3, ?_⟩
    refine anyH_one (i := 11) (by kernel_rfl) rfl ?_
    go_wp2_with fail
    generalize hwb : World.alloc _ _ = zb
    have qb : Below yb3.heap.size yb3 zb := by rw [← hwb]; exact (Below.refl _ _).alloc (Nat.le_refl _) _
    have nb : zb.heap[yb3.heap.size]? = some (.cells #[.slice (some ⟨gb0, 0, none⟩) (dt.length + 1) cb0, .slice (some ⟨gb1, 0, none⟩) 65 cb1, .slice (some ⟨gb2, 0, none⟩) 65 cb2, .slice (some ⟨gb3, 0, none⟩) 41 cb3] 29 (0, 0)) := by rw [← hwb, heap_alloc_new]
    have sb : yb3.heap.size < zb.heap.size := lt_of_heap nb
    have TZb := Tb3.go HZ.out qb
    have RZb := Rb3.below qb
    replace oa0 := own_below oa0 qb
    replace oa1 := own_below oa1 qb
    replace oa2 := own_below oa2 qb
    replace oa3 := own_below oa3 qb
    replace ob0 := own_below ob0 qb
    replace ob1 := own_below ob1 qb
    replace ob2 := own_below ob2 qb
    replace ob3 := own_below ob3 qb
    replace na := (qb.block _ (lt_of_heap na)).trans na
    refine ⟨TZb, ?_⟩
    refine anyH_one (i := 12) (by kernel_rfl) rfl ?_
    go_wp2_with fail
    refine ⟨TZb, wpAnyH_done (by kernel_rfl) ?_ _⟩
    try simp only [Act.put, List.setIfInBounds_toArray, List.set_cons_succ, List.set_cons_zero]
    have T0w : Boxes2 b7 (b7 + 1) Z l r wb zb.drew := ⟨(World.rangeAt_drew _ _ _ _).2 TZb.1, (World.rangeAt_drew _ _ _ _).2 TZb.2.1, TZb.2.2.drew⟩
    have R0w : RowAt wb.heap.size zb.drew v1 dt := RZb.below (Below.refl _ _).drew
    replace oa0 := own_below oa0 (Below.refl _ zb).drew
    replace oa1 := own_below oa1 (Below.refl _ zb).drew
    replace oa2 := own_below oa2 (Below.refl _ zb).drew
    replace oa3 := own_below oa3 (Below.refl _ zb).drew
    replace ob0 := own_below ob0 (Below.refl _ zb).drew
    replace ob1 := own_below ob1 (Below.refl _ zb).drew
    replace ob2 := own_below ob2 (Below.refl _ zb).drew
    replace ob3 := own_below ob3 (Below.refl _ zb).drew
    go_wp2_with fail
    refine wp_region_held (S := Boxes2 b7 (b7 + 1) Z l r wb) (by kernel_rfl) ?_
    change wpAnyH _ _ _ _ _ _ _ _ (World.drew _)
    refine anyH_take (i := 0) (d := 90) (v := (.slice aD dt.length cD)) rfl rfl (by kernel_rfl) (by kernel_rfl) (by kernel_rfl) (fun _ _ _ h => h) (Or.inl ⟨by kernel_rfl, fun w _ => by kernel_rfl⟩) T0w ?_
    refine anyH_take (i := 2) (d := 92) (v := .agg (cellsOf' u8c l)) rfl rfl (by kernel_rfl) (by kernel_rfl) (by kernel_rfl) (fun _ _ _ h => h) (yieldsIf_load_mid (by kernel_rfl) 23 (.tmp 7) rfl b7 0 (by kernel_rfl) (l.map u8c) _ (fun w h => h.1) Tryd.underlying23 rfl zl) T0w ?_
    refine anyH_take (i := 3) (d := 93) (v := .agg (cellsOf' u8c r)) rfl rfl (by kernel_rfl) (by kernel_rfl) (by kernel_rfl) (fun _ _ _ h => h) (yieldsIf_load_mid (by kernel_rfl) 23 (.tmp 8) rfl (b7 + 1) 0 (by kernel_rfl) (r.map u8c) _ (fun w h => h.2.1) Tryd.underlying23 rfl zr) T0w ?_
    refine anyH_take (i := 5) (d := 95) (v := .agg (cellsOf' u8c l)) rfl rfl (by kernel_rfl) (by kernel_rfl) (by kernel_rfl) (fun _ _ _ h => h) (yieldsIf_load_mid (by kernel_rfl) 23 (.tmp 7) rfl b7 0 (by kernel_rfl) (l.map u8c) _ (fun w h => h.1) Tryd.underlying23 rfl zl) T0w ?_
    refine anyH_take (i := 6) (d := 96) (v := .agg (cellsOf' u8c r)) rfl rfl (by kernel_rfl) (by kernel_rfl) (by kernel_rfl) (fun _ _ _ h => h) (yieldsIf_load_mid (by kernel_rfl) 23 (.tmp 8) rfl (b7 + 1) 0 (by kernel_rfl) (r.map u8c) _ (fun w h => h.2.1) Tryd.underlying23 rfl zr) T0w ?_
    refine anyH_take (i := 8) (d := 98) (v := .int .u64 (n : Int)) rfl rfl (by kernel_rfl) (by kernel_rfl) (by kernel_rfl) (fun _ _ _ h => h) (Or.inl ⟨by kernel_rfl, fun w _ => by kernel_rfl⟩) T0w ?_
    refine anyH_take (i := 9) (d := 99) (v := .agg (cellsOf' u8c l)) rfl rfl (by kernel_rfl) (by kernel_rfl) (by kernel_rfl) (fun _ _ _ h => h) (yieldsIf_load_mid (by kernel_rfl) 23 (.tmp 7) rfl b7 0 (by kernel_rfl) (l.map u8c) _ (fun w h => h.1) Tryd.underlying23 rfl zl) T0w ?_
    refine anyH_enter (i := 1) (d := 91) (by kernel_rfl) rfl rfl (by kernel_rfl) (refLeafText_any _ (HSD.out.below (by rw [HZ.out]; exact T0w.2.2)) (by have := HL.out; omega)) (by kernel_rfl) ?_
    rintro vw0 yw0 ⟨ow0, pw0⟩
    have Tw0 := T0w.go HZ.out pw0
    have Rw0 := R0w.below pw0
    replace oa0 := own_below oa0 pw0
    replace oa1 := own_below oa1 pw0
    replace oa2 := own_below oa2 pw0
    replace oa3 := own_below oa3 pw0
    replace ob0 := own_below ob0 pw0
    replace ob1 := own_below ob1 pw0
    replace ob2 := own_below ob2 pw0
    replace ob3 := own_below ob3 pw0
    replace na := (pw0.block _ (lt_of_heap na)).trans na
    replace nb := (pw0.block _ (lt_of_heap nb)).trans nb
    obtain ⟨gw0, cw0, rfl, low0, hiw0, _, _⟩ := own_form3 ow0 (by omega)
    refine ⟨Tw0, ?_⟩
    refine anyH_enter (i := 4) (d := 94) (by kernel_rfl) rfl rfl (by kernel_rfl) (refNodeText_any HX.out.1 HX.out.2.1 _) (by kernel_rfl) ?_
    rintro vw1 yw1 ⟨ow1, pw1⟩
    have Tw1 := Tw0.go HZ.out pw1
    have Rw1 := Rw0.below pw1
    replace oa0 := own_below oa0 pw1
    replace oa1 := own_below oa1 pw1
    replace oa2 := own_below oa2 pw1
    replace oa3 := own_below oa3 pw1
    replace ob0 := own_below ob0 pw1
    replace ob1 := own_below ob1 pw1
    replace ob2 := own_below ob2 pw1
    replace ob3 := own_below ob3 pw1
    replace ow0 := own_below ow0 pw1
    replace na := (pw1.block _ (lt_of_heap na)).trans na
    replace nb := (pw1.block _ (lt_of_heap nb)).trans nb
    obtain ⟨gw1, cw1, rfl, low1, hiw1, _, _⟩ := own_form3 ow1 (by omega)
    refine ⟨Tw1, ?_⟩
    refine anyH_enter (i := 7) (d := 97) (by kernel_rfl) rfl rfl (by kernel_rfl) (refFoldText_any HX.out.1 HX.out.2.1 _) (by kernel_rfl) ?_
    rintro vw2 yw2 ⟨ow2, pw2⟩
    have Tw2 := Tw1.go HZ.out pw2
    have Rw2 := Rw1.below pw2
    replace oa0 := own_below oa0 pw2
    replace oa1 := own_below oa1 pw2
    replace oa2 := own_below oa2 pw2
    replace oa3 := own_below oa3 pw2
    replace ob0 := own_below ob0 pw2
    replace ob1 := own_below ob1 pw2
    replace ob2 := own_below ob2 pw2
    replace ob3 := own_below ob3 pw2
    replace ow0 := own_below ow0 pw2
    replace ow1 := own_below ow1 pw2
    replace na := (pw2.block _ (lt_of_heap na)).trans na
    replace nb := (pw2.block _ (lt_of_heap nb)).trans nb
    obtain ⟨gw2, cw2, rfl, low2, hiw2, _, _⟩ := own_form3 ow2 (by omega)
    refine ⟨Tw2, ?_⟩
    refine anyH_enter (i := 10) (d := 100) (by kernel_rfl) rfl rfl (by kernel_rfl) (refRootText_any HN.out HX.out.1 _) (by kernel_rfl) ?_
    rintro vw3 yw3 ⟨ow3, pw3⟩
    have Tw3 := Tw2.go HZ.out pw3
    have Rw3 := Rw2.below pw3
    replace oa0 := own_below oa0 pw3
    replace oa1 := own_below oa1 pw3
    replace oa2 := own_below oa2 pw3
    replace oa3 := own_below oa3 pw3
    replace ob0 := own_below ob0 pw3
    replace ob1 := own_below ob1 pw3
    replace ob2 := own_below ob2 pw3
    replace ob3 := own_below ob3 pw3
    replace ow0 := own_below ow0 pw3
    replace ow1 := own_below ow1 pw3
    replace ow2 := own_below ow2 pw3
    replace na := (pw3.block _ (lt_of_heap na)).trans na
    replace nb := (pw3.block _ (lt_of_heap nb)).trans nb
    obtain ⟨gw3, cw3, rfl, low3, hiw3, _, _⟩ := own_form3 ow3 (by omega)
    refine ⟨Tw3, ?_⟩
    refine anyH_one (i := 11) (by kernel_rfl) rfl ?_
    go_wp2_with fail
    generalize hww : World.alloc _ _ = zw
    have qw : Below yw3.heap.size yw3 zw := by rw [← hww]; exact (Below.refl _ _).alloc (Nat.le_refl _) _
    have nw : zw.heap[yw3.heap.size]? = some (.cells #[.slice (some ⟨gw0, 0, none⟩) (dt.length + 1) cw0, .slice (some ⟨gw1, 0, none⟩) 65 cw1, .slice (some ⟨gw2, 0, none⟩) 65 cw2, .slice (some ⟨gw3, 0, none⟩) 41 cw3] 29 (0, 0)) := by rw [← hww, heap_alloc_new]
    have sw : yw3.heap.size < zw.heap.size := lt_of_heap nw
    have TZw := Tw3.go HZ.out qw
    have RZw := Rw3.below qw
    replace oa0 := own_below oa0 qw
    replace oa1 := own_below oa1 qw
    replace oa2 := own_below oa2 qw
    replace oa3 := own_below oa3 qw
    replace ob0 := own_below ob0 qw
    replace ob1 := own_below ob1 qw
    replace ob2 := own_below ob2 qw
    replace ob3 := own_below ob3 qw
    replace ow0 := own_below ow0 qw
    replace ow1 := own_below ow1 qw
    replace ow2 := own_below ow2 qw
    replace ow3 := own_below ow3 qw
    replace na := (qw.block _ (lt_of_heap na)).trans na
    replace nb := (qw.block _ (lt_of_heap nb)).trans nb
    refine ⟨TZw, ?_⟩
    refine anyH_one (i := 12) (by kernel_rfl) rfl ?_
    go_wp2_with fail
    refine ⟨TZw, wpAnyH_done (by kernel_rfl) ?_ _⟩
    try simp only [Act.put, List.setIfInBounds_toArray, List.set_cons_succ, List.set_cons_zero]
    have LTl : Hid (dt.length ≤ 3000) := HL
    have HU := Lib.hid (show ∀ (i : Nat), i < 4 → ∃ va vb ga gb m, [Value.slice (some ⟨ga0, 0, none⟩) (dt.length + 1) ca0, .slice (some ⟨ga1, 0, none⟩) 65 ca1, .slice (some ⟨ga2, 0, none⟩) 65 ca2, .slice (some ⟨ga3, 0, none⟩) 41 ca3][i]? = some va ∧ [Value.slice (some ⟨gb0, 0, none⟩) (dt.length + 1) cb0, .slice (some ⟨gb1, 0, none⟩) 65 cb1, .slice (some ⟨gb2, 0, none⟩) 65 cb2, .slice (some ⟨gb3, 0, none⟩) 41 cb3][i]? = some vb ∧ [ga0, ga1, ga2, ga3][i]? = some ga ∧ [gb0, gb1, gb2, gb3][i]? = some gb ∧ TextAt zw va ga m ∧ TextAt zw vb gb m ∧ m ≤ 3001 from fun i hi => by
      match i, hi with
      | 0, _ => exact ⟨_, _, _, _, _, rfl, rfl, rfl, rfl, TextAt.mk oa0, TextAt.mk ob0, by have := HL.out; omega⟩
      | 1, _ => exact ⟨_, _, _, _, _, rfl, rfl, rfl, rfl, TextAt.mk oa1, TextAt.mk ob1, by omega⟩
      | 2, _ => exact ⟨_, _, _, _, _, rfl, rfl, rfl, rfl, TextAt.mk oa2, TextAt.mk ob2, by omega⟩
      | 3, _ => exact ⟨_, _, _, _, _, rfl, rfl, rfl, rfl, TextAt.mk oa3, TextAt.mk ob3, by omega⟩)
    have HWT := Lib.hid (show SliceOf u8c zw (.slice (some ⟨gw0, 0, none⟩) (dt.length + 1) cw0) (0 :: dt) from own_slice_at ow0)
    obtain ⟨gv, cv, ev, gv1, gv2⟩ : ∃ g c, v1 = .slice (some ⟨g, 0, none⟩) dt.length c ∧ Z ≤ g ∧ g < y8.heap.size := by
      obtain ⟨g, c, e, _⟩ := R8.form
      have := R8.block g (by rw [e]; rfl)
      exact ⟨g, c, e, by have := HZ.out; omega, this.2⟩
    subst ev
    have ez8 : Z ≤ y8.heap.size := by have := T8.2.2.size; have := HZ.out; omega
    have ed8 : y8.drew.heap.size = y8.heap.size := rfl
    have eda : za.drew.heap.size = za.heap.size := rfl
    have edb : zb.drew.heap.size = zb.heap.size := rfl
    have FAR := Lib.hid (show (∀ i g : Nat, ([ga0, ga1, ga2, ga3][i]? = some g ∨ [gb0, gb1, gb2, gb3][i]? = some g) → Z ≤ g ∧ g ≠ ya3.heap.size ∧ g ≠ yb3.heap.size ∧ g ≠ yw3.heap.size ∧ g ≠ gw0 ∧ g ≠ gv ∧ g < zw.heap.size) ∧ ya3.heap.size < zw.heap.size ∧ yb3.heap.size < zw.heap.size ∧ yw3.heap.size < zw.heap.size ∧ gw0 < zw.heap.size ∧ gv < zw.heap.size from by
      refine ⟨fun i g h => ?_, by omega, by omega, by omega, by omega, by omega⟩
      match i, h with
      | 0, h => rcases h with h | h <;> (cases h; refine ⟨by omega, by omega, by omega, by omega, by omega, by omega, by omega⟩)
      | 1, h => rcases h with h | h <;> (cases h; refine ⟨by omega, by omega, by omega, by omega, by omega, by omega, by omega⟩)
      | 2, h => rcases h with h | h <;> (cases h; refine ⟨by omega, by omega, by omega, by omega, by omega, by omega, by omega⟩)
      | 3, h => rcases h with h | h <;> (cases h; refine ⟨by omega, by omega, by omega, by omega, by omega, by omega, by omega⟩)
      | i + 4, h => rcases h with h | h <;> simp at h)
    have AP := Lib.hid (show Apart zw.heap.size [ga0, ga1, ga2, ga3] [gb0, gb1, gb2, gb3] from
      apart4 (by omega) (by omega) (by omega) (by omega) (by omega) (by omega) (by omega) (by omega))
    have XS := Lib.hid (show ∀ (i : Nat), i < 4 → ∃ va vb vw L, [Value.slice (some ⟨ga0, 0, none⟩) (dt.length + 1) ca0, .slice (some ⟨ga1, 0, none⟩) 65 ca1, .slice (some ⟨ga2, 0, none⟩) 65 ca2, .slice (some ⟨ga3, 0, none⟩) 41 ca3][i]? = some va ∧ [Value.slice (some ⟨gb0, 0, none⟩) (dt.length + 1) cb0, .slice (some ⟨gb1, 0, none⟩) 65 cb1, .slice (some ⟨gb2, 0, none⟩) 65 cb2, .slice (some ⟨gb3, 0, none⟩) 41 cb3][i]? = some vb ∧ [Value.slice (some ⟨gw0, 0, none⟩) (dt.length + 1) cw0, .slice (some ⟨gw1, 0, none⟩) 65 cw1, .slice (some ⟨gw2, 0, none⟩) 65 cw2, .slice (some ⟨gw3, 0, none⟩) 41 cw3][i]? = some vw ∧ SliceOf u8c zw va L ∧ SliceOf u8c zw vb L ∧ SliceOf u8c zw vw L from fun i hi => by
      match i, hi with
      | 0, _ => exact ⟨_, _, _, _, rfl, rfl, rfl, own_slice_at oa0, own_slice_at ob0, own_slice_at ow0⟩
      | 1, _ => exact ⟨_, _, _, _, rfl, rfl, rfl, own_slice_at oa1, own_slice_at ob1, own_slice_at ow1⟩
      | 2, _ => exact ⟨_, _, _, _, rfl, rfl, rfl, own_slice_at oa2, own_slice_at ob2, own_slice_at ow2⟩
      | 3, _ => exact ⟨_, _, _, _, rfl, rfl, rfl, own_slice_at oa3, own_slice_at ob3, own_slice_at ow3⟩)
    have Ca : Hid (∀ i v, [Value.slice (some ⟨ga0, 0, none⟩) (dt.length + 1) ca0, .slice (some ⟨ga1, 0, none⟩) 65 ca1, .slice (some ⟨ga2, 0, none⟩) 65 ca2, .slice (some ⟨ga3, 0, none⟩) 41 ca3][i]? = some v → zw.cell? ⟨ya3.heap.size, i, none⟩ = some v) := Lib.hid fun i v hv => by
      rw [cell_of_row _ _ _ _ _ _ na]
      simpa using hv
    have Cb : Hid (∀ i v, [Value.slice (some ⟨gb0, 0, none⟩) (dt.length + 1) cb0, .slice (some ⟨gb1, 0, none⟩) 65 cb1, .slice (some ⟨gb2, 0, none⟩) 65 cb2, .slice (some ⟨gb3, 0, none⟩) 41 cb3][i]? = some v → zw.cell? ⟨yb3.heap.size, i, none⟩ = some v) := Lib.hid fun i v hv => by
      rw [cell_of_row _ _ _ _ _ _ nb]
      simpa using hv
    have Cw : Hid (∀ i v, [Value.slice (some ⟨gw0, 0, none⟩) (dt.length + 1) cw0, .slice (some ⟨gw1, 0, none⟩) 65 cw1, .slice (some ⟨gw2, 0, none⟩) 65 cw2, .slice (some ⟨gw3, 0, none⟩) 41 cw3][i]? = some v → zw.cell? ⟨yw3.heap.size, i, none⟩ = some v) := Lib.hid fun i v hv => by
      rw [cell_of_row _ _ _ _ _ _ nw]
      simpa using hv
    obtain ⟨pa, hpa⟩ : ∃ p, ya3.heap.size = p := ⟨_, rfl⟩
    obtain ⟨pb, hpb⟩ : ∃ p, yb3.heap.size = p := ⟨_, rfl⟩
    obtain ⟨pw, hpw⟩ : ∃ p, yw3.heap.size = p := ⟨_, rfl⟩
    rw [hpa] at Ca FAR ⊢
    rw [hpb] at Cb FAR ⊢
    rw [hpw] at Cw FAR ⊢
    obtain ⟨VA, hVA⟩ : ∃ V, [Value.slice (some ⟨ga0, 0, none⟩) (dt.length + 1) ca0, .slice (some ⟨ga1, 0, none⟩) 65 ca1, .slice (some ⟨ga2, 0, none⟩) 65 ca2, .slice (some ⟨ga3, 0, none⟩) 41 ca3] = V := ⟨_, rfl⟩
    obtain ⟨VB, hVB⟩ : ∃ V, [Value.slice (some ⟨gb0, 0, none⟩) (dt.length + 1) cb0, .slice (some ⟨gb1, 0, none⟩) 65 cb1, .slice (some ⟨gb2, 0, none⟩) 65 cb2, .slice (some ⟨gb3, 0, none⟩) 41 cb3] = V := ⟨_, rfl⟩
    obtain ⟨VW, hVW⟩ : ∃ V, [Value.slice (some ⟨gw0, 0, none⟩) (dt.length + 1) cw0, .slice (some ⟨gw1, 0, none⟩) 65 cw1, .slice (some ⟨gw2, 0, none⟩) 65 cw2, .slice (some ⟨gw3, 0, none⟩) 41 cw3] = V := ⟨_, rfl⟩
    rw [hVA, hVB, hVW] at XS
    rw [hVA, hVB] at HU
    obtain ⟨GA, hGA⟩ : ∃ G, [ga0, ga1, ga2, ga3] = G := ⟨_, rfl⟩
    obtain ⟨GB, hGB⟩ : ∃ G, [gb0, gb1, gb2, gb3] = G := ⟨_, rfl⟩
    rw [hGA, hGB] at HU AP FAR
    have CW0 := Lib.hid (show zw.cell? ⟨pw, 0, none⟩ = some (.slice (some ⟨gw0, 0, none⟩) (dt.length + 1) cw0) from Cw.out 0 _ rfl)
    rw [hVA] at Ca
    rw [hVB] at Cb
    rw [hVW] at Cw
    have HTZ := Lib.hid TZw
    have HRZ := Lib.hid RZw
    have HVS := Lib.hid (And.intro hVA (And.intro hVB hVW))
    have b9 : Below zw.heap.size zw zw := Below.refl _ _
    have ez9 := Lib.hid (show Z ≤ zw.heap.size from by omega)
    clear hpa hpb hpw hVA hVB hVW hGA hGB
    clear r1 T0 R0 p1 T1 R1 p2 T2 R2 p3 T3 R3 p4 T4 R4 p5 T5 R5 p6 T6 R6 p7 T7 R7 p8 T8 R8 T0a R0a pa0 Ta0 Ra0 loa0 hia0 pa1 Ta1 Ra1 loa1 hia1 pa2 Ta2 Ra2 loa2 hia2 pa3 Ta3 Ra3 loa3 hia3 qa TZa RZa T0b R0b pb0 Tb0 Rb0 lob0 hib0 pb1 Tb1 Rb1 lob1 hib1 pb2 Tb2 Rb2 lob2 hib2 pb3 Tb3 Rb3 lob3 hib3 qb TZb RZb T0w R0w pw0 Tw0 Rw0 low0 hiw0 pw1 Tw1 Rw1 low1 hiw1 pw2 Tw2 Rw2 low2 hiw2 pw3 Tw3 Rw3 low3 hiw3 qw TZw RZw oa0 oa1 oa2 oa3 ob0 ob1 ob2 ob3 ow0 ow1 ow2 ow3 na nb nw sa sb sw ed8 eda edb zl zr
    go_wp2_with fail
    go_loopw [15] (fun x wr => ∃ i : Nat, i ≤ 4 ∧ x = .int .i64 (i : Int) ∧ Below zw.heap.size zw wr) (fun x _ => 4 - (intOf x).toNat)
    case atStart => exact ⟨0, by omega, rfl, b9⟩
    case round =>
      obtain ⟨i, hi, rfl, qi⟩ := hrel
      clear b9
      obtain ⟨wi, hwi⟩ : ∃ w, w = wr := ⟨_, rfl⟩
      subst hwi
      by_cases hlt : i < 4
      · obtain ⟨va, vb, vw, L, eA, eB, eW, sA, sB, sW⟩ := XS.out i hlt
        have SC0 := keep3 qi (show zw.cell? ⟨pa, i, none⟩ = some va ∧ zw.cell? ⟨pb, i, none⟩ = some vb ∧ zw.cell? ⟨pw, i, none⟩ = some vw from ⟨Ca.out i va eA, Cb.out i vb eB, Cw.out i vw eW⟩)
        have SC : wi.drew.cell? ⟨pa, i, none⟩ = some va ∧ wi.drew.cell? ⟨pb, i, none⟩ = some vb ∧ wi.drew.cell? ⟨pw, i, none⟩ = some vw := keep3 (Below.refl _ _).drew SC0
        have HSA0 := same2_any wi.drew (sA.below qi.drew) (sW.below qi.drew)
        rw [decide_eq_true rfl] at HSA0
        have HSA := Lib.hid HSA0
        have ii : (i : Int) < 4 := by omega
        have i0 : (0 : Int) ≤ (i : Int) := by omega
        clear SC0 HSA0 eA eB eW
        go_wp2_with fail
        · refine wp_region_held (S := fun w' => w'.cell? ⟨pa, i, none⟩ = some va ∧ w'.cell? ⟨pb, i, none⟩ = some vb ∧ w'.cell? ⟨pw, i, none⟩ = some vw) (by kernel_rfl) ?_
          change wpAnyH _ _ _ _ _ _ _ _ (World.drew _)
          refine anyH_take (i := 0) (d := 106) (v := (.slice (some ⟨pa, 0, none⟩) 4 4)) rfl rfl (by kernel_rfl) (by kernel_rfl) (by kernel_rfl) (fun _ _ _ h => h) (Or.inl ⟨by kernel_rfl, fun w _ => by kernel_rfl⟩) SC ?_
          refine anyH_take (i := 1) (d := 107) (v := .int .i64 (i : Int)) rfl rfl (by kernel_rfl) (by kernel_rfl) (by kernel_rfl) (fun _ _ _ h => h) (Or.inl ⟨by kernel_rfl, fun w _ => by kernel_rfl⟩) SC ?_
          refine anyH_take (i := 2) (d := 108) (v := .pointer (some ⟨pa, i, none⟩)) rfl rfl (by kernel_rfl) (by kernel_rfl) (by kernel_rfl) (fun _ _ _ h => h) (Or.inl ⟨by kernel_rfl, fun w hw => by obtain ⟨h1, h2, h3⟩ := hw; go_simp⟩) SC ?_
          refine anyH_take (i := 3) (d := 109) (v := va) rfl rfl (by kernel_rfl) (by kernel_rfl) (by kernel_rfl) (fun _ _ _ h => h) (Or.inl ⟨by kernel_rfl, fun w hw => by obtain ⟨h1, h2, h3⟩ := hw; go_simp⟩) SC ?_
          refine anyH_take (i := 4) (d := 110) (v := (.slice (some ⟨pw, 0, none⟩) 4 4)) rfl rfl (by kernel_rfl) (by kernel_rfl) (by kernel_rfl) (fun _ _ _ h => h) (Or.inl ⟨by kernel_rfl, fun w _ => by kernel_rfl⟩) SC ?_
          refine anyH_take (i := 5) (d := 111) (v := .int .i64 (i : Int)) rfl rfl (by kernel_rfl) (by kernel_rfl) (by kernel_rfl) (fun _ _ _ h => h) (Or.inl ⟨by kernel_rfl, fun w _ => by kernel_rfl⟩) SC ?_
          refine anyH_take (i := 6) (d := 112) (v := .pointer (some ⟨pw, i, none⟩)) rfl rfl (by kernel_rfl) (by kernel_rfl) (by kernel_rfl) (fun _ _ _ h => h) (Or.inl ⟨by kernel_rfl, fun w hw => by obtain ⟨h1, h2, h3⟩ := hw; go_simp⟩) SC ?_
          refine anyH_take (i := 7) (d := 113) (v := vw) rfl rfl (by kernel_rfl) (by kernel_rfl) (by kernel_rfl) (fun _ _ _ h => h) (Or.inl ⟨by kernel_rfl, fun w hw => by obtain ⟨h1, h2, h3⟩ := hw; go_simp⟩) SC ?_
          refine anyH_enter1 (i := 8) (d := 114) (by kernel_rfl) rfl rfl (by kernel_rfl) HSA.out (by kernel_rfl) ?_
          intro y1 p1
          have SC1 := keep3 p1 SC
          refine ⟨SC1, ?_⟩
          refine anyH_take (i := 9) (d := 115) (v := .bool false) rfl rfl (by kernel_rfl) (by kernel_rfl) (by kernel_rfl) (fun _ _ _ h => h) (Or.inl ⟨by kernel_rfl, fun w _ => by kernel_rfl⟩) SC1 ?_
          refine anyH_take (i := 10) (d := 116) (v := .bool false) rfl rfl (by kernel_rfl) (by kernel_rfl) (by kernel_rfl) (fun _ _ _ h => h) (Or.inl ⟨by kernel_rfl, fun w _ => by kernel_rfl⟩) SC1 ?_
          refine anyH_take (i := 11) (d := 117) (v := (.slice (some ⟨pb, 0, none⟩) 4 4)) rfl rfl (by kernel_rfl) (by kernel_rfl) (by kernel_rfl) (fun _ _ _ h => h) (Or.inl ⟨by kernel_rfl, fun w _ => by kernel_rfl⟩) SC1 ?_
          refine anyH_take (i := 12) (d := 118) (v := .int .i64 (i : Int)) rfl rfl (by kernel_rfl) (by kernel_rfl) (by kernel_rfl) (fun _ _ _ h => h) (Or.inl ⟨by kernel_rfl, fun w _ => by kernel_rfl⟩) SC1 ?_
          refine anyH_take (i := 13) (d := 119) (v := .pointer (some ⟨pb, i, none⟩)) rfl rfl (by kernel_rfl) (by kernel_rfl) (by kernel_rfl) (fun _ _ _ h => h) (Or.inl ⟨by kernel_rfl, fun w hw => by obtain ⟨h1, h2, h3⟩ := hw; go_simp⟩) SC1 ?_
          refine anyH_take (i := 14) (d := 120) (v := vb) rfl rfl (by kernel_rfl) (by kernel_rfl) (by kernel_rfl) (fun _ _ _ h => h) (Or.inl ⟨by kernel_rfl, fun w hw => by obtain ⟨h1, h2, h3⟩ := hw; go_simp⟩) SC1 ?_
          refine anyH_take (i := 15) (d := 121) (v := (.slice (some ⟨pw, 0, none⟩) 4 4)) rfl rfl (by kernel_rfl) (by kernel_rfl) (by kernel_rfl) (fun _ _ _ h => h) (Or.inl ⟨by kernel_rfl, fun w _ => by kernel_rfl⟩) SC1 ?_
          refine anyH_take (i := 16) (d := 122) (v := .int .i64 (i : Int)) rfl rfl (by kernel_rfl) (by kernel_rfl) (by kernel_rfl) (fun _ _ _ h => h) (Or.inl ⟨by kernel_rfl, fun w _ => by kernel_rfl⟩) SC1 ?_
          refine anyH_take (i := 17) (d := 123) (v := .pointer (some ⟨pw, i, none⟩)) rfl rfl (by kernel_rfl) (by kernel_rfl) (by kernel_rfl) (fun _ _ _ h => h) (Or.inl ⟨by kernel_rfl, fun w hw => by obtain ⟨h1, h2, h3⟩ := hw; go_simp⟩) SC1 ?_
          refine anyH_take (i := 18) (d := 124) (v := vw) rfl rfl (by kernel_rfl) (by kernel_rfl) (by kernel_rfl) (fun _ _ _ h => h) (Or.inl ⟨by kernel_rfl, fun w hw => by obtain ⟨h1, h2, h3⟩ := hw; go_simp⟩) SC1 ?_
          have qy1 : Below zw.heap.size zw y1 := qi.drew.trans (p1.mono qi.drew.size)
          have SB2 := same2_any y1 (sB.below qy1) (sW.below qy1)
          rw [decide_eq_true rfl] at SB2
          refine anyH_enter1 (i := 19) (d := 125) (by kernel_rfl) rfl rfl (by kernel_rfl) SB2 (by kernel_rfl) ?_
          intro y2 p2
          have SC2 := keep3 p2 SC1
          refine ⟨SC2, ?_⟩
          refine anyH_take (i := 20) (d := 126) (v := .bool false) rfl rfl (by kernel_rfl) (by kernel_rfl) (by kernel_rfl) (fun _ _ _ h => h) (Or.inl ⟨by kernel_rfl, fun w _ => by kernel_rfl⟩) SC2 ?_
          refine anyH_take (i := 21) (d := 127) (v := .bool false) rfl rfl (by kernel_rfl) (by kernel_rfl) (by kernel_rfl) (fun _ _ _ h => h) (Or.inl ⟨by kernel_rfl, fun w _ => by kernel_rfl⟩) SC2 ?_
          have qz : Below zw.heap.size zw y2 := qy1.trans (p2.mono qy1.size)
          refine wpAnyH_done (by kernel_rfl) ?_ _
          simp only [Act.put, List.setIfInBounds_toArray, List.set_cons_succ, List.set_cons_zero]
          clear SC SC1 SC2 p1 p2
          go_wp2_with fail
          go_roundw
          case rel => exact ⟨i + 1, by omega, by go_num, qz⟩
          case measure => simp [intOf]; omega
      · obtain rfl : i = 4 := by omega
        rw [show ((4 : Nat) : Int) = 4 from rfl]
        clear hlt hi
        go_wp2_with fail
        have TW0 : Twin zw.heap.size zw GA GB 0 0 0 201 202 zw (.slice none 0 0) (.slice none 0 0) [] [] [] [] := Twin.start rfl
        have HQI := Lib.hid qi
        clear qi
        have KI := HQI.out
        go_loopw [16, 17, 18] (fun x y z wr => ∃ (i : Nat) (xs ys : List Value) (Xs Ys : List (List Nat)), i ≤ 4 ∧ z = .int .i64 (i : Int) ∧ Twin zw.heap.size zw GA GB i i i 201 202 wr x y xs ys Xs Ys) (fun _ _ z _ => 4 - (intOf z).toNat)
        case atStart => exact ⟨0, [], [], [], [], by omega, rfl, (Twin.start rfl).moved KI⟩
        case round =>
          obtain ⟨i, xs, ys, Xs, Ys, hi, rfl, tw⟩ := hrel
          clear TW0 KI
          obtain ⟨x, y, hx, hy⟩ : ∃ x y, x = u16 ∧ y = u17 := ⟨_, _, rfl, rfl⟩
          subst hx
          subst hy
          obtain ⟨wj, hwj⟩ : ∃ w, w = wr := ⟨_, rfl⟩
          subst hwj
          by_cases hlt : i < 4
          · have hlt := hlt
            obtain ⟨va, vb, ga, gb, m, eA, eB, eGA, eGB, ⟨ca, A0, rfl, lA0, oA0⟩, ⟨cb, B0, rfl, lB0, oB0⟩, m3⟩ := HU.out i hlt
            obtain ⟨fa1, fa2, fa3, fa4, fa5, fa6, fa7⟩ := FAR.out.1 i ga (.inl eGA)
            obtain ⟨fb1, fb2, fb3, fb4, fb5, fb6, fb7⟩ := FAR.out.1 i gb (.inr eGB)
            obtain ⟨fp1, fp2, _⟩ := FAR.out.2
            have ab : ga ≠ gb := fun e => AP.out.1 i i ga eGA (by rw [e]; exact eGB)
            have spa := tw.sp ga fa7 fun j hj => ⟨fun e => AP.out.2.1 j i ga hj e eGA, fun e => AP.out.1 i j ga eGA e⟩
            have spb := tw.sp gb fb7 fun j hj => ⟨fun e => AP.out.1 j i gb e eGB, fun e => AP.out.2.2.1 j i gb hj e eGB⟩
            have oA := ownsRow_keep oA0 (w' := wj) (fun b e => by cases e; exact spa)
            have oB := ownsRow_keep oB0 (w' := wj) (fun b e => by cases e; exact spb)
            have spp := tw.sp pa fp1 fun j hj => ⟨fun e => (FAR.out.1 j pa (.inl e)).2.1 rfl, fun e => (FAR.out.1 j pa (.inr e)).2.1 rfl⟩
            have spq := tw.sp pb fp2 fun j hj => ⟨fun e => (FAR.out.1 j pb (.inl e)).2.2.1 rfl, fun e => (FAR.out.1 j pb (.inr e)).2.2.1 rfl⟩
            have KA : wj.cell? ⟨pa, i, none⟩ = some (.slice (some ⟨ga, 0, none⟩) m ca) ∧ wj.cell? ⟨pb, i, none⟩ = some (.slice (some ⟨gb, 0, none⟩) m cb) := ⟨(World.cell?_of_block (a := ⟨pa, i, none⟩) spp).trans (Ca.out i _ eA), (World.cell?_of_block (a := ⟨pb, i, none⟩) spq).trans (Cb.out i _ eB)⟩
            have NE : Hid (((some ga ≠ some pa ∧ some ga ≠ some pb) ∧ some gb ≠ some pa ∧ some gb ≠ some pb) ∧ ga ≠ gb ∧ ga < zw.heap.size ∧ gb < zw.heap.size ∧ pa < zw.heap.size ∧ pb < zw.heap.size) := Lib.hid ⟨⟨⟨fun e => fa2 (Option.some.inj e), fun e => fa3 (Option.some.inj e)⟩, fun e => fb2 (Option.some.inj e), fun e => fb3 (Option.some.inj e)⟩, ab, fa7, fb7, fp1, fp2⟩
            have TW := Lib.hid tw
            have EG := Lib.hid (And.intro eGA eGB)
            have HKA := Lib.hid KA
            have HM := Lib.hid m3
            have i4 : (i : Int) < 4 := by omega
            have i0 : (0 : Int) ≤ (i : Int) := by omega
            have o0 : ∃ A B : List Nat, A.length = m ∧ B.length = m ∧ wj.ownsRow 0 5 1 (.slice (some ⟨ga, 0, none⟩) m ca) m (u8s A) ∧ wj.ownsRow 0 5 1 (.slice (some ⟨gb, 0, none⟩) m cb) m (u8s B) ∧ Over A 0 201 ∧ Over B 0 202 := ⟨A0, B0, lA0, lB0, oA, oB, fun j hj => by omega, fun j hj => by omega⟩
            have t0 : Tch (some ga) (some gb) wj wj := Tch.refl
            clear fa1 fa2 fa3 fa4 fa5 fa6 fa7 fb1 fb2 fb3 fb4 fb5 fb6 fb7 fp1 fp2 ab spa spb spp spq eA eB eGA eGB tw lA0 oA0 lB0 oB0 oA oB KA m3
            go_wp2_with fail
            go_loopw [19] (fun kk wr => ∃ (k : Nat) (A B : List Nat), k ≤ m ∧ kk = .int .i64 (k : Int) ∧ Tch (some ga) (some gb) wj wr ∧ A.length = m ∧ B.length = m ∧ wr.ownsRow 0 5 1 (.slice (some ⟨ga, 0, none⟩) m ca) m (u8s A) ∧ wr.ownsRow 0 5 1 (.slice (some ⟨gb, 0, none⟩) m cb) m (u8s B) ∧ Over A k 201 ∧ Over B k 202) (fun kk _ => m - (intOf kk).toNat)
            case atStart =>
              obtain ⟨A, B, h⟩ := o0
              exact ⟨0, A, B, by omega, rfl, t0, h⟩
            case round =>
              obtain ⟨k, A, B, hk, rfl, t, lA, lB, oA, oB, vA, vB⟩ := hrel
              clear o0 t0
              obtain ⟨wv, hwv⟩ : ∃ w, w = wr := ⟨_, rfl⟩
              subst hwv
              have KV := t.two HKA.out NE.out.1
              by_cases hkm : k < m
              · have hkm := hkm
                obtain ⟨c1, hc1⟩ : ∃ c, A[k]? = some c := ⟨A[k]'(by omega), List.getElem?_eq_getElem _⟩
                obtain ⟨c2, hc2⟩ : ∃ c, B[k]? = some c := ⟨B[k]'(by omega), List.getElem?_eq_getElem _⟩
                have n1 : (Value.slice (some ⟨ga, 0, none⟩) m ca).ownBlock ≠ some gb := fun e => NE.out.2.1 (Option.some.inj e)
                have n2 : (Value.slice (some ⟨gb, 0, none⟩) m cb).ownBlock ≠ some ga := fun e => NE.out.2.1 (Option.some.inj e).symm
                have a1 := text_put (k := k) (World.ownsRow.drew oA) 201
                have b1 := ownsRow_setCell_other (World.ownsRow.drew oB) (a := ⟨ga, k, none⟩) n2 (.int .u8 ((201 : Nat) : Int))
                have a2 := ownsRow_setCell_other a1 (a := ⟨gb, k, none⟩) n1 (.int .u8 ((202 : Nat) : Int))
                have b2 := text_put (k := k) b1 202
                have t1 := (t.below (Below.refl _ _).drew).set1 (k := k) (.int .u8 ((201 : Nat) : Int))
                have t2 := t1.set2 (k := k) (.int .u8 ((202 : Nat) : Int))
                have SV : wv.drew.cell? ⟨pa, i, none⟩ = some (.slice (some ⟨ga, 0, none⟩) m ca) ∧ wv.drew.cell? ⟨pb, i, none⟩ = some (.slice (some ⟨gb, 0, none⟩) m cb) := KV
                have S1 := Lib.hid (t1.two HKA.out NE.out.1)
                have S2 := Lib.hid (t2.two HKA.out NE.out.1)
                have f1 : wv.drew.cell? ⟨ga, k, none⟩ = some (.int .u8 (c1 : Int)) := own_cell oA (by rw [u8s_get, hc1]; rfl)
                have f2 : wv.drew.frozen? ⟨ga, k, none⟩ = false := oA.frozenAt k
                have f3 := own_cell b1 (show (u8s B)[k]? = some (.int .u8 (c2 : Int)) by rw [u8s_get, hc2]; rfl)
                have f4 := b1.frozenAt k
                have HG1 := Lib.hid (show wv.drew.cell? ⟨gb, k, none⟩ = some (.int .u8 (c2 : Int)) from own_cell oB (by rw [u8s_get, hc2]; rfl))
                have HG2 := Lib.hid (show wv.drew.frozen? ⟨gb, k, none⟩ = false from oB.frozenAt k)
                have HO := Lib.hid (And.intro a2 (And.intro b2 t2))
                have HV := Lib.hid (And.intro vA.put vB.put)
                have HLA := Lib.hid (And.intro lA lB)
                have HF := Lib.hid (And.intro f3 f4)
                have m3 := HM.out
                have ki : (k : Int) < (m : Int) := by omega
                have k0 : (0 : Int) ≤ (k : Int) := by omega
                obtain ⟨kv1, kv2⟩ := KV
                clear a1 a2 b1 b2 t t1 t2 vA vB oA oB hc1 hc2 n1 n2 f3 f4 lA lB
                go_wp2_with fail
                · refine wp_region_held (S := fun w' => w'.cell? ⟨pa, i, none⟩ = some (.slice (some ⟨ga, 0, none⟩) m ca) ∧ w'.cell? ⟨pb, i, none⟩ = some (.slice (some ⟨gb, 0, none⟩) m cb)) (by kernel_rfl) ?_
                  change wpAnyH _ _ _ _ _ _ _ _ (World.drew _)
                  refine anyH_take (i := 0) (d := 141) (v := (.slice (some ⟨pa, 0, none⟩) 4 4)) rfl rfl (by kernel_rfl) (by kernel_rfl) (by kernel_rfl) (fun _ _ _ h => h) (Or.inl ⟨by kernel_rfl, fun w _ => by kernel_rfl⟩) SV ?_
                  refine anyH_take (i := 1) (d := 142) (v := .int .i64 (i : Int)) rfl rfl (by kernel_rfl) (by kernel_rfl) (by kernel_rfl) (fun _ _ _ h => h) (Or.inl ⟨by kernel_rfl, fun w _ => by kernel_rfl⟩) SV ?_
                  refine anyH_take (i := 2) (d := 143) (v := .pointer (some ⟨pa, i, none⟩)) rfl rfl (by kernel_rfl) (by kernel_rfl) (by kernel_rfl) (fun _ _ _ h => h) (Or.inl ⟨by kernel_rfl, fun w hw => by obtain ⟨h1, h2⟩ := hw; go_simp⟩) SV ?_
                  refine anyH_take (i := 3) (d := 144) (v := (.slice (some ⟨ga, 0, none⟩) m ca)) rfl rfl (by kernel_rfl) (by kernel_rfl) (by kernel_rfl) (fun _ _ _ h => h) (Or.inl ⟨by kernel_rfl, fun w hw => by obtain ⟨h1, h2⟩ := hw; go_simp⟩) SV ?_
                  refine anyH_take (i := 4) (d := 145) (v := .int .i64 (k : Int)) rfl rfl (by kernel_rfl) (by kernel_rfl) (by kernel_rfl) (fun _ _ _ h => h) (Or.inl ⟨by kernel_rfl, fun w _ => by kernel_rfl⟩) SV ?_
                  refine anyH_take (i := 5) (d := 146) (v := (.slice (some ⟨pb, 0, none⟩) 4 4)) rfl rfl (by kernel_rfl) (by kernel_rfl) (by kernel_rfl) (fun _ _ _ h => h) (Or.inl ⟨by kernel_rfl, fun w _ => by kernel_rfl⟩) SV ?_
                  refine anyH_take (i := 6) (d := 147) (v := .int .i64 (i : Int)) rfl rfl (by kernel_rfl) (by kernel_rfl) (by kernel_rfl) (fun _ _ _ h => h) (Or.inl ⟨by kernel_rfl, fun w _ => by kernel_rfl⟩) SV ?_
                  refine anyH_take (i := 7) (d := 148) (v := .pointer (some ⟨pb, i, none⟩)) rfl rfl (by kernel_rfl) (by kernel_rfl) (by kernel_rfl) (fun _ _ _ h => h) (Or.inl ⟨by kernel_rfl, fun w hw => by obtain ⟨h1, h2⟩ := hw; go_simp⟩) SV ?_
                  refine anyH_take (i := 8) (d := 149) (v := (.slice (some ⟨gb, 0, none⟩) m cb)) rfl rfl (by kernel_rfl) (by kernel_rfl) (by kernel_rfl) (fun _ _ _ h => h) (Or.inl ⟨by kernel_rfl, fun w hw => by obtain ⟨h1, h2⟩ := hw; go_simp⟩) SV ?_
                  refine anyH_take (i := 9) (d := 150) (v := .int .i64 (k : Int)) rfl rfl (by kernel_rfl) (by kernel_rfl) (by kernel_rfl) (fun _ _ _ h => h) (Or.inl ⟨by kernel_rfl, fun w _ => by kernel_rfl⟩) SV ?_
                  refine anyH_take (i := 10) (d := 151) (v := .pointer (some ⟨ga, k, none⟩)) rfl rfl (by kernel_rfl) (by kernel_rfl) (by kernel_rfl) (fun _ _ _ h => h) (Or.inl ⟨by kernel_rfl, fun w hw => by obtain ⟨h1, h2⟩ := hw; go_simp⟩) SV ?_
                  refine anyH_one (i := 11) (by kernel_rfl) rfl ?_
                  refine wpList_store_u8 rfl rfl (.tmp 151) (.const (.int .u8 201)) rfl ga k 201 (by kernel_rfl) (by kernel_rfl) f1 f2 ?_
                  refine And.intro S1.out ?_
                  refine anyH_take (i := 12) (d := 152) (v := .pointer (some ⟨gb, k, none⟩)) rfl rfl (by kernel_rfl) (by kernel_rfl) (by kernel_rfl) (fun _ _ _ h => h) (Or.inl ⟨by kernel_rfl, fun w hw => by obtain ⟨h1, h2⟩ := hw; go_simp⟩) S1.out ?_
                  refine anyH_one (i := 13) (by kernel_rfl) rfl ?_
                  refine wpList_store_u8 rfl rfl (.tmp 152) (.const (.int .u8 202)) rfl gb k 202 (by kernel_rfl) (by kernel_rfl) HF.out.1 HF.out.2 ?_
                  refine And.intro S2.out ?_
                  refine wpAnyH_done (by kernel_rfl) ?_ _
                  try simp only [Act.put, List.setIfInBounds_toArray, List.set_cons_succ, List.set_cons_zero]
                  clear f1 f2 SV kv1 kv2
                  go_wp2_with fail
                  go_roundw
                  case rel => exact ⟨k + 1, A.set k 201, B.set k 202, by omega, by go_num, HO.out.2.2, by rw [List.length_set]; exact HLA.out.1, by rw [List.length_set]; exact HLA.out.2, HO.out.1, HO.out.2.1, HV.out.1, HV.out.2⟩
                  case measure => simp [intOf]; omega
              · obtain rfl : k = m := by omega
                obtain ⟨kv1, kv2⟩ := KV
                have HO := Lib.hid (And.intro oA (And.intro oB t))
                have HV := Lib.hid (And.intro vA vB)
                have HLA := Lib.hid (And.intro lA lB)
                clear oA oB t vA vB lA lB
                go_wp2_with fail
                obtain ⟨tw1, hoA, hoB, w0, hw0⟩ : ∃ (t1 : Twin zw.heap.size zw GA GB (i + 1) i i 201 202 wv.drew x y xs ys Xs Ys) (_ : wv.drew.ownsRow 0 5 1 (.slice (some ⟨ga, 0, none⟩) k ca) k (u8s A)) (_ : wv.drew.ownsRow 0 5 1 (.slice (some ⟨gb, 0, none⟩) k cb) k (u8s B)), ∃ w0, wv.drew = w0 := ⟨((TW.out.touch AP.out EG.out.1 EG.out.2 HO.out.2.2)).drew, HO.out.1, HO.out.2.1, _, rfl⟩
                have K0 : wv.drew.cell? ⟨pa, i, none⟩ = some (.slice (some ⟨ga, 0, none⟩) k ca) ∧ wv.drew.cell? ⟨pb, i, none⟩ = some (.slice (some ⟨gb, 0, none⟩) k cb) := ⟨kv1, kv2⟩
                have vA := HV.out.1
                have vB := HV.out.2
                rw [← HLA.out.1] at vA
                rw [← HLA.out.2] at vB
                refine wp_region_held (S := fun w' => w'.cell? ⟨pa, i, none⟩ = some (.slice (some ⟨ga, 0, none⟩) k ca) ∧ w'.cell? ⟨pb, i, none⟩ = some (.slice (some ⟨gb, 0, none⟩) k cb)) (by kernel_rfl) ?_
                change wpAnyH _ _ _ _ _ _ _ _ (World.drew _)
                rw [hw0] at K0 tw1 hoA hoB ⊢
                clear kv1 kv2 hw0 HKA TW HO HV HQI hlt hi hk hkm
                have xl : ∀ b, x.ownBlock = some b → zw.heap.size ≤ b ∧ b < w0.heap.size := fun b e => tw1.rx.1.lt b e
                have yl : ∀ b, y.ownBlock = some b → zw.heap.size ≤ b ∧ b < w0.heap.size := fun b e => tw1.ry.1.lt b e
                have NX : (some ga ≠ some pa ∧ some ga ≠ some pb) ∧ x.ownBlock ≠ some pa ∧ x.ownBlock ≠ some pb := ⟨NE.out.1.1, fun e => by have := (xl _ e).1; have := NE.out.2.2.2.2.1; omega, fun e => by have := (xl _ e).1; have := NE.out.2.2.2.2.2; omega⟩
                have NY : (some gb ≠ some pa ∧ some gb ≠ some pb) ∧ y.ownBlock ≠ some pa ∧ y.ownBlock ≠ some pb := ⟨NE.out.1.2, fun e => by have := (yl _ e).1; have := NE.out.2.2.2.2.1; omega, fun e => by have := (yl _ e).1; have := NE.out.2.2.2.2.2; omega⟩
                have xga : ∀ b, x.ownBlock = some b → some ga ≠ some b := fun b e e2 => by have := (xl b e).1; have := NE.out.2.2.1; have := Option.some.inj e2; omega
                have ega := tw1.offX AP.out EG.out.1
                have z0 : zw.heap.size ≤ w0.heap.size := tw1.size
                have t : Tch (some ga) x.ownBlock w0 w0 := Tch.refl
                have RX := tw1.rx
                have ti : i ≤ 3 := by omega
                refine anyH_take (i := 0) (d := 153) (v := x) rfl rfl (by kernel_rfl) (by kernel_rfl) (by kernel_rfl) (fun _ _ _ h => h) (Or.inl ⟨by kernel_rfl, fun w _ => by kernel_rfl⟩) K0 ?_
                refine anyH_take (i := 1) (d := 154) (v := (.slice (some ⟨pa, 0, none⟩) 4 4)) rfl rfl (by kernel_rfl) (by kernel_rfl) (by kernel_rfl) (fun _ _ _ h => h) (Or.inl ⟨by kernel_rfl, fun w _ => by kernel_rfl⟩) K0 ?_
                refine anyH_take (i := 2) (d := 155) (v := .int .i64 (i : Int)) rfl rfl (by kernel_rfl) (by kernel_rfl) (by kernel_rfl) (fun _ _ _ h => h) (Or.inl ⟨by kernel_rfl, fun w _ => by kernel_rfl⟩) K0 ?_
                refine anyH_take (i := 3) (d := 156) (v := .pointer (some ⟨pa, i, none⟩)) rfl rfl (by kernel_rfl) (by kernel_rfl) (by kernel_rfl) (fun _ _ _ h => h) (Or.inl ⟨by kernel_rfl, fun w hw => by obtain ⟨h1, h2⟩ := hw; go_simp⟩) K0 ?_
                refine anyH_take (i := 4) (d := 157) (v := (.slice (some ⟨ga, 0, none⟩) k ca)) rfl rfl (by kernel_rfl) (by kernel_rfl) (by kernel_rfl) (fun _ _ _ h => h) (Or.inl ⟨by kernel_rfl, fun w hw => by obtain ⟨h1, h2⟩ := hw; go_simp⟩) K0 ?_
                refine anyH_take (i := 9) (d := 162) (v := y) rfl rfl (by kernel_rfl) (by kernel_rfl) (by kernel_rfl) (fun _ _ _ h => h) (Or.inl ⟨by kernel_rfl, fun w _ => by kernel_rfl⟩) K0 ?_
                refine anyH_take (i := 10) (d := 163) (v := (.slice (some ⟨pb, 0, none⟩) 4 4)) rfl rfl (by kernel_rfl) (by kernel_rfl) (by kernel_rfl) (fun _ _ _ h => h) (Or.inl ⟨by kernel_rfl, fun w _ => by kernel_rfl⟩) K0 ?_
                refine anyH_take (i := 11) (d := 164) (v := .int .i64 (i : Int)) rfl rfl (by kernel_rfl) (by kernel_rfl) (by kernel_rfl) (fun _ _ _ h => h) (Or.inl ⟨by kernel_rfl, fun w _ => by kernel_rfl⟩) K0 ?_
                refine anyH_take (i := 12) (d := 165) (v := .pointer (some ⟨pb, i, none⟩)) rfl rfl (by kernel_rfl) (by kernel_rfl) (by kernel_rfl) (fun _ _ _ h => h) (Or.inl ⟨by kernel_rfl, fun w hw => by obtain ⟨h1, h2⟩ := hw; go_simp⟩) K0 ?_
                refine anyH_take (i := 13) (d := 166) (v := (.slice (some ⟨gb, 0, none⟩) k cb)) rfl rfl (by kernel_rfl) (by kernel_rfl) (by kernel_rfl) (fun _ _ _ h => h) (Or.inl ⟨by kernel_rfl, fun w hw => by obtain ⟨h1, h2⟩ := hw; go_simp⟩) K0 ?_
                have t0_w0 : w0.heap.size ≤ w0.heap.size := Nat.le_refl _
                refine anyH_two (i := 5) (j := 14) (by kernel_rfl) rfl rfl ?_ ?_
                · have t00 := t0_w0
                  go_wp2_with fail
                  generalize hwz1 : World.alloc _ _ = wz1
                  have qwz1 : Below w0.heap.size w0 wz1 := by rw [← hwz1]; exact (Below.refl _ _).alloc (Nat.le_refl _) _
                  replace t := t.below qwz1
                  replace hoA := own_below hoA qwz1
                  replace RX := RX.below qwz1
                  have n5 : wz1.heap[w0.heap.size]? = some (.cells #[.int .u8 201] 5 (0, 0)) := by rw [← hwz1, heap_alloc_new]
                  have t0_wz1 : w0.heap.size ≤ wz1.heap.size := t.size
                  clear hwz1
                  refine ⟨t.two K0 NX, ?_⟩
                  refine anyH_two (i := 6) (j := 14) (by kernel_rfl) rfl rfl ?_ ?_
                  · have t00 := t0_wz1
                    refine app_u8b (.tmp 157) (.tmp 158) rfl rfl 0 _ k _ (by kernel_rfl) hoA _ 201 (by kernel_rfl) n5 (by have := HM.out; omega) (Nat.zero_le _) ?_
                    intro v6 wz2 o6 g6 b6
                    have SV := text_slice o6 HLA.out.1
                    have LV : ∀ b, v6.ownBlock = some b → b < wz2.heap.size := fun b e => (o6.lt b e).2
                    have HV6 : ∀ b, v6.ownBlock = some b → b = ga ∨ w0.heap.size ≤ b := fun b e => by rcases b6 with h | h <;> rw [h] at e; exact .inl (Option.some.inj e).symm; exact .inr (by have := Option.some.inj e; have := t.size; omega)
                    obtain ⟨a6, c6, rfl, _⟩ := id SV
                    obtain ⟨n6, hn6⟩ : ∃ n, (A ++ [201]).length = n := ⟨_, rfl⟩
                    rw [hn6] at SV LV HV6 b6 ⊢
                    clear hn6
                    replace t := t.grow1 g6
                    replace RX := RX.grownB g6 xga ega
                    have t0_wz2 : w0.heap.size ≤ wz2.heap.size := t.size
                    clear o6 g6 b6 n5 hoA
                    refine And.intro (t.two K0 NX) ?_
                    refine anyH_two (i := 7) (j := 14) (by kernel_rfl) rfl rfl ?_ ?_
                    · have t00 := t0_wz2
                      go_wp2_with fail
                      generalize hwz3 : World.alloc _ _ = wz3
                      have qwz3 : Below wz2.heap.size wz2 wz3 := by rw [← hwz3]; exact (Below.refl _ _).alloc (Nat.le_refl _) _
                      replace t := t.below qwz3
                      replace RX := RX.below qwz3
                      replace SV := SV.below qwz3
                      replace LV := fun b e => Nat.lt_of_lt_of_le (LV b e) qwz3.size
                      have n7 : wz3.heap[wz2.heap.size]? = some (.cells #[(.slice a6 n6 c6)] 29 (0, 0)) := by rw [← hwz3, heap_alloc_new]
                      have t0_wz3 : w0.heap.size ≤ wz3.heap.size := t.size
                      clear hwz3
                      refine ⟨t.two K0 NX, ?_⟩
                      refine anyH_two (i := 8) (j := 14) (by kernel_rfl) rfl rfl ?_ ?_
                      · have t00 := t0_wz3
                        refine app_rows (.tmp 153) (.tmp 160) rfl rfl (by kernel_rfl) RX _ _ (A ++ [201]) (by kernel_rfl) n7 rfl SV (fun b e => ⟨LV b e, fun e2 => by rcases HV6 b e with h | h; exact xga b e2 (by rw [h]); have := (xl b e2).2; omega⟩) (Nat.le_trans z0 t.size) (by have := tw1.lx; omega) ?_
                        intro v8 wz4 RO8 g8 q8 or8
                        have HX8 : ∀ b, v8.ownBlock = some b → x.ownBlock = some b ∨ w0.heap.size ≤ b := fun b e => by rcases or8 with h | h <;> rw [h] at e; exact .inl e; exact .inr (by have := Option.some.inj e; have := t.size; omega)
                        replace t := t.grow2 g8
                        have t0_wz4 : w0.heap.size ≤ wz4.heap.size := t.size
                        clear g8 q8 or8 n7 SV LV RX
                        refine And.intro (t.two K0 NX) ?_
                        refine anyH_one (i := 14) (by kernel_rfl) rfl ?_
                        go_wp2_with fail
                        generalize hwz5 : World.alloc _ _ = wz5
                        have qwz5 : Below wz4.heap.size wz4 wz5 := by rw [← hwz5]; exact (Below.refl _ _).alloc (Nat.le_refl _) _
                        replace t := t.below qwz5
                        replace RO8 := RO8.below qwz5
                        have nq : wz5.heap[wz4.heap.size]? = some (.cells #[.int .u8 202] 5 (0, 0)) := by rw [← hwz5, heap_alloc_new]
                        have lq : w0.heap.size ≤ wz4.heap.size := Nat.le_trans t0_wz4 (Nat.le_refl _)
                        have t0_wz5 : w0.heap.size ≤ wz5.heap.size := t.size
                        clear hwz5
                        refine ⟨t.two K0 NX, ?_⟩
                        have TA := tw1.more AP.out EG.out.1 (Nat.lt_succ_self i) t RO8 vA.all HV6 HX8
                        have oB : wz5.ownsRow 0 5 1 (.slice (some ⟨gb, 0, none⟩) k cb) k (u8s B) := ownsRow_keep hoB fun b e => by cases e; exact t.block gb (Nat.lt_of_lt_of_le NE.out.2.2.2.1 z0) (fun e => NE.out.2.1 (Option.some.inj e)) (fun e => by have := (xl _ e).1; have := NE.out.2.2.2.1; omega)
                        have KB := t.two K0 NX
                        have TB := TA.swap
                        have t2 : Tch (some gb) y.ownBlock wz5 wz5 := Tch.refl
                        have egb := TB.offX AP.out.swap EG.out.2
                        have yl2 : ∀ b, y.ownBlock = some b → zw.heap.size ≤ b ∧ b < wz5.heap.size := fun b e => TB.rx.1.lt b e
                        have ygb : ∀ b, y.ownBlock = some b → some gb ≠ some b := fun b e e2 => by have := (yl2 b e).1; have := NE.out.2.2.2.1; have := Option.some.inj e2; omega
                        have zA : zw.heap.size ≤ wz5.heap.size := TB.size
                        clear tw1 t RO8 vA HV6 HX8 hoB K0 NX xga ega z0 xl yl t0_wz5 lq TA
                        refine anyH_one (i := 15) (by kernel_rfl) rfl ?_
                        refine app_u8b (.tmp 166) (.tmp 167) rfl rfl 0 _ k _ (by kernel_rfl) oB _ 202 (by kernel_rfl) nq (by have := HM.out; omega) (Nat.zero_le _) ?_
                        intro v6' wb1 o6 g6 b6
                        have SV := text_slice o6 HLA.out.2
                        have LV : ∀ b, v6'.ownBlock = some b → b < wb1.heap.size := fun b e => (o6.lt b e).2
                        have HV6 : ∀ b, v6'.ownBlock = some b → b = gb ∨ wz5.heap.size ≤ b := fun b e => by rcases b6 with h | h <;> rw [h] at e; exact .inl (Option.some.inj e).symm; exact .inr (by have := Option.some.inj e; omega)
                        obtain ⟨a7, c7, rfl, _⟩ := id SV
                        obtain ⟨n7', hn7⟩ : ∃ n, (B ++ [202]).length = n := ⟨_, rfl⟩
                        rw [hn7] at SV LV HV6 b6 ⊢
                        clear hn7
                        replace t2 := t2.grow1 g6
                        have RY := TB.rx.grownB g6 ygb egb
                        clear o6 g6 b6 nq oB
                        refine And.intro (t2.two KB NY) ?_
                        refine anyH_one (i := 16) (by kernel_rfl) rfl ?_
                        go_wp2_with fail
                        generalize hwb2 : World.alloc _ _ = wb2
                        have qb2 : Below wb1.heap.size wb1 wb2 := by rw [← hwb2]; exact (Below.refl _ _).alloc (Nat.le_refl _) _
                        have n7 : wb2.heap[wb1.heap.size]? = some (.cells #[.slice a7 n7' c7] 29 (0, 0)) := by rw [← hwb2, heap_alloc_new]
                        replace t2 := t2.below qb2
                        replace RY := RY.below qb2
                        replace SV := SV.below qb2
                        replace LV := fun b e => Nat.lt_of_lt_of_le (LV b e) qb2.size
                        clear hwb2 qb2
                        refine ⟨t2.two KB NY, ?_⟩
                        refine anyH_one (i := 17) (by kernel_rfl) rfl ?_
                        refine app_rows (.tmp 162) (.tmp 169) rfl rfl (by kernel_rfl) RY _ _ (B ++ [202]) (by kernel_rfl) n7 rfl SV (fun b e => ⟨LV b e, fun e2 => by rcases HV6 b e with h | h; exact ygb b e2 (by rw [h]); have := (yl2 b e2).2; omega⟩) (Nat.le_trans zA t2.size) (by have := TB.lx; omega) ?_
                        intro v9 wb3 RO9 g9 q9 or9
                        have HX9 : ∀ b, v9.ownBlock = some b → y.ownBlock = some b ∨ wz5.heap.size ≤ b := fun b e => by rcases or9 with h | h <;> rw [h] at e; exact .inl e; exact .inr (by have := Option.some.inj e; have := t2.size; omega)
                        replace t2 := t2.grow2 g9
                        refine And.intro (t2.two KB NY) ?_
                        have TC := (TB.more AP.out.swap EG.out.2 (Nat.lt_succ_self i) t2 RO9 vB.all HV6 HX9).swap
                        have KC := t2.two KB NY
                        clear g9 q9 or9 n7 SV LV RY t2 TB RO9 vB HV6 HX9 KB NY ygb egb zA yl2
                        refine anyH_take (i := 18) (d := 16) (v := v8) rfl rfl (by kernel_rfl) (by kernel_rfl) (by kernel_rfl) (fun _ _ _ h => h) (Or.inl ⟨by kernel_rfl, fun w _ => by kernel_rfl⟩) KC ?_
                        refine anyH_take (i := 19) (d := 17) (v := v9) rfl rfl (by kernel_rfl) (by kernel_rfl) (by kernel_rfl) (fun _ _ _ h => h) (Or.inl ⟨by kernel_rfl, fun w _ => by kernel_rfl⟩) KC ?_
                        refine wpAnyH_done (by kernel_rfl) ?_ _
                        try simp only [Act.put, List.setIfInBounds_toArray, List.set_cons_succ, List.set_cons_zero]
                        have HTC := Lib.hid TC
                        clear KC TC
                        go_wp2_with fail
                        go_roundw
                        case rel => exact ⟨i + 1, _, _, _, _, by omega, by go_num, HTC.out⟩
                        case measure => simp [intOf]; omega
                      · have t00 := t0_wz3
                        go_wp2_with fail
                        generalize hwz6 : World.alloc _ _ = wz6
                        have qwz6 : Below wz3.heap.size wz3 wz6 := by rw [← hwz6]; exact (Below.refl _ _).alloc (Nat.le_refl _) _
                        replace t := t.below qwz6
                        replace RX := RX.below qwz6
                        replace SV := SV.below qwz6
                        replace LV := fun b e => Nat.lt_of_lt_of_le (LV b e) qwz6.size
                        replace n7 := (qwz6.block _ (lt_of_heap n7)).trans n7
                        have nq : wz6.heap[wz3.heap.size]? = some (.cells #[.int .u8 202] 5 (0, 0)) := by rw [← hwz6, heap_alloc_new]
                        have lq : w0.heap.size ≤ wz3.heap.size := Nat.le_trans t0_wz3 (Nat.le_refl _)
                        have t0_wz6 : w0.heap.size ≤ wz6.heap.size := t.size
                        clear hwz6
                        refine ⟨t.two K0 NX, ?_⟩
                        refine anyH_one (i := 8) (by kernel_rfl) rfl ?_
                        refine app_rows (.tmp 153) (.tmp 160) rfl rfl (by kernel_rfl) RX _ _ (A ++ [201]) (by kernel_rfl) n7 rfl SV (fun b e => ⟨LV b e, fun e2 => by rcases HV6 b e with h | h; exact xga b e2 (by rw [h]); have := (xl b e2).2; omega⟩) (Nat.le_trans z0 t.size) (by have := tw1.lx; omega) ?_
                        intro v8 wz7 RO8 g8 q8 or8
                        have HX8 : ∀ b, v8.ownBlock = some b → x.ownBlock = some b ∨ w0.heap.size ≤ b := fun b e => by rcases or8 with h | h <;> rw [h] at e; exact .inl e; exact .inr (by have := Option.some.inj e; have := t.size; omega)
                        replace nq := (g8.block _ (lt_of_heap nq) (fun e => by have := (xl _ e.symm).2; omega)).trans nq
                        replace t := t.grow2 g8
                        have t0_wz7 : w0.heap.size ≤ wz7.heap.size := t.size
                        clear g8 q8 or8 n7 SV LV RX
                        refine And.intro (t.two K0 NX) ?_
                        have TA := tw1.more AP.out EG.out.1 (Nat.lt_succ_self i) t RO8 vA.all HV6 HX8
                        have oB : wz7.ownsRow 0 5 1 (.slice (some ⟨gb, 0, none⟩) k cb) k (u8s B) := ownsRow_keep hoB fun b e => by cases e; exact t.block gb (Nat.lt_of_lt_of_le NE.out.2.2.2.1 z0) (fun e => NE.out.2.1 (Option.some.inj e)) (fun e => by have := (xl _ e).1; have := NE.out.2.2.2.1; omega)
                        have KB := t.two K0 NX
                        have TB := TA.swap
                        have t2 : Tch (some gb) y.ownBlock wz7 wz7 := Tch.refl
                        have egb := TB.offX AP.out.swap EG.out.2
                        have yl2 : ∀ b, y.ownBlock = some b → zw.heap.size ≤ b ∧ b < wz7.heap.size := fun b e => TB.rx.1.lt b e
                        have ygb : ∀ b, y.ownBlock = some b → some gb ≠ some b := fun b e e2 => by have := (yl2 b e).1; have := NE.out.2.2.2.1; have := Option.some.inj e2; omega
                        have zA : zw.heap.size ≤ wz7.heap.size := TB.size
                        clear tw1 t RO8 vA HV6 HX8 hoB K0 NX xga ega z0 xl yl t0_wz7 lq TA
                        refine anyH_one (i := 15) (by kernel_rfl) rfl ?_
                        refine app_u8b (.tmp 166) (.tmp 167) rfl rfl 0 _ k _ (by kernel_rfl) oB _ 202 (by kernel_rfl) nq (by have := HM.out; omega) (Nat.zero_le _) ?_
                        intro v6' wb1 o6 g6 b6
                        have SV := text_slice o6 HLA.out.2
                        have LV : ∀ b, v6'.ownBlock = some b → b < wb1.heap.size := fun b e => (o6.lt b e).2
                        have HV6 : ∀ b, v6'.ownBlock = some b → b = gb ∨ wz7.heap.size ≤ b := fun b e => by rcases b6 with h | h <;> rw [h] at e; exact .inl (Option.some.inj e).symm; exact .inr (by have := Option.some.inj e; omega)
                        obtain ⟨a7, c7, rfl, _⟩ := id SV
                        obtain ⟨n7', hn7⟩ : ∃ n, (B ++ [202]).length = n := ⟨_, rfl⟩
                        rw [hn7] at SV LV HV6 b6 ⊢
                        clear hn7
                        replace t2 := t2.grow1 g6
                        have RY := TB.rx.grownB g6 ygb egb
                        clear o6 g6 b6 nq oB
                        refine And.intro (t2.two KB NY) ?_
                        refine anyH_one (i := 16) (by kernel_rfl) rfl ?_
                        go_wp2_with fail
                        generalize hwb2 : World.alloc _ _ = wb2
                        have qb2 : Below wb1.heap.size wb1 wb2 := by rw [← hwb2]; exact (Below.refl _ _).alloc (Nat.le_refl _) _
                        have n7 : wb2.heap[wb1.heap.size]? = some (.cells #[.slice a7 n7' c7] 29 (0, 0)) := by rw [← hwb2, heap_alloc_new]
                        replace t2 := t2.below qb2
                        replace RY := RY.below qb2
                        replace SV := SV.below qb2
                        replace LV := fun b e => Nat.lt_of_lt_of_le (LV b e) qb2.size
                        clear hwb2 qb2
                        refine ⟨t2.two KB NY, ?_⟩
                        refine anyH_one (i := 17) (by kernel_rfl) rfl ?_
                        refine app_rows (.tmp 162) (.tmp 169) rfl rfl (by kernel_rfl) RY _ _ (B ++ [202]) (by kernel_rfl) n7 rfl SV (fun b e => ⟨LV b e, fun e2 => by rcases HV6 b e with h | h; exact ygb b e2 (by rw [h]); have := (yl2 b e2).2; omega⟩) (Nat.le_trans zA t2.size) (by have := TB.lx; omega) ?_
                        intro v9 wb3 RO9 g9 q9 or9
                        have HX9 : ∀ b, v9.ownBlock = some b → y.ownBlock = some b ∨ wz7.heap.size ≤ b := fun b e => by rcases or9 with h | h <;> rw [h] at e; exact .inl e; exact .inr (by have := Option.some.inj e; have := t2.size; omega)
                        replace t2 := t2.grow2 g9
                        refine And.intro (t2.two KB NY) ?_
                        have TC := (TB.more AP.out.swap EG.out.2 (Nat.lt_succ_self i) t2 RO9 vB.all HV6 HX9).swap
                        have KC := t2.two KB NY
                        clear g9 q9 or9 n7 SV LV RY t2 TB RO9 vB HV6 HX9 KB NY ygb egb zA yl2
                        refine anyH_take (i := 18) (d := 16) (v := v8) rfl rfl (by kernel_rfl) (by kernel_rfl) (by kernel_rfl) (fun _ _ _ h => h) (Or.inl ⟨by kernel_rfl, fun w _ => by kernel_rfl⟩) KC ?_
                        refine anyH_take (i := 19) (d := 17) (v := v9) rfl rfl (by kernel_rfl) (by kernel_rfl) (by kernel_rfl) (fun _ _ _ h => h) (Or.inl ⟨by kernel_rfl, fun w _ => by kernel_rfl⟩) KC ?_
                        refine wpAnyH_done (by kernel_rfl) ?_ _
                        try simp only [Act.put, List.setIfInBounds_toArray, List.set_cons_succ, List.set_cons_zero]
                        have HTC := Lib.hid TC
                        clear KC TC
                        go_wp2_with fail
                        go_roundw
                        case rel => exact ⟨i + 1, _, _, _, _, by omega, by go_num, HTC.out⟩
                        case measure => simp [intOf]; omega
                    · have t00 := t0_wz2
                      go_wp2_with fail
                      generalize hwz8 : World.alloc _ _ = wz8
                      have qwz8 : Below wz2.heap.size wz2 wz8 := by rw [← hwz8]; exact (Below.refl _ _).alloc (Nat.le_refl _) _
                      replace t := t.below qwz8
                      replace RX := RX.below qwz8
                      replace SV := SV.below qwz8
                      replace LV := fun b e => Nat.lt_of_lt_of_le (LV b e) qwz8.size
                      have nq : wz8.heap[wz2.heap.size]? = some (.cells #[.int .u8 202] 5 (0, 0)) := by rw [← hwz8, heap_alloc_new]
                      have lq : w0.heap.size ≤ wz2.heap.size := Nat.le_trans t0_wz2 (Nat.le_refl _)
                      have t0_wz8 : w0.heap.size ≤ wz8.heap.size := t.size
                      clear hwz8
                      refine ⟨t.two K0 NX, ?_⟩
                      refine anyH_one (i := 7) (by kernel_rfl) rfl ?_
                      go_wp2_with fail
                      generalize hwz9 : World.alloc _ _ = wz9
                      have qwz9 : Below wz8.heap.size wz8 wz9 := by rw [← hwz9]; exact (Below.refl _ _).alloc (Nat.le_refl _) _
                      replace t := t.below qwz9
                      replace RX := RX.below qwz9
                      replace nq := (qwz9.block _ (lt_of_heap nq)).trans nq
                      replace SV := SV.below qwz9
                      replace LV := fun b e => Nat.lt_of_lt_of_le (LV b e) qwz9.size
                      have n7 : wz9.heap[wz8.heap.size]? = some (.cells #[(.slice a6 n6 c6)] 29 (0, 0)) := by rw [← hwz9, heap_alloc_new]
                      have t0_wz9 : w0.heap.size ≤ wz9.heap.size := t.size
                      clear hwz9
                      refine ⟨t.two K0 NX, ?_⟩
                      refine anyH_one (i := 8) (by kernel_rfl) rfl ?_
                      refine app_rows (.tmp 153) (.tmp 160) rfl rfl (by kernel_rfl) RX _ _ (A ++ [201]) (by kernel_rfl) n7 rfl SV (fun b e => ⟨LV b e, fun e2 => by rcases HV6 b e with h | h; exact xga b e2 (by rw [h]); have := (xl b e2).2; omega⟩) (Nat.le_trans z0 t.size) (by have := tw1.lx; omega) ?_
                      intro v8 wz10 RO8 g8 q8 or8
                      have HX8 : ∀ b, v8.ownBlock = some b → x.ownBlock = some b ∨ w0.heap.size ≤ b := fun b e => by rcases or8 with h | h <;> rw [h] at e; exact .inl e; exact .inr (by have := Option.some.inj e; have := t.size; omega)
                      replace nq := (g8.block _ (lt_of_heap nq) (fun e => by have := (xl _ e.symm).2; omega)).trans nq
                      replace t := t.grow2 g8
                      have t0_wz10 : w0.heap.size ≤ wz10.heap.size := t.size
                      clear g8 q8 or8 n7 SV LV RX
                      refine And.intro (t.two K0 NX) ?_
                      have TA := tw1.more AP.out EG.out.1 (Nat.lt_succ_self i) t RO8 vA.all HV6 HX8
                      have oB : wz10.ownsRow 0 5 1 (.slice (some ⟨gb, 0, none⟩) k cb) k (u8s B) := ownsRow_keep hoB fun b e => by cases e; exact t.block gb (Nat.lt_of_lt_of_le NE.out.2.2.2.1 z0) (fun e => NE.out.2.1 (Option.some.inj e)) (fun e => by have := (xl _ e).1; have := NE.out.2.2.2.1; omega)
                      have KB := t.two K0 NX
                      have TB := TA.swap
                      have t2 : Tch (some gb) y.ownBlock wz10 wz10 := Tch.refl
                      have egb := TB.offX AP.out.swap EG.out.2
                      have yl2 : ∀ b, y.ownBlock = some b → zw.heap.size ≤ b ∧ b < wz10.heap.size := fun b e => TB.rx.1.lt b e
                      have ygb : ∀ b, y.ownBlock = some b → some gb ≠ some b := fun b e e2 => by have := (yl2 b e).1; have := NE.out.2.2.2.1; have := Option.some.inj e2; omega
                      have zA : zw.heap.size ≤ wz10.heap.size := TB.size
                      clear tw1 t RO8 vA HV6 HX8 hoB K0 NX xga ega z0 xl yl t0_wz10 lq TA
                      refine anyH_one (i := 15) (by kernel_rfl) rfl ?_
                      refine app_u8b (.tmp 166) (.tmp 167) rfl rfl 0 _ k _ (by kernel_rfl) oB _ 202 (by kernel_rfl) nq (by have := HM.out; omega) (Nat.zero_le _) ?_
                      intro v6' wb1 o6 g6 b6
                      have SV := text_slice o6 HLA.out.2
                      have LV : ∀ b, v6'.ownBlock = some b → b < wb1.heap.size := fun b e => (o6.lt b e).2
                      have HV6 : ∀ b, v6'.ownBlock = some b → b = gb ∨ wz10.heap.size ≤ b := fun b e => by rcases b6 with h | h <;> rw [h] at e; exact .inl (Option.some.inj e).symm; exact .inr (by have := Option.some.inj e; omega)
                      obtain ⟨a7, c7, rfl, _⟩ := id SV
                      obtain ⟨n7', hn7⟩ : ∃ n, (B ++ [202]).length = n := ⟨_, rfl⟩
                      rw [hn7] at SV LV HV6 b6 ⊢
                      clear hn7
                      replace t2 := t2.grow1 g6
                      have RY := TB.rx.grownB g6 ygb egb
                      clear o6 g6 b6 nq oB
                      refine And.intro (t2.two KB NY) ?_
                      refine anyH_one (i := 16) (by kernel_rfl) rfl ?_
                      go_wp2_with fail
                      generalize hwb2 : World.alloc _ _ = wb2
                      have qb2 : Below wb1.heap.size wb1 wb2 := by rw [← hwb2]; exact (Below.refl _ _).alloc (Nat.le_refl _) _
                      have n7 : wb2.heap[wb1.heap.size]? = some (.cells #[.slice a7 n7' c7] 29 (0, 0)) := by rw [← hwb2, heap_alloc_new]
                      replace t2 := t2.below qb2
                      replace RY := RY.below qb2
                      replace SV := SV.below qb2
                      replace LV := fun b e => Nat.lt_of_lt_of_le (LV b e) qb2.size
                      clear hwb2 qb2
                      refine ⟨t2.two KB NY, ?_⟩
                      refine anyH_one (i := 17) (by kernel_rfl) rfl ?_
                      refine app_rows (.tmp 162) (.tmp 169) rfl rfl (by kernel_rfl) RY _ _ (B ++ [202]) (by kernel_rfl) n7 rfl SV (fun b e => ⟨LV b e, fun e2 => by rcases HV6 b e with h | h; exact ygb b e2 (by rw [h]); have := (yl2 b e2).2; omega⟩) (Nat.le_trans zA t2.size) (by have := TB.lx; omega) ?_
                      intro v9 wb3 RO9 g9 q9 or9
                      have HX9 : ∀ b, v9.ownBlock = some b → y.ownBlock = some b ∨ wz10.heap.size ≤ b := fun b e => by rcases or9 with h | h <;> rw [h] at e; exact .inl e; exact .inr (by have := Option.some.inj e; have := t2.size; omega)
                      replace t2 := t2.grow2 g9
                      refine And.intro (t2.two KB NY) ?_
                      have TC := (TB.more AP.out.swap EG.out.2 (Nat.lt_succ_self i) t2 RO9 vB.all HV6 HX9).swap
                      have KC := t2.two KB NY
                      clear g9 q9 or9 n7 SV LV RY t2 TB RO9 vB HV6 HX9 KB NY ygb egb zA yl2
                      refine anyH_take (i := 18) (d := 16) (v := v8) rfl rfl (by kernel_rfl) (by kernel_rfl) (by kernel_rfl) (fun _ _ _ h => h) (Or.inl ⟨by kernel_rfl, fun w _ => by kernel_rfl⟩) KC ?_
                      refine anyH_take (i := 19) (d := 17) (v := v9) rfl rfl (by kernel_rfl) (by kernel_rfl) (by kernel_rfl) (fun _ _ _ h => h) (Or.inl ⟨by kernel_rfl, fun w _ => by kernel_rfl⟩) KC ?_
                      refine wpAnyH_done (by kernel_rfl) ?_ _
                      try simp only [Act.put, List.setIfInBounds_toArray, List.set_cons_succ, List.set_cons_zero]
                      have HTC := Lib.hid TC
                      clear KC TC
                      go_wp2_with fail
                      go_roundw
                      case rel => exact ⟨i + 1, _, _, _, _, by omega, by go_num, HTC.out⟩
                      case measure => simp [intOf]; omega
                  · have t00 := t0_wz1
                    go_wp2_with fail
                    generalize hwz11 : World.alloc _ _ = wz11
                    have qwz11 : Below wz1.heap.size wz1 wz11 := by rw [← hwz11]; exact (Below.refl _ _).alloc (Nat.le_refl _) _
                    replace t := t.below qwz11
                    replace hoA := own_below hoA qwz11
                    replace RX := RX.below qwz11
                    replace n5 := (qwz11.block _ (lt_of_heap n5)).trans n5
                    have nq : wz11.heap[wz1.heap.size]? = some (.cells #[.int .u8 202] 5 (0, 0)) := by rw [← hwz11, heap_alloc_new]
                    have lq : w0.heap.size ≤ wz1.heap.size := Nat.le_trans t0_wz1 (Nat.le_refl _)
                    have t0_wz11 : w0.heap.size ≤ wz11.heap.size := t.size
                    clear hwz11
                    refine ⟨t.two K0 NX, ?_⟩
                    refine anyH_one (i := 6) (by kernel_rfl) rfl ?_
                    refine app_u8b (.tmp 157) (.tmp 158) rfl rfl 0 _ k _ (by kernel_rfl) hoA _ 201 (by kernel_rfl) n5 (by have := HM.out; omega) (Nat.zero_le _) ?_
                    intro v6 wz12 o6 g6 b6
                    have SV := text_slice o6 HLA.out.1
                    have LV : ∀ b, v6.ownBlock = some b → b < wz12.heap.size := fun b e => (o6.lt b e).2
                    have HV6 : ∀ b, v6.ownBlock = some b → b = ga ∨ w0.heap.size ≤ b := fun b e => by rcases b6 with h | h <;> rw [h] at e; exact .inl (Option.some.inj e).symm; exact .inr (by have := Option.some.inj e; have := t.size; omega)
                    obtain ⟨a6, c6, rfl, _⟩ := id SV
                    obtain ⟨n6, hn6⟩ : ∃ n, (A ++ [201]).length = n := ⟨_, rfl⟩
                    rw [hn6] at SV LV HV6 b6 ⊢
                    clear hn6
                    replace t := t.grow1 g6
                    replace RX := RX.grownB g6 xga ega
                    replace nq := (g6.block _ (lt_of_heap nq) (fun e => by have : wz1.heap.size = ga := Option.some.inj e; have := NE.out.2.2.1; omega)).trans nq
                    have t0_wz12 : w0.heap.size ≤ wz12.heap.size := t.size
                    clear o6 g6 b6 n5 hoA
                    refine And.intro (t.two K0 NX) ?_
                    refine anyH_one (i := 7) (by kernel_rfl) rfl ?_
                    go_wp2_with fail
                    generalize hwz13 : World.alloc _ _ = wz13
                    have qwz13 : Below wz12.heap.size wz12 wz13 := by rw [← hwz13]; exact (Below.refl _ _).alloc (Nat.le_refl _) _
                    replace t := t.below qwz13
                    replace RX := RX.below qwz13
                    replace nq := (qwz13.block _ (lt_of_heap nq)).trans nq
                    replace SV := SV.below qwz13
                    replace LV := fun b e => Nat.lt_of_lt_of_le (LV b e) qwz13.size
                    have n7 : wz13.heap[wz12.heap.size]? = some (.cells #[(.slice a6 n6 c6)] 29 (0, 0)) := by rw [← hwz13, heap_alloc_new]
                    have t0_wz13 : w0.heap.size ≤ wz13.heap.size := t.size
                    clear hwz13
                    refine ⟨t.two K0 NX, ?_⟩
                    refine anyH_one (i := 8) (by kernel_rfl) rfl ?_
                    refine app_rows (.tmp 153) (.tmp 160) rfl rfl (by kernel_rfl) RX _ _ (A ++ [201]) (by kernel_rfl) n7 rfl SV (fun b e => ⟨LV b e, fun e2 => by rcases HV6 b e with h | h; exact xga b e2 (by rw [h]); have := (xl b e2).2; omega⟩) (Nat.le_trans z0 t.size) (by have := tw1.lx; omega) ?_
                    intro v8 wz14 RO8 g8 q8 or8
                    have HX8 : ∀ b, v8.ownBlock = some b → x.ownBlock = some b ∨ w0.heap.size ≤ b := fun b e => by rcases or8 with h | h <;> rw [h] at e; exact .inl e; exact .inr (by have := Option.some.inj e; have := t.size; omega)
                    replace nq := (g8.block _ (lt_of_heap nq) (fun e => by have := (xl _ e.symm).2; omega)).trans nq
                    replace t := t.grow2 g8
                    have t0_wz14 : w0.heap.size ≤ wz14.heap.size := t.size
                    clear g8 q8 or8 n7 SV LV RX
                    refine And.intro (t.two K0 NX) ?_
                    have TA := tw1.more AP.out EG.out.1 (Nat.lt_succ_self i) t RO8 vA.all HV6 HX8
                    have oB : wz14.ownsRow 0 5 1 (.slice (some ⟨gb, 0, none⟩) k cb) k (u8s B) := ownsRow_keep hoB fun b e => by cases e; exact t.block gb (Nat.lt_of_lt_of_le NE.out.2.2.2.1 z0) (fun e => NE.out.2.1 (Option.some.inj e)) (fun e => by have := (xl _ e).1; have := NE.out.2.2.2.1; omega)
                    have KB := t.two K0 NX
                    have TB := TA.swap
                    have t2 : Tch (some gb) y.ownBlock wz14 wz14 := Tch.refl
                    have egb := TB.offX AP.out.swap EG.out.2
                    have yl2 : ∀ b, y.ownBlock = some b → zw.heap.size ≤ b ∧ b < wz14.heap.size := fun b e => TB.rx.1.lt b e
                    have ygb : ∀ b, y.ownBlock = some b → some gb ≠ some b := fun b e e2 => by have := (yl2 b e).1; have := NE.out.2.2.2.1; have := Option.some.inj e2; omega
                    have zA : zw.heap.size ≤ wz14.heap.size := TB.size
                    clear tw1 t RO8 vA HV6 HX8 hoB K0 NX xga ega z0 xl yl t0_wz14 lq TA
                    refine anyH_one (i := 15) (by kernel_rfl) rfl ?_
                    refine app_u8b (.tmp 166) (.tmp 167) rfl rfl 0 _ k _ (by kernel_rfl) oB _ 202 (by kernel_rfl) nq (by have := HM.out; omega) (Nat.zero_le _) ?_
                    intro v6' wb1 o6 g6 b6
                    have SV := text_slice o6 HLA.out.2
                    have LV : ∀ b, v6'.ownBlock = some b → b < wb1.heap.size := fun b e => (o6.lt b e).2
                    have HV6 : ∀ b, v6'.ownBlock = some b → b = gb ∨ wz14.heap.size ≤ b := fun b e => by rcases b6 with h | h <;> rw [h] at e; exact .inl (Option.some.inj e).symm; exact .inr (by have := Option.some.inj e; omega)
                    obtain ⟨a7, c7, rfl, _⟩ := id SV
                    obtain ⟨n7', hn7⟩ : ∃ n, (B ++ [202]).length = n := ⟨_, rfl⟩
                    rw [hn7] at SV LV HV6 b6 ⊢
                    clear hn7
                    replace t2 := t2.grow1 g6
                    have RY := TB.rx.grownB g6 ygb egb
                    clear o6 g6 b6 nq oB
                    refine And.intro (t2.two KB NY) ?_
                    refine anyH_one (i := 16) (by kernel_rfl) rfl ?_
                    go_wp2_with fail
                    generalize hwb2 : World.alloc _ _ = wb2
                    have qb2 : Below wb1.heap.size wb1 wb2 := by rw [← hwb2]; exact (Below.refl _ _).alloc (Nat.le_refl _) _
                    have n7 : wb2.heap[wb1.heap.size]? = some (.cells #[.slice a7 n7' c7] 29 (0, 0)) := by rw [← hwb2, heap_alloc_new]
                    replace t2 := t2.below qb2
                    replace RY := RY.below qb2
                    replace SV := SV.below qb2
                    replace LV := fun b e => Nat.lt_of_lt_of_le (LV b e) qb2.size
                    clear hwb2 qb2
                    refine ⟨t2.two KB NY, ?_⟩
                    refine anyH_one (i := 17) (by kernel_rfl) rfl ?_
                    refine app_rows (.tmp 162) (.tmp 169) rfl rfl (by kernel_rfl) RY _ _ (B ++ [202]) (by kernel_rfl) n7 rfl SV (fun b e => ⟨LV b e, fun e2 => by rcases HV6 b e with h | h; exact ygb b e2 (by rw [h]); have := (yl2 b e2).2; omega⟩) (Nat.le_trans zA t2.size) (by have := TB.lx; omega) ?_
                    intro v9 wb3 RO9 g9 q9 or9
                    have HX9 : ∀ b, v9.ownBlock = some b → y.ownBlock = some b ∨ wz14.heap.size ≤ b := fun b e => by rcases or9 with h | h <;> rw [h] at e; exact .inl e; exact .inr (by have := Option.some.inj e; have := t2.size; omega)
                    replace t2 := t2.grow2 g9
                    refine And.intro (t2.two KB NY) ?_
                    have TC := (TB.more AP.out.swap EG.out.2 (Nat.lt_succ_self i) t2 RO9 vB.all HV6 HX9).swap
                    have KC := t2.two KB NY
                    clear g9 q9 or9 n7 SV LV RY t2 TB RO9 vB HV6 HX9 KB NY ygb egb zA yl2
                    refine anyH_take (i := 18) (d := 16) (v := v8) rfl rfl (by kernel_rfl) (by kernel_rfl) (by kernel_rfl) (fun _ _ _ h => h) (Or.inl ⟨by kernel_rfl, fun w _ => by kernel_rfl⟩) KC ?_
                    refine anyH_take (i := 19) (d := 17) (v := v9) rfl rfl (by kernel_rfl) (by kernel_rfl) (by kernel_rfl) (fun _ _ _ h => h) (Or.inl ⟨by kernel_rfl, fun w _ => by kernel_rfl⟩) KC ?_
                    refine wpAnyH_done (by kernel_rfl) ?_ _
                    try simp only [Act.put, List.setIfInBounds_toArray, List.set_cons_succ, List.set_cons_zero]
                    have HTC := Lib.hid TC
                    clear KC TC
                    go_wp2_with fail
                    go_roundw
                    case rel => exact ⟨i + 1, _, _, _, _, by omega, by go_num, HTC.out⟩
                    case measure => simp [intOf]; omega
                · have t00 := t0_w0
                  go_wp2_with fail
                  generalize hwz15 : World.alloc _ _ = wz15
                  have qwz15 : Below w0.heap.size w0 wz15 := by rw [← hwz15]; exact (Below.refl _ _).alloc (Nat.le_refl _) _
                  replace t := t.below qwz15
                  replace hoA := own_below hoA qwz15
                  replace RX := RX.below qwz15
                  have nq : wz15.heap[w0.heap.size]? = some (.cells #[.int .u8 202] 5 (0, 0)) := by rw [← hwz15, heap_alloc_new]
                  have lq : w0.heap.size ≤ w0.heap.size := Nat.le_trans t0_w0 (Nat.le_refl _)
                  have t0_wz15 : w0.heap.size ≤ wz15.heap.size := t.size
                  clear hwz15
                  refine ⟨t.two K0 NX, ?_⟩
                  refine anyH_one (i := 5) (by kernel_rfl) rfl ?_
                  go_wp2_with fail
                  generalize hwz16 : World.alloc _ _ = wz16
                  have qwz16 : Below wz15.heap.size wz15 wz16 := by rw [← hwz16]; exact (Below.refl _ _).alloc (Nat.le_refl _) _
                  replace t := t.below qwz16
                  replace hoA := own_below hoA qwz16
                  replace RX := RX.below qwz16
                  replace nq := (qwz16.block _ (lt_of_heap nq)).trans nq
                  have n5 : wz16.heap[wz15.heap.size]? = some (.cells #[.int .u8 201] 5 (0, 0)) := by rw [← hwz16, heap_alloc_new]
                  have t0_wz16 : w0.heap.size ≤ wz16.heap.size := t.size
                  clear hwz16
                  refine ⟨t.two K0 NX, ?_⟩
                  refine anyH_one (i := 6) (by kernel_rfl) rfl ?_
                  refine app_u8b (.tmp 157) (.tmp 158) rfl rfl 0 _ k _ (by kernel_rfl) hoA _ 201 (by kernel_rfl) n5 (by have := HM.out; omega) (Nat.zero_le _) ?_
                  intro v6 wz17 o6 g6 b6
                  have SV := text_slice o6 HLA.out.1
                  have LV : ∀ b, v6.ownBlock = some b → b < wz17.heap.size := fun b e => (o6.lt b e).2
                  have HV6 : ∀ b, v6.ownBlock = some b → b = ga ∨ w0.heap.size ≤ b := fun b e => by rcases b6 with h | h <;> rw [h] at e; exact .inl (Option.some.inj e).symm; exact .inr (by have := Option.some.inj e; have := t.size; omega)
                  obtain ⟨a6, c6, rfl, _⟩ := id SV
                  obtain ⟨n6, hn6⟩ : ∃ n, (A ++ [201]).length = n := ⟨_, rfl⟩
                  rw [hn6] at SV LV HV6 b6 ⊢
                  clear hn6
                  replace t := t.grow1 g6
                  replace RX := RX.grownB g6 xga ega
                  replace nq := (g6.block _ (lt_of_heap nq) (fun e => by have : w0.heap.size = ga := Option.some.inj e; have := NE.out.2.2.1; omega)).trans nq
                  have t0_wz17 : w0.heap.size ≤ wz17.heap.size := t.size
                  clear o6 g6 b6 n5 hoA
                  refine And.intro (t.two K0 NX) ?_
                  refine anyH_one (i := 7) (by kernel_rfl) rfl ?_
                  go_wp2_with fail
                  generalize hwz18 : World.alloc _ _ = wz18
                  have qwz18 : Below wz17.heap.size wz17 wz18 := by rw [← hwz18]; exact (Below.refl _ _).alloc (Nat.le_refl _) _
                  replace t := t.below qwz18
                  replace RX := RX.below qwz18
                  replace nq := (qwz18.block _ (lt_of_heap nq)).trans nq
                  replace SV := SV.below qwz18
                  replace LV := fun b e => Nat.lt_of_lt_of_le (LV b e) qwz18.size
                  have n7 : wz18.heap[wz17.heap.size]? = some (.cells #[(.slice a6 n6 c6)] 29 (0, 0)) := by rw [← hwz18, heap_alloc_new]
                  have t0_wz18 : w0.heap.size ≤ wz18.heap.size := t.size
                  clear hwz18
                  refine ⟨t.two K0 NX, ?_⟩
                  refine anyH_one (i := 8) (by kernel_rfl) rfl ?_
                  refine app_rows (.tmp 153) (.tmp 160) rfl rfl (by kernel_rfl) RX _ _ (A ++ [201]) (by kernel_rfl) n7 rfl SV (fun b e => ⟨LV b e, fun e2 => by rcases HV6 b e with h | h; exact xga b e2 (by rw [h]); have := (xl b e2).2; omega⟩) (Nat.le_trans z0 t.size) (by have := tw1.lx; omega) ?_
                  intro v8 wz19 RO8 g8 q8 or8
                  have HX8 : ∀ b, v8.ownBlock = some b → x.ownBlock = some b ∨ w0.heap.size ≤ b := fun b e => by rcases or8 with h | h <;> rw [h] at e; exact .inl e; exact .inr (by have := Option.some.inj e; have := t.size; omega)
                  replace nq := (g8.block _ (lt_of_heap nq) (fun e => by have := (xl _ e.symm).2; omega)).trans nq
                  replace t := t.grow2 g8
                  have t0_wz19 : w0.heap.size ≤ wz19.heap.size := t.size
                  clear g8 q8 or8 n7 SV LV RX
                  refine And.intro (t.two K0 NX) ?_
                  have TA := tw1.more AP.out EG.out.1 (Nat.lt_succ_self i) t RO8 vA.all HV6 HX8
                  have oB : wz19.ownsRow 0 5 1 (.slice (some ⟨gb, 0, none⟩) k cb) k (u8s B) := ownsRow_keep hoB fun b e => by cases e; exact t.block gb (Nat.lt_of_lt_of_le NE.out.2.2.2.1 z0) (fun e => NE.out.2.1 (Option.some.inj e)) (fun e => by have := (xl _ e).1; have := NE.out.2.2.2.1; omega)
                  have KB := t.two K0 NX
                  have TB := TA.swap
                  have t2 : Tch (some gb) y.ownBlock wz19 wz19 := Tch.refl
                  have egb := TB.offX AP.out.swap EG.out.2
                  have yl2 : ∀ b, y.ownBlock = some b → zw.heap.size ≤ b ∧ b < wz19.heap.size := fun b e => TB.rx.1.lt b e
                  have ygb : ∀ b, y.ownBlock = some b → some gb ≠ some b := fun b e e2 => by have := (yl2 b e).1; have := NE.out.2.2.2.1; have := Option.some.inj e2; omega
                  have zA : zw.heap.size ≤ wz19.heap.size := TB.size
                  clear tw1 t RO8 vA HV6 HX8 hoB K0 NX xga ega z0 xl yl t0_wz19 lq TA
                  refine anyH_one (i := 15) (by kernel_rfl) rfl ?_
                  refine app_u8b (.tmp 166) (.tmp 167) rfl rfl 0 _ k _ (by kernel_rfl) oB _ 202 (by kernel_rfl) nq (by have := HM.out; omega) (Nat.zero_le _) ?_
                  intro v6' wb1 o6 g6 b6
                  have SV := text_slice o6 HLA.out.2
                  have LV : ∀ b, v6'.ownBlock = some b → b < wb1.heap.size := fun b e => (o6.lt b e).2
                  have HV6 : ∀ b, v6'.ownBlock = some b → b = gb ∨ wz19.heap.size ≤ b := fun b e => by rcases b6 with h | h <;> rw [h] at e; exact .inl (Option.some.inj e).symm; exact .inr (by have := Option.some.inj e; omega)
                  obtain ⟨a7, c7, rfl, _⟩ := id SV
                  obtain ⟨n7', hn7⟩ : ∃ n, (B ++ [202]).length = n := ⟨_, rfl⟩
                  rw [hn7] at SV LV HV6 b6 ⊢
                  clear hn7
                  replace t2 := t2.grow1 g6
                  have RY := TB.rx.grownB g6 ygb egb
                  clear o6 g6 b6 nq oB
                  refine And.intro (t2.two KB NY) ?_
                  refine anyH_one (i := 16) (by kernel_rfl) rfl ?_
                  go_wp2_with fail
                  generalize hwb2 : World.alloc _ _ = wb2
                  have qb2 : Below wb1.heap.size wb1 wb2 := by rw [← hwb2]; exact (Below.refl _ _).alloc (Nat.le_refl _) _
                  have n7 : wb2.heap[wb1.heap.size]? = some (.cells #[.slice a7 n7' c7] 29 (0, 0)) := by rw [← hwb2, heap_alloc_new]
                  replace t2 := t2.below qb2
                  replace RY := RY.below qb2
                  replace SV := SV.below qb2
                  replace LV := fun b e => Nat.lt_of_lt_of_le (LV b e) qb2.size
                  clear hwb2 qb2
                  refine ⟨t2.two KB NY, ?_⟩
                  refine anyH_one (i := 17) (by kernel_rfl) rfl ?_
                  refine app_rows (.tmp 162) (.tmp 169) rfl rfl (by kernel_rfl) RY _ _ (B ++ [202]) (by kernel_rfl) n7 rfl SV (fun b e => ⟨LV b e, fun e2 => by rcases HV6 b e with h | h; exact ygb b e2 (by rw [h]); have := (yl2 b e2).2; omega⟩) (Nat.le_trans zA t2.size) (by have := TB.lx; omega) ?_
                  intro v9 wb3 RO9 g9 q9 or9
                  have HX9 : ∀ b, v9.ownBlock = some b → y.ownBlock = some b ∨ wz19.heap.size ≤ b := fun b e => by rcases or9 with h | h <;> rw [h] at e; exact .inl e; exact .inr (by have := Option.some.inj e; have := t2.size; omega)
                  replace t2 := t2.grow2 g9
                  refine And.intro (t2.two KB NY) ?_
                  have TC := (TB.more AP.out.swap EG.out.2 (Nat.lt_succ_self i) t2 RO9 vB.all HV6 HX9).swap
                  have KC := t2.two KB NY
                  clear g9 q9 or9 n7 SV LV RY t2 TB RO9 vB HV6 HX9 KB NY ygb egb zA yl2
                  refine anyH_take (i := 18) (d := 16) (v := v8) rfl rfl (by kernel_rfl) (by kernel_rfl) (by kernel_rfl) (fun _ _ _ h => h) (Or.inl ⟨by kernel_rfl, fun w _ => by kernel_rfl⟩) KC ?_
                  refine anyH_take (i := 19) (d := 17) (v := v9) rfl rfl (by kernel_rfl) (by kernel_rfl) (by kernel_rfl) (fun _ _ _ h => h) (Or.inl ⟨by kernel_rfl, fun w _ => by kernel_rfl⟩) KC ?_
                  refine wpAnyH_done (by kernel_rfl) ?_ _
                  try simp only [Act.put, List.setIfInBounds_toArray, List.set_cons_succ, List.set_cons_zero]
                  have HTC := Lib.hid TC
                  clear KC TC
                  go_wp2_with fail
                  go_roundw
                  case rel => exact ⟨i + 1, _, _, _, _, by omega, by go_num, HTC.out⟩
                  case measure => simp [intOf]; omega
          · obtain rfl : i = 4 := by omega
            rw [show ((4 : Nat) : Int) = 4 from rfl]
            have BZ : Below Z wb wj := (HTZ.out.2.2).trans (tw.below ez9.out (fun i g h => (FAR.out.1 i g h).1))
            have RG : RowAt wb.heap.size wj (.slice (some ⟨gv, 0, none⟩) dt.length cv) dt := HRZ.out.keepB fun b e => by
              have hb : gv = b := Option.some.inj e
              rw [← hb]
              exact tw.sp gv FAR.out.2.2.2.2.2 fun j hj => ⟨fun e => (FAR.out.1 j gv (.inl e)).2.2.2.2.2.1 rfl, fun e => (FAR.out.1 j gv (.inr e)).2.2.2.2.2.1 rfl⟩
            have CW : wj.cell? ⟨pw, 0, none⟩ = some (.slice (some ⟨gw0, 0, none⟩) (dt.length + 1) cw0) := (World.cell?_of_block (a := ⟨pw, 0, none⟩) (tw.sp pw FAR.out.2.2.2.1 fun j hj => ⟨fun e => (FAR.out.1 j pw (.inl e)).2.2.2.1 rfl, fun e => (FAR.out.1 j pw (.inr e)).2.2.2.1 rfl⟩)).trans CW0.out
            have SW : SliceOf u8c wj (.slice (some ⟨gw0, 0, none⟩) (dt.length + 1) cw0) (0 :: dt) := HWT.out.keepB fun b e => by
              have hb : gw0 = b := Option.some.inj e
              rw [← hb]
              exact tw.sp gw0 FAR.out.2.2.2.2.1 fun j hj => ⟨fun e => (FAR.out.1 j gw0 (.inl e)).2.2.2.2.1 rfl, fun e => (FAR.out.1 j gw0 (.inr e)).2.2.2.2.1 rfl⟩
            obtain ⟨ax, cx, rfl, _⟩ := tw.rx.at.1.form
            obtain ⟨ay, cy, rfl, _⟩ := tw.ry.at.1.form
            rw [tw.lx, tw.ly] at tw ⊢
            have HE := Lib.hid (And.intro BZ (And.intro RG (And.intro CW SW)))
            have TW := Lib.hid tw
            have b0 : Below wj.heap.size wj wj := Below.refl _ _
            clear BZ RG CW SW tw hlt hi HQI
            go_wp2_with fail
            go_loopw [20] (fun z wr => ∃ i : Nat, i ≤ 4 ∧ z = .int .i64 (i : Int) ∧ Below wj.heap.size wj wr) (fun z _ => 4 - (intOf z).toNat)
            case atStart => exact ⟨0, by omega, rfl, b0⟩
            case round =>
              obtain ⟨i, hi, rfl, q⟩ := hrel
              clear b0
              obtain ⟨wk, hwk⟩ : ∃ w, w = wr := ⟨_, rfl⟩
              subst hwk
              by_cases hlt : i < 4
              · have hlt := hlt
                obtain ⟨x1, hx1⟩ : ∃ x, xs[i]? = some x := ⟨xs[i]'(by rw [TW.out.lx]; exact hlt), List.getElem?_eq_getElem _⟩
                obtain ⟨L1, hL1⟩ : ∃ x, Xs[i]? = some x := ⟨Xs[i]'(by rw [← TW.out.rx.2.1, TW.out.lx]; exact hlt), List.getElem?_eq_getElem _⟩
                obtain ⟨axb, rfl, cx1⟩ := (TW.out.rx.below q).base2 hx1
                have sx1 := ((TW.out.rx.below q).2.2 i x1 L1 hx1 hL1).1
                have mx1 := TW.out.mx L1 (List.mem_of_getElem? hL1)
                obtain ⟨x2, hx2⟩ : ∃ x, ys[i]? = some x := ⟨ys[i]'(by rw [TW.out.ly]; exact hlt), List.getElem?_eq_getElem _⟩
                obtain ⟨L2, hL2⟩ : ∃ x, Ys[i]? = some x := ⟨Ys[i]'(by rw [← TW.out.ry.2.1, TW.out.ly]; exact hlt), List.getElem?_eq_getElem _⟩
                obtain ⟨ayb, rfl, cx2⟩ := (TW.out.ry.below q).base2 hx2
                have sx2 := ((TW.out.ry.below q).2.2 i x2 L2 hx2 hL2).1
                have mx2 := TW.out.my L2 (List.mem_of_getElem? hL2)
                have A1 := Lib.hid (show Calls Tryd.prog 41 #[x1, .int .u8 201] wk _ from all_any wk sx1 mx1)
                have HS2 := Lib.hid (And.intro sx2 mx2)
                have HC2 := Lib.hid cx2
                have HQ := Lib.hid q
                have ii : (i : Int) < 4 := by omega
                have i0 : (0 : Int) ≤ (i : Int) := by omega
                clear hx1 hL1 hx2 hL2 sx1 sx2 mx1 mx2 cx2 q
                go_wp2_with fail
                refine A1.out.mono ?_
                rintro e wl ⟨rfl, ql⟩
                have cx2 : wl.cell? ⟨ayb, i, none⟩ = some x2 := (ql.cell (p := ⟨ayb, i, none⟩) (World.block_lt_of_cell? _ _ HC2.out)).trans HC2.out
                have A2 := Lib.hid (show Calls Tryd.prog 41 #[x2, .int .u8 202] wl _ from all_any wl (HS2.out.1.below ql) HS2.out.2)
                have HQL := Lib.hid (HQ.out.trans (ql.mono HQ.out.size))
                clear ql cx1
                go_wp2_with fail
                refine A2.out.mono ?_
                rintro e wm ⟨rfl, qm⟩
                have q9 := HQL.out.trans (qm.mono HQL.out.size)
                clear qm cx2
                go_wp2_with fail
                go_roundw
                case rel => exact ⟨i + 1, by omega, by go_num, q9⟩
                case measure => simp [intOf]; omega
              · obtain rfl : i = 4 := by omega
                rw [show ((4 : Nat) : Int) = 4 from rfl]
                have HQ := Lib.hid q
                have HEB := HE.out.1.trans (q.mono (by have := HE.out.1.size; have := HZ.out; omega))
                have RG2 := HE.out.2.1.below q
                have CW2 : wk.cell? ⟨pw, 0, none⟩ = some (.slice (some ⟨gw0, 0, none⟩) (dt.length + 1) cw0) := (q.cell (p := ⟨pw, 0, none⟩) (World.block_lt_of_cell? _ _ HE.out.2.2.1)).trans HE.out.2.2.1
                have SW2 := HE.out.2.2.2.below q
                clear q hlt hi
                go_wp2_with fail
                refine wp_region_held (S := fun w' => w'.cell? ⟨pw, 0, none⟩ = some (.slice (some ⟨gw0, 0, none⟩) (dt.length + 1) cw0) ∧ Below wk.heap.size wk w') (by kernel_rfl) ?_
                change wpAnyH _ _ _ _ _ _ _ _ (World.drew _)
                have pl : pw < wk.heap.size := World.block_lt_of_cell? _ _ CW2
                have T0 : wk.drew.cell? ⟨pw, 0, none⟩ = some (.slice (some ⟨gw0, 0, none⟩) (dt.length + 1) cw0) ∧ Below wk.heap.size wk wk.drew := ⟨CW2, (Below.refl _ _).drew⟩
                have go9 : ∀ {u u' : World}, (u.cell? ⟨pw, 0, none⟩ = some (.slice (some ⟨gw0, 0, none⟩) (dt.length + 1) cw0) ∧ Below wk.heap.size wk u) → Below u.heap.size u u' → u'.cell? ⟨pw, 0, none⟩ = some (.slice (some ⟨gw0, 0, none⟩) (dt.length + 1) cw0) ∧ Below wk.heap.size wk u' := fun h q => ⟨(q.cell (p := ⟨pw, 0, none⟩) (World.block_lt_of_cell? _ _ h.1)).trans h.1, h.2.trans (q.mono h.2.size)⟩
                refine anyH_take (i := 0) (d := 189) (v := (.slice (some ⟨gv, 0, none⟩) dt.length cv)) rfl rfl (by kernel_rfl) (by kernel_rfl) (by kernel_rfl) (fun _ _ _ h => h) (Or.inl ⟨by kernel_rfl, fun w _ => by kernel_rfl⟩) T0 ?_
                refine anyH_take (i := 1) (d := 190) (v := (.slice aD dt.length cD)) rfl rfl (by kernel_rfl) (by kernel_rfl) (by kernel_rfl) (fun _ _ _ h => h) (Or.inl ⟨by kernel_rfl, fun w _ => by kernel_rfl⟩) T0 ?_
                have C1 := same2_any wk.drew (RG2.below T0.2).slice (HSD.out.below (by rw [HZ.out]; exact HEB.trans (T0.2.mono (by have := HEB.size; have := HZ.out; omega))))
                rw [decide_eq_true rfl] at C1
                refine anyH_enter1 (i := 2) (d := 191) (by kernel_rfl) rfl rfl (by kernel_rfl) (C1) (by kernel_rfl) ?_
                intro y1 p1
                have T1 := go9 T0 p1
                refine ⟨T1, ?_⟩
                refine anyH_take (i := 3) (d := 192) (v := .bool true) rfl rfl (by kernel_rfl) (by kernel_rfl) (by kernel_rfl) (fun _ _ _ h => h) (Or.inl ⟨by kernel_rfl, fun w _ => by kernel_rfl⟩) T1 ?_
                refine anyH_take (i := 4) (d := 193) (v := (.slice (some ⟨gv, 0, none⟩) dt.length cv)) rfl rfl (by kernel_rfl) (by kernel_rfl) (by kernel_rfl) (fun _ _ _ h => h) (Or.inl ⟨by kernel_rfl, fun w _ => by kernel_rfl⟩) T1 ?_
                have C2 := marked_any (RG2.below T1.2) (by have := HL.out; omega)
                refine anyH_enter1 (i := 5) (d := 194) (by kernel_rfl) rfl rfl (by kernel_rfl) C2 (by kernel_rfl) ?_
                rintro _ rfl
                refine ⟨T1, ?_⟩
                refine anyH_take (i := 6) (d := 195) (v := .bool true) rfl rfl (by kernel_rfl) (by kernel_rfl) (by kernel_rfl) (fun _ _ _ h => h) (Or.inl ⟨by kernel_rfl, fun w _ => by kernel_rfl⟩) T1 ?_
                refine anyH_take (i := 7) (d := 196) (v := .bool true) rfl rfl (by kernel_rfl) (by kernel_rfl) (by kernel_rfl) (fun _ _ _ h => h) (Or.inl ⟨by kernel_rfl, fun w _ => by kernel_rfl⟩) T1 ?_
                refine anyH_take (i := 8) (d := 197) (v := (.slice (some ⟨gv, 0, none⟩) dt.length cv)) rfl rfl (by kernel_rfl) (by kernel_rfl) (by kernel_rfl) (fun _ _ _ h => h) (Or.inl ⟨by kernel_rfl, fun w _ => by kernel_rfl⟩) T1 ?_
                refine anyH_take (i := 10) (d := 199) (v := (.slice (some ⟨pw, 0, none⟩) 4 4)) rfl rfl (by kernel_rfl) (by kernel_rfl) (by kernel_rfl) (fun _ _ _ h => h) (Or.inl ⟨by kernel_rfl, fun w _ => by kernel_rfl⟩) T1 ?_
                refine anyH_take (i := 11) (d := 200) (v := .pointer (some ⟨pw, 0, none⟩)) rfl rfl (by kernel_rfl) (by kernel_rfl) (by kernel_rfl) (fun _ _ _ h => h) (Or.inl ⟨by kernel_rfl, fun w hw => by obtain ⟨h1, h2⟩ := hw; go_simp⟩) T1 ?_
                refine anyH_take (i := 12) (d := 201) (v := (.slice (some ⟨gw0, 0, none⟩) (dt.length + 1) cw0)) rfl rfl (by kernel_rfl) (by kernel_rfl) (by kernel_rfl) (fun _ _ _ h => h) (Or.inl ⟨by kernel_rfl, fun w hw => by obtain ⟨h1, h2⟩ := hw; go_simp⟩) T1 ?_
                have R3 := RG2.below T1.2
                have C3 := LeafText_any _ R3.slice (fun g hg => (R3.block g hg).2) (by have := HL.out; omega)
                refine anyH_enter (i := 9) (d := 198) (by kernel_rfl) rfl rfl (by kernel_rfl) C3 (by kernel_rfl) ?_
                rintro v3 y3 ⟨o3, p3⟩
                have T3 := go9 T1 p3
                refine ⟨T3, ?_⟩
                have C4 := same2_any y3 (own_slice_at o3) (SW2.below T3.2)
                rw [decide_eq_true rfl] at C4
                refine anyH_enter1 (i := 13) (d := 202) (by kernel_rfl) rfl rfl (by kernel_rfl) (C4) (by kernel_rfl) ?_
                intro y4 p4
                have T4 := go9 T3 p4
                refine ⟨T4, ?_⟩
                refine anyH_take (i := 14) (d := 203) (v := .bool true) rfl rfl (by kernel_rfl) (by kernel_rfl) (by kernel_rfl) (fun _ _ _ h => h) (Or.inl ⟨by kernel_rfl, fun w _ => by kernel_rfl⟩) T4 ?_
                refine anyH_take (i := 15) (d := 204) (v := .bool true) rfl rfl (by kernel_rfl) (by kernel_rfl) (by kernel_rfl) (fun _ _ _ h => h) (Or.inl ⟨by kernel_rfl, fun w _ => by kernel_rfl⟩) T4 ?_
                have Q4 := HEB.trans (T4.2.mono (by have := HEB.size; have := HZ.out; omega))
                have C5 := awake2_any (HD.out.low hz1 Q4)
                refine anyH_enter1 (i := 16) (d := 205) (by kernel_rfl) rfl rfl (by kernel_rfl) (C5) (by kernel_rfl) ?_
                intro y5 p5
                have T5 := go9 T4 p5
                refine ⟨T5, ?_⟩
                refine anyH_take (i := 17) (d := 206) (v := .bool true) rfl rfl (by kernel_rfl) (by kernel_rfl) (by kernel_rfl) (fun _ _ _ h => h) (Or.inl ⟨by kernel_rfl, fun w _ => by kernel_rfl⟩) T5 ?_
                refine anyH_take (i := 18) (d := 10) (v := .bool true) rfl rfl (by kernel_rfl) (by kernel_rfl) (by kernel_rfl) (fun _ _ _ h => h) (Or.inl ⟨by kernel_rfl, fun w _ => by kernel_rfl⟩) T5 ?_
                have Q5 := HEB.trans (T5.2.mono (by have := HEB.size; have := HZ.out; omega))
                have QE : Below w.heap.size w y5 := HBB.out.trans (Q5.mono (by have := HBB.out.size; have := HZ.out; omega))
                refine wpAnyH_done (by kernel_rfl) ?_ _
                try simp only [Act.put, List.setIfInBounds_toArray, List.set_cons_succ, List.set_cons_zero]
                clear T0 T1 T3 T4 T5 p1 p3 p4 p5 C1 C2 C3 C4 C5 Q4 Q5 go9 o3 R3
                go_wp2_with fail
                go_ret
                exact ⟨rfl, QE⟩
end Go.Proofs.YtcifnfffoiiceaaDoor
