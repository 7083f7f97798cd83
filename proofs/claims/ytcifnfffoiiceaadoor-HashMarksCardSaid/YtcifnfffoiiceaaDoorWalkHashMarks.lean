/-
  The walk of HashMarks.
-/
import Derived.Test.YtcifnfffoiiceaaDoorTexts
import Derived.Test.YtcifnfffoiiceaaDoorAwake2
import Derived.Test.YtcifnfffoiiceaaDoorEqlA
import Derived.Test.YtcifnfffoiiceaaDoorTakeEq
import Derived.Test.YtcifnfffoiiceaaDoorMarksN
namespace Go.Proofs.YtcifnfffoiiceaaDoor
open Go.RowKit
set_option linter.unusedVariables false
set_option pp.deepTerms true
set_option pp.maxSteps 1000000

/-- Four boxes stand, and nothing below is touched. -/
def Boxes (b0 b1 b2 b3 Z : Nat) (A B C E : List Value) (w1 w : World) : Prop := w.rangeAt b0 0 A ∧ w.rangeAt b1 0 B ∧ w.rangeAt b2 0 C ∧ w.rangeAt b3 0 E ∧ Below Z w1 w
theorem range_keep4 {w w' : World} {b : Nat} {C : List Value} (h : w.rangeAt b 0 C) (q : Below w.heap.size w w') : w'.rangeAt b 0 C := fun j v hv => by
  have hc := h j v hv
  exact (q.cell (p := ⟨b, 0 + j, none⟩) (World.block_lt_of_cell? w _ hc)).trans hc
section
variable {b0 b1 b2 b3 Z : Nat} {A B C E : List Value} {w1 w w' : World}
theorem Boxes.below (h : Boxes b0 b1 b2 b3 Z A B C E w1 w) (hZ : w1.heap.size = Z) (q : Below w.heap.size w w') : Boxes b0 b1 b2 b3 Z A B C E w1 w' :=
  ⟨range_keep4 h.1 q, range_keep4 h.2.1 q, range_keep4 h.2.2.1 q, range_keep4 h.2.2.2.1 q, h.2.2.2.2.trans (q.mono (by rw [← hZ]; exact h.2.2.2.2.size))⟩
theorem Boxes.drew (h : Boxes b0 b1 b2 b3 Z A B C E w1 w) : Boxes b0 b1 b2 b3 Z A B C E w1 w.drew :=
  ⟨(World.rangeAt_drew _ _ _ _).2 h.1, (World.rangeAt_drew _ _ _ _).2 h.2.1, (World.rangeAt_drew _ _ _ _).2 h.2.2.1, (World.rangeAt_drew _ _ _ _).2 h.2.2.2.1, h.2.2.2.2.drew⟩
end
/-- A text of one's own. -/
def TextAt (w : World) (v : Value) (L : List Nat) : Prop := SliceOf u8c w v L ∧ ∀ b, v.ownBlock = some b → b < w.heap.size
theorem TextAt.of_own {w : World} {B n : Nat} {v : Value} {L : List Nat} (h : w.ownsRow B 5 1 v n (u8s L)) : TextAt w v L := ⟨SliceOf.of_own h (u8s_eq _), fun b hb => (h.lt b hb).2⟩
theorem TextAt.below {w w' : World} {v : Value} {L : List Nat} (h : TextAt w v L) (q : Below w.heap.size w w') : TextAt w' v L := ⟨h.1.below q, fun b hb => Nat.lt_of_lt_of_le (h.2 b hb) q.size⟩
theorem each4 {P : Value → List Nat → Prop} {x y u z : Value} {A B C D : List Nat} (h1 : P x A) (h2 : P y B) (h3 : P u C) (h4 : P z D) : ∀ (i : Nat), i < 4 → ∃ v L, [x, y, u, z][i]? = some v ∧ [A, B, C, D][i]? = some L ∧ P v L := by
  intro i hi
  match i, hi with
  | 0, _ => exact ⟨x, A, rfl, rfl, h1⟩
  | 1, _ => exact ⟨y, B, rfl, rfl, h2⟩
  | 2, _ => exact ⟨u, C, rfl, rfl, h3⟩
  | 3, _ => exact ⟨z, D, rfl, rfl, h4⟩
theorem heads4 {A B C D : List Nat} {i k : Nat} {x y : List Nat} (hk : k < i) (h1 : [0 :: A, 1 :: B, 2 :: C, 3 :: D][i]? = some x) (h2 : [0 :: A, 1 :: B, 2 :: C, 3 :: D][k]? = some y) : x ≠ y := by
  match i, k, hk, h1, h2 with
  | 1, 0, _, h1, h2 => cases h1; cases h2; simp
  | 2, 0, _, h1, h2 => cases h1; cases h2; simp
  | 2, 1, _, h1, h2 => cases h1; cases h2; simp
  | 3, 0, _, h1, h2 => cases h1; cases h2; simp
  | 3, 1, _, h1, h2 => cases h1; cases h2; simp
  | 3, 2, _, h1, h2 => cases h1; cases h2; simp
  | n + 4, _, _, h1, _ => cases h1
theorem box_range {w : World} {g : Nat} {l : List Nat} {t : TypeId} (h : w.heap[g]? = some (.cells (cellsOf' u8c l) t (0, 0))) : w.rangeAt g 0 (l.map u8c) := row_range (cur := l.map u8c) h (fun j v hj => by rw [Nat.zero_add]; exact hj)
theorem boxes_new (w : World) (a b c d : List Nat) : Boxes w.heap.size (w.heap.size + 1) (w.heap.size + 1 + 1) (w.heap.size + 1 + 1 + 1) (w.heap.size + 4) (a.map u8c) (b.map u8c) (c.map u8c) (d.map u8c) ((((w.alloc (.cells (cellsOf' u8c a) 23 (0, 0))).alloc (.cells (cellsOf' u8c b) 23 (0, 0))).alloc (.cells (cellsOf' u8c c) 23 (0, 0))).alloc (.cells (cellsOf' u8c d) 23 (0, 0)))
    ((((w.alloc (.cells (cellsOf' u8c a) 23 (0, 0))).alloc (.cells (cellsOf' u8c b) 23 (0, 0))).alloc (.cells (cellsOf' u8c c) 23 (0, 0))).alloc (.cells (cellsOf' u8c d) 23 (0, 0))) := by
  obtain ⟨h1, h2, h3, h4, h5, h6⟩ := alloc4 w (.cells (cellsOf' u8c a) 23 (0, 0)) (.cells (cellsOf' u8c b) 23 (0, 0)) (.cells (cellsOf' u8c c) 23 (0, 0)) (.cells (cellsOf' u8c d) 23 (0, 0))
  exact ⟨box_range h1, box_range h2, box_range h3, box_range h4, Below.refl _ _⟩
set_option maxRecDepth 8000 in
set_option maxHeartbeats 40000000 in
theorem walkHashMarks (w : World) (D : DoorAt w) {vd vm : Value} {dt mo a b c d : List Nat} {n m : Int} (sD : SliceOf u8c w vd dt) (bD : Bytes dt) (lD : dt.length ≤ 140737488351232) (sM : SliceOf u8c w vm mo) (bM : Bytes mo) (lM : mo.length ≤ 140737488351232)
    (ha : a.length = 32) (ba : Bytes a) (hb : b.length = 32) (bb : Bytes b) (hc : c.length = 32) (bc : Bytes c) (hd : d.length = 32) (bd : Bytes d) (w6 : (Lit.int .u64 n).wf = true) (w7 : (Lit.int .u64 m).wf = true) :
    Calls Tryd.prog 8 #[vd, vm, .agg (cellsOf' u8c a), .agg (cellsOf' u8c b), .agg (cellsOf' u8c c), .agg (cellsOf' u8c d), .int .u64 n, .int .u64 m] w fun e w' => e = .returned (.bool true) ∧ Below w.heap.size w w' := by
  obtain ⟨n, rfl, hn⟩ := nat_of_u64 w6
  obtain ⟨m, rfl, hm⟩ := nat_of_u64 w7
  have SD := Lib.hid sD
  have SM := Lib.hid sM
  have HD := Lib.hid D
  have BX := Lib.hid (boxes_new w a b c d)
  obtain ⟨_, _, _, _, z1, q1⟩ := alloc4 w (.cells (cellsOf' u8c a) 23 (0, 0)) (.cells (cellsOf' u8c b) 23 (0, 0)) (.cells (cellsOf' u8c c) 23 (0, 0)) (.cells (cellsOf' u8c d) 23 (0, 0))
  have Z1 := Lib.hid z1
  have Q1 := Lib.hid q1
  have ea : (cellsOf' u8c a).size = 32 := by rw [co_size, ha]
  have eb : (cellsOf' u8c b).size = 32 := by rw [co_size, hb]
  have ec : (cellsOf' u8c c).size = 32 := by rw [co_size, hc]
  have ed : (cellsOf' u8c d).size = 32 := by rw [co_size, hd]
  have HX := Lib.hid (And.intro ha (And.intro hb (And.intro hc hd)))
  have HNM := Lib.hid (And.intro hn hm)
  have hb1 := D.1
  obtain ⟨aD, cD, rfl, _⟩ := sD
  obtain ⟨aM, cM, rfl, _⟩ := sM
  clear D ha hb hc hd ba bb bc bd w6 w7 hn hm z1 q1 bD bM lD lM
  by_cases hl : 3000 < dt.length
  · have hli : decide ((3000 : Int) < (dt.length : Int)) = true := decide_eq_true (by omega)
    have hln : decide (3000 < dt.length) = true := decide_eq_true hl
    go_enter Tryd.func8, Tryd.ntmps8
    go_wp2
    go_ret
    exact ⟨rfl, Q1.out⟩
  · have hli : decide ((3000 : Int) < (dt.length : Int)) = false := decide_eq_false (by omega)
    have hln : decide (3000 < dt.length) = false := decide_eq_false hl
    by_cases hk : 3000 < mo.length
    · have hki : decide ((3000 : Int) < (mo.length : Int)) = true := decide_eq_true (by omega)
      have hkn : decide (3000 < mo.length) = true := decide_eq_true hk
      go_enter Tryd.func8, Tryd.ntmps8
      go_wp2
      go_ret
      exact ⟨rfl, Q1.out⟩
    · have hki : decide ((3000 : Int) < (mo.length : Int)) = false := decide_eq_false (by omega)
      have hkn : decide (3000 < mo.length) = false := decide_eq_false hk
      have HL : Hid (dt.length ≤ 3000 ∧ mo.length ≤ 3000) := Lib.hid ⟨by omega, by omega⟩
      clear hl hk
      go_enter Tryd.func8, Tryd.ntmps8
      go_wp2_with fail
      generalize hw1 : ((((w.alloc (.cells (cellsOf' u8c a) 23 (0, 0))).alloc (.cells (cellsOf' u8c b) 23 (0, 0))).alloc (.cells (cellsOf' u8c c) 23 (0, 0))).alloc (.cells (cellsOf' u8c d) 23 (0, 0))) = w1 at *
      generalize hb3 : w.heap.size + 1 + 1 + 1 = b3 at *
      generalize hb2 : w.heap.size + 1 + 1 = b2 at *
      generalize hb1' : w.heap.size + 1 = b1 at *
      obtain ⟨b0, hb0⟩ : ∃ b0, w.heap.size = b0 := ⟨_, rfl⟩
      rw [hb0] at BX Z1 Q1 hb1 ⊢
      have HB0 := Lib.hid hb0
      have za : (Tryd.prog.info? 23).map (·.size) = some (a.map u8c).length := by rw [List.length_map, HX.out.1]; exact size_32
      have zb : (Tryd.prog.info? 23).map (·.size) = some (b.map u8c).length := by rw [List.length_map, HX.out.2.1]; exact size_32
      have zc : (Tryd.prog.info? 23).map (·.size) = some (c.map u8c).length := by rw [List.length_map, HX.out.2.2.1]; exact size_32
      have zd : (Tryd.prog.info? 23).map (·.size) = some (d.map u8c).length := by rw [List.length_map, HX.out.2.2.2]; exact size_32
      have HW : Hid (∀ w', Below (b0 + 4) w1 w' → Below b0 w w') := Lib.hid fun w' q => Q1.out.trans (q.mono (by omega))
      have T1 : Boxes b0 b1 b2 b3 (b0 + 4) (a.map u8c) (b.map u8c) (c.map u8c) (d.map u8c) w1 w1.drew := BX.out.drew
      have sd1 : SliceOf u8c w1.drew (.slice aD dt.length cD) dt := SD.out.below (by rw [HB0.out]; exact HW.out _ T1.2.2.2.2)
      have RW := Lib.hid (row2_any _ sd1 (by have := HL.out; omega))
      clear hw1 hb3 hb2 hb1' hb0 sd1
      refine wp_region_held (S := Boxes b0 b1 b2 b3 (b0 + 4) (a.map u8c) (b.map u8c) (c.map u8c) (d.map u8c) w1) (by kernel_rfl) ?_
      change wpAnyH _ _ _ _ _ _ _ _ (World.drew _)
      refine anyH_take (i := 0) (d := 28) (v := .slice aD dt.length cD) rfl rfl (by kernel_rfl) (by kernel_rfl) (by kernel_rfl) (fun _ _ _ h => h) (Or.inl ⟨by rfl, fun w _ => by go_simp⟩) T1 ?_
      refine anyH_take (i := 3) (d := 31) (v := .agg (cellsOf' u8c a)) rfl rfl (by kernel_rfl) (by kernel_rfl) (by kernel_rfl) (fun _ _ _ h => h) (yieldsIf_load_mid (by rfl) 23 (.tmp 10) rfl b0 0 (by kernel_rfl) (a.map u8c) _ (fun w h => h.1) Tryd.underlying23 rfl za) T1 ?_
      refine anyH_take (i := 4) (d := 32) (v := .agg (cellsOf' u8c b)) rfl rfl (by kernel_rfl) (by kernel_rfl) (by kernel_rfl) (fun _ _ _ h => h) (yieldsIf_load_mid (by rfl) 23 (.tmp 11) rfl b1 0 (by kernel_rfl) (b.map u8c) _ (fun w h => h.2.1) Tryd.underlying23 rfl zb) T1 ?_
      refine anyH_take (i := 6) (d := 34) (v := .agg (cellsOf' u8c a)) rfl rfl (by kernel_rfl) (by kernel_rfl) (by kernel_rfl) (fun _ _ _ h => h) (yieldsIf_load_mid (by rfl) 23 (.tmp 10) rfl b0 0 (by kernel_rfl) (a.map u8c) _ (fun w h => h.1) Tryd.underlying23 rfl za) T1 ?_
      refine anyH_take (i := 7) (d := 35) (v := .agg (cellsOf' u8c b)) rfl rfl (by kernel_rfl) (by kernel_rfl) (by kernel_rfl) (fun _ _ _ h => h) (yieldsIf_load_mid (by rfl) 23 (.tmp 11) rfl b1 0 (by kernel_rfl) (b.map u8c) _ (fun w h => h.2.1) Tryd.underlying23 rfl zb) T1 ?_
      refine anyH_take (i := 9) (d := 37) (v := .int .u64 (n : Int)) rfl rfl (by kernel_rfl) (by kernel_rfl) (by kernel_rfl) (fun _ _ _ h => h) (Or.inl ⟨by rfl, fun w _ => by go_simp⟩) T1 ?_
      refine anyH_take (i := 10) (d := 38) (v := .agg (cellsOf' u8c a)) rfl rfl (by kernel_rfl) (by kernel_rfl) (by kernel_rfl) (fun _ _ _ h => h) (yieldsIf_load_mid (by rfl) 23 (.tmp 10) rfl b0 0 (by kernel_rfl) (a.map u8c) _ (fun w h => h.1) Tryd.underlying23 rfl za) T1 ?_
      refine anyH_one (i := 1) (by kernel_rfl) rfl ?_
      go_wp2_with (go_at_call 15; (with_reducible refine RW.out.mono ?_); rintro e wA ⟨vA, rfl, rA, qA⟩)
      have TA := T1.below Z1.out qA
      have LA := Lib.hid (LeafText_any wA rA.slice (fun b hb => (rA.block b hb).2) (by have := HL.out; omega))
      clear qA rA RW
      refine ⟨TA, ?_⟩
      refine anyH_one (i := 2) (by kernel_rfl) rfl ?_
      go_wp2_with (go_at_call 25; (with_reducible refine LA.out.mono ?_); rintro e wB ⟨vB, rfl, oB, qB⟩)
      have TB := TA.below Z1.out qB
      have NT := Lib.hid (NodeText_any HX.out.1 HX.out.2.1 wB)
      clear qB LA TA
      refine ⟨TB, ?_⟩
      refine anyH_one (i := 5) (by kernel_rfl) rfl ?_
      go_wp2_with (go_at_call 26; (with_reducible refine NT.out.mono ?_); rintro e wC ⟨vC, rfl, oC, qC⟩)
      obtain ⟨gB, kB, rfl, _, _, _, _⟩ := own_form3 oB (Nat.succ_pos _)
      have XB := TextAt.of_own oB
      have TC := TB.below Z1.out qC
      have XB1 := XB.below qC
      have FT := Lib.hid (FoldText_any HX.out.1 HX.out.2.1 wC)
      obtain ⟨gC, kC, rfl, _, _, _, _⟩ := own_form3 oC (by decide)
      have XC := TextAt.of_own oC
      clear qC NT TB XB oB oC
      refine ⟨TC, ?_⟩
      refine anyH_one (i := 8) (by kernel_rfl) rfl ?_
      go_wp2_with (go_at_call 27; (with_reducible refine FT.out.mono ?_); rintro e wD ⟨vD, rfl, oD, qD⟩)
      have TD := TC.below Z1.out qD
      have XB2 := XB1.below qD
      have XC2 := XC.below qD
      obtain ⟨gD, kD, rfl, _, _, _, _⟩ := own_form3 oD (by decide)
      have XD := TextAt.of_own oD
      have RT := Lib.hid (RootText_any HNM.out.1 HX.out.1 wD)
      clear qD FT TC XB1 XC oD
      refine ⟨TD, ?_⟩
      refine anyH_one (i := 11) (by kernel_rfl) rfl ?_
      go_wp2_with (go_at_call 28; (with_reducible refine RT.out.mono ?_); rintro e wE ⟨vE, rfl, oE, qE⟩)
      have TE := TD.below Z1.out qE
      have XB3 := XB2.below qE
      have XC3 := XC2.below qE
      have XD3 := XD.below qE
      obtain ⟨gE, kE, rfl, _, _, _, _⟩ := own_form3 oE (by decide)
      have XE := TextAt.of_own oE
      clear qE RT TD XB2 XC2 XD oE
      refine ⟨TE, ?_⟩
      refine anyH_one (i := 12) (by kernel_rfl) rfl ?_
      go_wp2_with fail
      have nF := heap_alloc_new wE (.cells #[.slice (some ⟨gB, 0, none⟩) (dt.length + 1) kB, .slice (some ⟨gC, 0, none⟩) 65 kC, .slice (some ⟨gD, 0, none⟩) 65 kD, .slice (some ⟨gE, 0, none⟩) 41 kE] 29 (0, 0))
      have qF : Below wE.heap.size wE (wE.alloc (.cells #[.slice (some ⟨gB, 0, none⟩) (dt.length + 1) kB, .slice (some ⟨gC, 0, none⟩) 65 kC, .slice (some ⟨gD, 0, none⟩) 65 kD, .slice (some ⟨gE, 0, none⟩) 41 kE] 29 (0, 0))) := (Below.refl _ _).alloc (Nat.le_refl _) _
      generalize wE.alloc (.cells #[.slice (some ⟨gB, 0, none⟩) (dt.length + 1) kB, .slice (some ⟨gC, 0, none⟩) 65 kC, .slice (some ⟨gD, 0, none⟩) 65 kD, .slice (some ⟨gE, 0, none⟩) 41 kE] 29 (0, 0)) = wF at *
      have TF := TE.below Z1.out qF
      have XS := Lib.hid (each4 (P := TextAt wF) (XB3.below qF) (XC3.below qF) (XD3.below qF) (XE.below qF))
      generalize hbl : wE.heap.size = bl at *
      have HCL : Hid (∀ i v, [Value.slice (some ⟨gB, 0, none⟩) (dt.length + 1) kB, .slice (some ⟨gC, 0, none⟩) 65 kC, .slice (some ⟨gD, 0, none⟩) 65 kD, .slice (some ⟨gE, 0, none⟩) 41 kE][i]? = some v → wF.cell? ⟨bl, i, none⟩ = some v) := Lib.hid fun i v hv => by
        rw [cell_of_row _ _ _ _ _ _ nF]
        simpa using hv
      generalize [Value.slice (some ⟨gB, 0, none⟩) (dt.length + 1) kB, .slice (some ⟨gC, 0, none⟩) 65 kC, .slice (some ⟨gD, 0, none⟩) 65 kD, .slice (some ⟨gE, 0, none⟩) 41 kE] = VS at *
      clear nF qF XB3 XC3 XD3 XE TE hbl
      refine ⟨TF, ?_⟩
      refine anyH_one (i := 13) (by kernel_rfl) rfl ?_
      go_wp2_with fail
      refine ⟨TF, wpAnyH_done (by kernel_rfl) ?_ _⟩
      have HTF := Lib.hid TF
      have b9 : Below wF.heap.size wF wF := Below.refl _ _
      clear TF T1
      go_wp2_with fail
      go_loopw [18] (fun x wr => ∃ i : Nat, i ≤ 4 ∧ x = .int .i64 (i : Int) ∧ Below wF.heap.size wF wr) (fun x _ => 4 - (intOf x).toNat)
      case atStart => exact ⟨0, by omega, rfl, b9⟩
      case round =>
        obtain ⟨i, hi, rfl, qi⟩ := hrel
        clear b9
        by_cases hlt : i < 4
        · obtain ⟨wi, hwi⟩ : ∃ w, w = wr := ⟨_, rfl⟩
          subst hwi
          have ii : (i : Int) < 4 := by omega
          have i0 : (0 : Int) ≤ (i : Int) := by omega
          obtain ⟨v, L, hv, hL, hX⟩ := XS.out i hlt
          go_wp2_with fail
          go_loopw [19] (fun x wr => ∃ k : Nat, k ≤ i ∧ x = .int .i64 (k : Int) ∧ Below wF.heap.size wF wr) (fun x _ => i - (intOf x).toNat)
          case atStart => exact ⟨0, by omega, rfl, qi⟩
          case round =>
            obtain ⟨k, hk, rfl, qk⟩ := hrel
            clear qi
            by_cases hlt2 : k < i
            · obtain ⟨u, M, hu, hM, hY⟩ := XS.out k (by omega)
              have c1 : wr.cell? ⟨bl, i, none⟩ = some v := (qk.cell (p := ⟨bl, i, none⟩) (World.block_lt_of_cell? wF _ (HCL.out i v hv))).trans (HCL.out i v hv)
              have c2 : wr.cell? ⟨bl, k, none⟩ = some u := (qk.cell (p := ⟨bl, k, none⟩) (World.block_lt_of_cell? wF _ (HCL.out k u hu))).trans (HCL.out k u hu)
              have SC : wr.drew.cell? ⟨bl, i, none⟩ = some v ∧ wr.drew.cell? ⟨bl, k, none⟩ = some u := ⟨by simpa using c1, by simpa using c2⟩
              have ne : decide (L = M) = false := decide_eq_false (heads4 hlt2 hL hM)
              have SA := same2_any wr.drew (hX.1.below qk.drew) (hY.1.below qk.drew)
              rw [ne] at SA
              have HSA := Lib.hid SA
              have ki : (k : Int) < 4 := by omega
              have k0 : (0 : Int) ≤ (k : Int) := by omega
              have kii : (k : Int) < (i : Int) := by omega
              have HQK := Lib.hid qk
              clear SA ne c1 c2 hu hM hY qk
              go_wp2_with fail
              refine wp_region_held (S := fun w' => w'.cell? ⟨bl, i, none⟩ = some v ∧ w'.cell? ⟨bl, k, none⟩ = some u) (by kernel_rfl) ?_
              change wpAnyH _ _ _ _ _ _ _ _ (World.drew _)
              refine anyH_take (i := 0) (d := 50) (v := .slice (some ⟨bl, 0, none⟩) 4 4) rfl rfl (by kernel_rfl) (by kernel_rfl) (by kernel_rfl) (fun _ _ _ h => h) (Or.inl ⟨by rfl, fun w hw => by obtain ⟨h1, h2⟩ := hw; go_simp⟩) SC ?_
              refine anyH_take (i := 1) (d := 51) (v := .int .i64 (i : Int)) rfl rfl (by kernel_rfl) (by kernel_rfl) (by kernel_rfl) (fun _ _ _ h => h) (Or.inl ⟨by rfl, fun w hw => by obtain ⟨h1, h2⟩ := hw; go_simp⟩) SC ?_
              refine anyH_take (i := 2) (d := 52) (v := .pointer (some ⟨bl, i, none⟩)) rfl rfl (by kernel_rfl) (by kernel_rfl) (by kernel_rfl) (fun _ _ _ h => h) (Or.inl ⟨by rfl, fun w hw => by obtain ⟨h1, h2⟩ := hw; go_simp⟩) SC ?_
              refine anyH_take (i := 3) (d := 53) (v := v) rfl rfl (by kernel_rfl) (by kernel_rfl) (by kernel_rfl) (fun _ _ _ h => h) (Or.inl ⟨by rfl, fun w hw => by obtain ⟨h1, h2⟩ := hw; go_simp⟩) SC ?_
              refine anyH_take (i := 4) (d := 54) (v := .slice (some ⟨bl, 0, none⟩) 4 4) rfl rfl (by kernel_rfl) (by kernel_rfl) (by kernel_rfl) (fun _ _ _ h => h) (Or.inl ⟨by rfl, fun w hw => by obtain ⟨h1, h2⟩ := hw; go_simp⟩) SC ?_
              refine anyH_take (i := 5) (d := 55) (v := .int .i64 (k : Int)) rfl rfl (by kernel_rfl) (by kernel_rfl) (by kernel_rfl) (fun _ _ _ h => h) (Or.inl ⟨by rfl, fun w hw => by obtain ⟨h1, h2⟩ := hw; go_simp⟩) SC ?_
              refine anyH_take (i := 6) (d := 56) (v := .pointer (some ⟨bl, k, none⟩)) rfl rfl (by kernel_rfl) (by kernel_rfl) (by kernel_rfl) (fun _ _ _ h => h) (Or.inl ⟨by rfl, fun w hw => by obtain ⟨h1, h2⟩ := hw; go_simp⟩) SC ?_
              refine anyH_take (i := 7) (d := 57) (v := u) rfl rfl (by kernel_rfl) (by kernel_rfl) (by kernel_rfl) (fun _ _ _ h => h) (Or.inl ⟨by rfl, fun w hw => by obtain ⟨h1, h2⟩ := hw; go_simp⟩) SC ?_
              refine anyH_one (i := 8) (by kernel_rfl) rfl ?_
              go_wp2_with (go_at_call 18; (with_reducible refine HSA.out.mono ?_); rintro e wS ⟨rfl, qS⟩)
              have SC2 : wS.cell? ⟨bl, i, none⟩ = some v ∧ wS.cell? ⟨bl, k, none⟩ = some u := ⟨(qS.cell (p := ⟨bl, i, none⟩) (World.block_lt_of_cell? _ _ SC.1)).trans SC.1, (qS.cell (p := ⟨bl, k, none⟩) (World.block_lt_of_cell? _ _ SC.2)).trans SC.2⟩
              have qk2 : Below wF.heap.size wF wS := HQK.out.drew.trans (qS.mono HQK.out.size)
              refine ⟨SC2, wpAnyH_done (by kernel_rfl) ?_ _⟩
              clear SC SC2 qS
              go_wp2_with fail
              go_roundw
              case rel => exact ⟨k + 1, by omega, by go_num, qk2⟩
              case measure => simp [intOf]; omega
            · obtain rfl : k = i := by omega
              clear hlt2 hk
              go_wp2_with fail
              go_roundw
              case rel => exact ⟨k + 1, by omega, by go_num, qk⟩
              case measure => simp [intOf]; omega
        · obtain rfl : i = 4 := by omega
          rw [show ((4 : Nat) : Int) = 4 from rfl]
          clear hlt hi
          go_wp2_with fail
          have T0 := (HTF.out.below Z1.out qi).drew
          have EG := guard_h
          obtain ⟨pl, hpl⟩ : ∃ p, decide (dt = mo) = p := ⟨_, rfl⟩
          obtain ⟨pa, hpa⟩ : ∃ p, decide (a = c) = p := ⟨_, rfl⟩
          obtain ⟨pb, hpb⟩ : ∃ p, decide (b = d) = p := ⟨_, rfl⟩
          obtain ⟨pn, hpn⟩ : ∃ p, decide (n = m) = p := ⟨_, rfl⟩
          have EA : ∀ w, (Op.equalIn 10000 23 (.agg (cellsOf' u8c a)) (.agg (cellsOf' u8c c))).run Tryd.prog w = .ok pa w := fun w => by rw [run_eql_h w HX.out.1 HX.out.2.2.1, hpa]
          have EB : ∀ w, (Op.equalIn 10000 23 (.agg (cellsOf' u8c b)) (.agg (cellsOf' u8c d))).run Tryd.prog w = .ok pb w := fun w => by rw [run_eql_h w HX.out.2.1 HX.out.2.2.2, hpb]
          have EN1 : ((n : Int) == (m : Int)) = pn := by rw [← hpn, Bool.eq_iff_iff]; simp only [beq_iff_eq, decide_eq_true_eq]; omega
          have EN2 : decide ((n : Int) = (m : Int)) = pn := by rw [← hpn]; congr 1; apply propext; omega
          have EN3 : (n == m) = pn := by rw [← hpn, Bool.eq_iff_iff]; simp
          clear qi XS HCL HTF
          refine wp_region_held (S := Boxes b0 b1 b2 b3 (b0 + 4) (a.map u8c) (b.map u8c) (c.map u8c) (d.map u8c) w1) (by kernel_rfl) ?_
          change wpAnyH _ _ _ _ _ _ _ _ (World.drew _)
          rcases pa with _ | _ <;> rcases pb with _ | _ <;> rcases pn with _ | _
          ·
            refine anyH_take (i := 0) (d := 59) (v := .slice aD dt.length cD) rfl rfl (by kernel_rfl) (by kernel_rfl) (by kernel_rfl) (fun _ _ _ h => h) (Or.inl ⟨by kernel_rfl, fun w _ => by kernel_rfl⟩) T0 ?_
            refine anyH_take (i := 3) (d := 62) (v := .slice aM mo.length cM) rfl rfl (by kernel_rfl) (by kernel_rfl) (by kernel_rfl) (fun _ _ _ h => h) (Or.inl ⟨by kernel_rfl, fun w _ => by kernel_rfl⟩) T0 ?_
            refine anyH_take (i := 7) (d := 66) (v := .slice aD dt.length cD) rfl rfl (by kernel_rfl) (by kernel_rfl) (by kernel_rfl) (fun _ _ _ h => h) (Or.inl ⟨by kernel_rfl, fun w _ => by kernel_rfl⟩) T0 ?_
            refine anyH_take (i := 8) (d := 67) (v := .slice aM mo.length cM) rfl rfl (by kernel_rfl) (by kernel_rfl) (by kernel_rfl) (fun _ _ _ h => h) (Or.inl ⟨by kernel_rfl, fun w _ => by kernel_rfl⟩) T0 ?_
            refine anyH_enter (i := 1) (d := 60) (by kernel_rfl) rfl rfl (by kernel_rfl) (row2_any wr.drew (SD.out.below (by rw [HB0.out]; exact HW.out _ T0.2.2.2.2)) (by have := HL.out; omega)) (by kernel_rfl) ?_
            rintro v1 y1 ⟨o1, q1⟩
            have X1 : TextAt y1 v1 dt := ⟨o1.slice, fun b hb => (o1.block b hb).2⟩
            have T2' := T0.below Z1.out q1
            clear q1 o1
            refine ⟨T2', ?_⟩
            refine anyH_enter (i := 2) (d := 61) (by kernel_rfl) rfl rfl (by kernel_rfl) (LeafText_any y1 X1.1 X1.2 (by have := HL.out; omega)) (by kernel_rfl) ?_
            rintro v2 y2 ⟨o2, q2⟩
            have X2 : TextAt y2 v2 (0 :: dt) := TextAt.of_own o2
            replace X1 := X1.below q2
            have T3' := T2'.below Z1.out q2
            clear q2 o2
            clear X1
            refine ⟨T3', ?_⟩
            refine anyH_enter (i := 4) (d := 63) (by kernel_rfl) rfl rfl (by kernel_rfl) (row2_any y2 (SM.out.below (by rw [HB0.out]; exact HW.out _ T3'.2.2.2.2)) (by have := HL.out; omega)) (by kernel_rfl) ?_
            rintro v3 y3 ⟨o3, q3⟩
            have X3 : TextAt y3 v3 mo := ⟨o3.slice, fun b hb => (o3.block b hb).2⟩
            replace X2 := X2.below q3
            have T4' := T3'.below Z1.out q3
            clear q3 o3
            refine ⟨T4', ?_⟩
            refine anyH_enter (i := 5) (d := 64) (by kernel_rfl) rfl rfl (by kernel_rfl) (LeafText_any y3 X3.1 X3.2 (by have := HL.out; omega)) (by kernel_rfl) ?_
            rintro v4 y4 ⟨o4, q4⟩
            have X4 : TextAt y4 v4 (0 :: mo) := TextAt.of_own o4
            replace X2 := X2.below q4
            replace X3 := X3.below q4
            have T5' := T4'.below Z1.out q4
            clear q4 o4
            clear X3
            refine ⟨T5', ?_⟩
            have E5 := same2_any y4 X2.1 X4.1; rw [leaf_same, hpl] at E5
            refine anyH_enter1 (i := 6) (d := 65) (by kernel_rfl) rfl rfl (by kernel_rfl) E5 (by kernel_rfl) ?_
            rintro y5 q5
            replace X2 := X2.below q5
            replace X4 := X4.below q5
            have T6' := T5'.below Z1.out q5
            clear q5 E5
            clear X2
            clear X4
            refine ⟨T6', ?_⟩
            have E6 := same2_any y5 (SD.out.below (by rw [HB0.out]; exact HW.out _ T6'.2.2.2.2)) (SM.out.below (by rw [HB0.out]; exact HW.out _ T6'.2.2.2.2)); rw [hpl] at E6
            refine anyH_enter1 (i := 9) (d := 68) (by kernel_rfl) rfl rfl (by kernel_rfl) E6 (by kernel_rfl) ?_
            rintro y6 q6
            have T7' := T6'.below Z1.out q6
            clear q6 E6
            refine ⟨T7', ?_⟩
            refine anyH_take (i := 10) (d := 69) (v := .bool true) rfl rfl (by kernel_rfl) (by kernel_rfl) (by kernel_rfl) (fun _ _ _ h => h) (Or.inl ⟨by kernel_rfl, fun w _ => by rcases pl with _ | _ <;> kernel_rfl⟩) T7' ?_
            refine anyH_take (i := 11) (d := 70) (v := .bool true) rfl rfl (by kernel_rfl) (by kernel_rfl) (by kernel_rfl) (fun _ _ _ h => h) (Or.inl ⟨by kernel_rfl, fun w _ => by kernel_rfl⟩) T7' ?_
            refine anyH_take (i := 12) (d := 71) (v := .agg (cellsOf' u8c a)) rfl rfl (by kernel_rfl) (by kernel_rfl) (by kernel_rfl) (fun _ _ _ h => h) (yieldsIf_load_mid (by kernel_rfl) 23 (.tmp 10) rfl b0 0 (by kernel_rfl) (a.map u8c) _ (fun w h => h.1) Tryd.underlying23 rfl za) T7' ?_
            refine anyH_take (i := 13) (d := 72) (v := .agg (cellsOf' u8c b)) rfl rfl (by kernel_rfl) (by kernel_rfl) (by kernel_rfl) (fun _ _ _ h => h) (yieldsIf_load_mid (by kernel_rfl) 23 (.tmp 11) rfl b1 0 (by kernel_rfl) (b.map u8c) _ (fun w h => h.2.1) Tryd.underlying23 rfl zb) T7' ?_
            refine anyH_take (i := 15) (d := 74) (v := .agg (cellsOf' u8c c)) rfl rfl (by kernel_rfl) (by kernel_rfl) (by kernel_rfl) (fun _ _ _ h => h) (yieldsIf_load_mid (by kernel_rfl) 23 (.tmp 12) rfl b2 0 (by kernel_rfl) (c.map u8c) _ (fun w h => h.2.2.1) Tryd.underlying23 rfl zc) T7' ?_
            refine anyH_take (i := 16) (d := 75) (v := .agg (cellsOf' u8c d)) rfl rfl (by kernel_rfl) (by kernel_rfl) (by kernel_rfl) (fun _ _ _ h => h) (yieldsIf_load_mid (by kernel_rfl) 23 (.tmp 13) rfl b3 0 (by kernel_rfl) (d.map u8c) _ (fun w h => h.2.2.2.1) Tryd.underlying23 rfl zd) T7' ?_
            refine anyH_take (i := 19) (d := 78) (v := .agg (cellsOf' u8c a)) rfl rfl (by kernel_rfl) (by kernel_rfl) (by kernel_rfl) (fun _ _ _ h => h) (yieldsIf_load_mid (by kernel_rfl) 23 (.tmp 10) rfl b0 0 (by kernel_rfl) (a.map u8c) _ (fun w h => h.1) Tryd.underlying23 rfl za) T7' ?_
            refine anyH_take (i := 20) (d := 79) (v := .agg (cellsOf' u8c c)) rfl rfl (by kernel_rfl) (by kernel_rfl) (by kernel_rfl) (fun _ _ _ h => h) (yieldsIf_load_mid (by kernel_rfl) 23 (.tmp 12) rfl b2 0 (by kernel_rfl) (c.map u8c) _ (fun w h => h.2.2.1) Tryd.underlying23 rfl zc) T7' ?_
            refine anyH_take (i := 21) (d := 80) (v := .bool false) rfl rfl (by kernel_rfl) (by kernel_rfl) (by kernel_rfl) (fun _ _ _ h => h) ((yields_eqA (by kernel_rfl) rfl (X := cellsOf' u8c a) (Y := cellsOf' u8c c) (by kernel_rfl) (by kernel_rfl) EG EA)) T7' ?_
            refine anyH_enter (i := 14) (d := 73) (by kernel_rfl) rfl rfl (by kernel_rfl) (NodeText_any HX.out.1 HX.out.2.1 y6) (by kernel_rfl) ?_
            rintro v7 y7 ⟨o7, q7⟩
            have X7 : TextAt y7 v7 (1 :: (a ++ b)) := TextAt.of_own o7
            have T8' := T7'.below Z1.out q7
            clear q7 o7
            refine ⟨T8', ?_⟩
            refine anyH_enter (i := 17) (d := 76) (by kernel_rfl) rfl rfl (by kernel_rfl) (NodeText_any HX.out.2.2.1 HX.out.2.2.2 y7) (by kernel_rfl) ?_
            rintro v8 y8 ⟨o8, q8⟩
            have X8 : TextAt y8 v8 (1 :: (c ++ d)) := TextAt.of_own o8
            replace X7 := X7.below q8
            have T9' := T8'.below Z1.out q8
            clear q8 o8
            refine ⟨T9', ?_⟩
            have E9 := same2_any y8 X7.1 X8.1; rw [pair_same (HX.out.1.trans HX.out.2.2.1.symm), hpa, hpb] at E9
            refine anyH_enter1 (i := 18) (d := 77) (by kernel_rfl) rfl rfl (by kernel_rfl) E9 (by kernel_rfl) ?_
            rintro y9 q9
            replace X7 := X7.below q9
            replace X8 := X8.below q9
            have T10' := T9'.below Z1.out q9
            clear q9 E9
            clear X7
            clear X8
            refine ⟨T10', ?_⟩
            refine anyH_take (i := 22) (d := 81) (v := .bool false) rfl rfl (by kernel_rfl) (by kernel_rfl) (by kernel_rfl) (fun _ _ _ h => h) (Or.inl ⟨by kernel_rfl, fun w _ => by kernel_rfl⟩) T10' ?_
            refine anyH_take (i := 23) (d := 82) (v := undef) rfl rfl (by kernel_rfl) (by kernel_rfl) (by kernel_rfl) (fun _ _ _ h => h) (Or.inr ⟨by kernel_rfl, rfl⟩) T10' ?_
            refine anyH_take (i := 24) (d := 83) (v := undef) rfl rfl (by kernel_rfl) (by kernel_rfl) (by kernel_rfl) (fun _ _ _ h => h) (Or.inr ⟨by kernel_rfl, rfl⟩) T10' ?_
            refine anyH_take (i := 25) (d := 84) (v := undef) rfl rfl (by kernel_rfl) (by kernel_rfl) (by kernel_rfl) (fun _ _ _ h => h) (Or.inr ⟨by kernel_rfl, rfl⟩) T10' ?_
            refine anyH_take (i := 26) (d := 85) (v := .bool false) rfl rfl (by kernel_rfl) (by kernel_rfl) (by kernel_rfl) (fun _ _ _ h => h) (Or.inl ⟨by kernel_rfl, fun w _ => by kernel_rfl⟩) T10' ?_
            refine anyH_take (i := 27) (d := 86) (v := .bool true) rfl rfl (by kernel_rfl) (by kernel_rfl) (by kernel_rfl) (fun _ _ _ h => h) (Or.inl ⟨by kernel_rfl, fun w _ => by kernel_rfl⟩) T10' ?_
            refine anyH_take (i := 28) (d := 87) (v := .bool true) rfl rfl (by kernel_rfl) (by kernel_rfl) (by kernel_rfl) (fun _ _ _ h => h) (Or.inl ⟨by kernel_rfl, fun w _ => by kernel_rfl⟩) T10' ?_
            refine anyH_take (i := 29) (d := 88) (v := .bool true) rfl rfl (by kernel_rfl) (by kernel_rfl) (by kernel_rfl) (fun _ _ _ h => h) (Or.inl ⟨by kernel_rfl, fun w _ => by kernel_rfl⟩) T10' ?_
            refine anyH_take (i := 30) (d := 89) (v := .agg (cellsOf' u8c a)) rfl rfl (by kernel_rfl) (by kernel_rfl) (by kernel_rfl) (fun _ _ _ h => h) (yieldsIf_load_mid (by kernel_rfl) 23 (.tmp 10) rfl b0 0 (by kernel_rfl) (a.map u8c) _ (fun w h => h.1) Tryd.underlying23 rfl za) T10' ?_
            refine anyH_take (i := 31) (d := 90) (v := .agg (cellsOf' u8c b)) rfl rfl (by kernel_rfl) (by kernel_rfl) (by kernel_rfl) (fun _ _ _ h => h) (yieldsIf_load_mid (by kernel_rfl) 23 (.tmp 11) rfl b1 0 (by kernel_rfl) (b.map u8c) _ (fun w h => h.2.1) Tryd.underlying23 rfl zb) T10' ?_
            refine anyH_take (i := 33) (d := 92) (v := .agg (cellsOf' u8c c)) rfl rfl (by kernel_rfl) (by kernel_rfl) (by kernel_rfl) (fun _ _ _ h => h) (yieldsIf_load_mid (by kernel_rfl) 23 (.tmp 12) rfl b2 0 (by kernel_rfl) (c.map u8c) _ (fun w h => h.2.2.1) Tryd.underlying23 rfl zc) T10' ?_
            refine anyH_take (i := 34) (d := 93) (v := .agg (cellsOf' u8c d)) rfl rfl (by kernel_rfl) (by kernel_rfl) (by kernel_rfl) (fun _ _ _ h => h) (yieldsIf_load_mid (by kernel_rfl) 23 (.tmp 13) rfl b3 0 (by kernel_rfl) (d.map u8c) _ (fun w h => h.2.2.2.1) Tryd.underlying23 rfl zd) T10' ?_
            refine anyH_take (i := 37) (d := 96) (v := .agg (cellsOf' u8c a)) rfl rfl (by kernel_rfl) (by kernel_rfl) (by kernel_rfl) (fun _ _ _ h => h) (yieldsIf_load_mid (by kernel_rfl) 23 (.tmp 10) rfl b0 0 (by kernel_rfl) (a.map u8c) _ (fun w h => h.1) Tryd.underlying23 rfl za) T10' ?_
            refine anyH_take (i := 38) (d := 97) (v := .agg (cellsOf' u8c c)) rfl rfl (by kernel_rfl) (by kernel_rfl) (by kernel_rfl) (fun _ _ _ h => h) (yieldsIf_load_mid (by kernel_rfl) 23 (.tmp 12) rfl b2 0 (by kernel_rfl) (c.map u8c) _ (fun w h => h.2.2.1) Tryd.underlying23 rfl zc) T10' ?_
            refine anyH_take (i := 39) (d := 98) (v := .bool false) rfl rfl (by kernel_rfl) (by kernel_rfl) (by kernel_rfl) (fun _ _ _ h => h) ((yields_eqA (by kernel_rfl) rfl (X := cellsOf' u8c a) (Y := cellsOf' u8c c) (by kernel_rfl) (by kernel_rfl) EG EA)) T10' ?_
            refine anyH_enter (i := 32) (d := 91) (by kernel_rfl) rfl rfl (by kernel_rfl) (FoldText_any HX.out.1 HX.out.2.1 y9) (by kernel_rfl) ?_
            rintro v10 y10 ⟨o10, q10⟩
            have X10 : TextAt y10 v10 (2 :: (a ++ b)) := TextAt.of_own o10
            have T11' := T10'.below Z1.out q10
            clear q10 o10
            refine ⟨T11', ?_⟩
            refine anyH_enter (i := 35) (d := 94) (by kernel_rfl) rfl rfl (by kernel_rfl) (FoldText_any HX.out.2.2.1 HX.out.2.2.2 y10) (by kernel_rfl) ?_
            rintro v11 y11 ⟨o11, q11⟩
            have X11 : TextAt y11 v11 (2 :: (c ++ d)) := TextAt.of_own o11
            replace X10 := X10.below q11
            have T12' := T11'.below Z1.out q11
            clear q11 o11
            refine ⟨T12', ?_⟩
            have E12 := same2_any y11 X10.1 X11.1; rw [pair_same (HX.out.1.trans HX.out.2.2.1.symm), hpa, hpb] at E12
            refine anyH_enter1 (i := 36) (d := 95) (by kernel_rfl) rfl rfl (by kernel_rfl) E12 (by kernel_rfl) ?_
            rintro y12 q12
            replace X10 := X10.below q12
            replace X11 := X11.below q12
            have T13' := T12'.below Z1.out q12
            clear q12 E12
            clear X10
            clear X11
            refine ⟨T13', ?_⟩
            refine anyH_take (i := 40) (d := 99) (v := .bool false) rfl rfl (by kernel_rfl) (by kernel_rfl) (by kernel_rfl) (fun _ _ _ h => h) (Or.inl ⟨by kernel_rfl, fun w _ => by kernel_rfl⟩) T13' ?_
            refine anyH_take (i := 41) (d := 100) (v := undef) rfl rfl (by kernel_rfl) (by kernel_rfl) (by kernel_rfl) (fun _ _ _ h => h) (Or.inr ⟨by kernel_rfl, rfl⟩) T13' ?_
            refine anyH_take (i := 42) (d := 101) (v := undef) rfl rfl (by kernel_rfl) (by kernel_rfl) (by kernel_rfl) (fun _ _ _ h => h) (Or.inr ⟨by kernel_rfl, rfl⟩) T13' ?_
            refine anyH_take (i := 43) (d := 102) (v := undef) rfl rfl (by kernel_rfl) (by kernel_rfl) (by kernel_rfl) (fun _ _ _ h => h) (Or.inr ⟨by kernel_rfl, rfl⟩) T13' ?_
            refine anyH_take (i := 44) (d := 103) (v := .bool false) rfl rfl (by kernel_rfl) (by kernel_rfl) (by kernel_rfl) (fun _ _ _ h => h) (Or.inl ⟨by kernel_rfl, fun w _ => by kernel_rfl⟩) T13' ?_
            refine anyH_take (i := 45) (d := 104) (v := .bool true) rfl rfl (by kernel_rfl) (by kernel_rfl) (by kernel_rfl) (fun _ _ _ h => h) (Or.inl ⟨by kernel_rfl, fun w _ => by kernel_rfl⟩) T13' ?_
            refine anyH_take (i := 46) (d := 105) (v := .bool true) rfl rfl (by kernel_rfl) (by kernel_rfl) (by kernel_rfl) (fun _ _ _ h => h) (Or.inl ⟨by kernel_rfl, fun w _ => by kernel_rfl⟩) T13' ?_
            refine anyH_take (i := 47) (d := 106) (v := .bool true) rfl rfl (by kernel_rfl) (by kernel_rfl) (by kernel_rfl) (fun _ _ _ h => h) (Or.inl ⟨by kernel_rfl, fun w _ => by kernel_rfl⟩) T13' ?_
            refine anyH_take (i := 48) (d := 107) (v := .int .u64 (n : Int)) rfl rfl (by kernel_rfl) (by kernel_rfl) (by kernel_rfl) (fun _ _ _ h => h) (Or.inl ⟨by kernel_rfl, fun w _ => by kernel_rfl⟩) T13' ?_
            refine anyH_take (i := 49) (d := 108) (v := .agg (cellsOf' u8c a)) rfl rfl (by kernel_rfl) (by kernel_rfl) (by kernel_rfl) (fun _ _ _ h => h) (yieldsIf_load_mid (by kernel_rfl) 23 (.tmp 10) rfl b0 0 (by kernel_rfl) (a.map u8c) _ (fun w h => h.1) Tryd.underlying23 rfl za) T13' ?_
            refine anyH_take (i := 51) (d := 110) (v := .int .u64 (m : Int)) rfl rfl (by kernel_rfl) (by kernel_rfl) (by kernel_rfl) (fun _ _ _ h => h) (Or.inl ⟨by kernel_rfl, fun w _ => by kernel_rfl⟩) T13' ?_
            refine anyH_take (i := 52) (d := 111) (v := .agg (cellsOf' u8c c)) rfl rfl (by kernel_rfl) (by kernel_rfl) (by kernel_rfl) (fun _ _ _ h => h) (yieldsIf_load_mid (by kernel_rfl) 23 (.tmp 12) rfl b2 0 (by kernel_rfl) (c.map u8c) _ (fun w h => h.2.2.1) Tryd.underlying23 rfl zc) T13' ?_
            refine anyH_take (i := 55) (d := 114) (v := .int .u64 (n : Int)) rfl rfl (by kernel_rfl) (by kernel_rfl) (by kernel_rfl) (fun _ _ _ h => h) (Or.inl ⟨by kernel_rfl, fun w _ => by kernel_rfl⟩) T13' ?_
            refine anyH_take (i := 56) (d := 115) (v := .int .u64 (m : Int)) rfl rfl (by kernel_rfl) (by kernel_rfl) (by kernel_rfl) (fun _ _ _ h => h) (Or.inl ⟨by kernel_rfl, fun w _ => by kernel_rfl⟩) T13' ?_
            refine anyH_take (i := 57) (d := 116) (v := .bool false) rfl rfl (by kernel_rfl) (by kernel_rfl) (by kernel_rfl) (fun _ _ _ h => h) ((yields_eqI (k := .u64) (by kernel_rfl) rfl (m := (n : Int)) (n := (m : Int)) (by kernel_rfl) (by kernel_rfl) EN1)) T13' ?_
            refine anyH_enter (i := 50) (d := 109) (by kernel_rfl) rfl rfl (by kernel_rfl) (RootText_any HNM.out.1 HX.out.1 y12) (by kernel_rfl) ?_
            rintro v13 y13 ⟨o13, q13⟩
            have X13 : TextAt y13 v13 (3 :: (bigL n 8 ++ a)) := TextAt.of_own o13
            have T14' := T13'.below Z1.out q13
            clear q13 o13
            refine ⟨T14', ?_⟩
            refine anyH_enter (i := 53) (d := 112) (by kernel_rfl) rfl rfl (by kernel_rfl) (RootText_any HNM.out.2 HX.out.2.2.1 y13) (by kernel_rfl) ?_
            rintro v14 y14 ⟨o14, q14⟩
            have X14 : TextAt y14 v14 (3 :: (bigL m 8 ++ c)) := TextAt.of_own o14
            replace X13 := X13.below q14
            have T15' := T14'.below Z1.out q14
            clear q14 o14
            refine ⟨T15', ?_⟩
            have E15 := same2_any y14 X13.1 X14.1; rw [root_same HNM.out.1 HNM.out.2, hpn, hpa] at E15
            refine anyH_enter1 (i := 54) (d := 113) (by kernel_rfl) rfl rfl (by kernel_rfl) E15 (by kernel_rfl) ?_
            rintro y15 q15
            replace X13 := X13.below q15
            replace X14 := X14.below q15
            have T16' := T15'.below Z1.out q15
            clear q15 E15
            clear X13
            clear X14
            refine ⟨T16', ?_⟩
            refine anyH_take (i := 58) (d := 117) (v := .bool false) rfl rfl (by kernel_rfl) (by kernel_rfl) (by kernel_rfl) (fun _ _ _ h => h) (Or.inl ⟨by kernel_rfl, fun w _ => by kernel_rfl⟩) T16' ?_
            refine anyH_take (i := 59) (d := 118) (v := undef) rfl rfl (by kernel_rfl) (by kernel_rfl) (by kernel_rfl) (fun _ _ _ h => h) (Or.inr ⟨by kernel_rfl, rfl⟩) T16' ?_
            refine anyH_take (i := 60) (d := 119) (v := undef) rfl rfl (by kernel_rfl) (by kernel_rfl) (by kernel_rfl) (fun _ _ _ h => h) (Or.inr ⟨by kernel_rfl, rfl⟩) T16' ?_
            refine anyH_take (i := 61) (d := 120) (v := undef) rfl rfl (by kernel_rfl) (by kernel_rfl) (by kernel_rfl) (fun _ _ _ h => h) (Or.inr ⟨by kernel_rfl, rfl⟩) T16' ?_
            refine anyH_take (i := 62) (d := 121) (v := .bool false) rfl rfl (by kernel_rfl) (by kernel_rfl) (by kernel_rfl) (fun _ _ _ h => h) (Or.inl ⟨by kernel_rfl, fun w _ => by kernel_rfl⟩) T16' ?_
            refine anyH_take (i := 63) (d := 122) (v := .bool true) rfl rfl (by kernel_rfl) (by kernel_rfl) (by kernel_rfl) (fun _ _ _ h => h) (Or.inl ⟨by kernel_rfl, fun w _ => by kernel_rfl⟩) T16' ?_
            refine anyH_take (i := 64) (d := 123) (v := .bool true) rfl rfl (by kernel_rfl) (by kernel_rfl) (by kernel_rfl) (fun _ _ _ h => h) (Or.inl ⟨by kernel_rfl, fun w _ => by kernel_rfl⟩) T16' ?_
            refine anyH_take (i := 65) (d := 124) (v := .bool true) rfl rfl (by kernel_rfl) (by kernel_rfl) (by kernel_rfl) (fun _ _ _ h => h) (Or.inl ⟨by kernel_rfl, fun w _ => by kernel_rfl⟩) T16' ?_
            refine anyH_enter1 (i := 66) (d := 125) (by kernel_rfl) rfl rfl (by kernel_rfl) (awake2_any (HD.out.low hb1 (HW.out _ T16'.2.2.2.2))) (by kernel_rfl) ?_
            rintro y16 q16
            have T17' := T16'.below Z1.out q16
            clear q16
            refine ⟨T17', ?_⟩
            refine anyH_take (i := 67) (d := 126) (v := .bool true) rfl rfl (by kernel_rfl) (by kernel_rfl) (by kernel_rfl) (fun _ _ _ h => h) (Or.inl ⟨by kernel_rfl, fun w _ => by kernel_rfl⟩) T17' ?_
            refine anyH_take (i := 68) (d := 16) (v := .bool true) rfl rfl (by kernel_rfl) (by kernel_rfl) (by kernel_rfl) (fun _ _ _ h => h) (Or.inl ⟨by kernel_rfl, fun w _ => by kernel_rfl⟩) T17' ?_
            refine wpAnyH_done (by kernel_rfl) ?_ _
            go_wp2_with fail
            go_ret
            exact ⟨by kernel_rfl, by rw [HB0.out]; exact HW.out _ T17'.2.2.2.2⟩
          ·
            refine anyH_take (i := 0) (d := 59) (v := .slice aD dt.length cD) rfl rfl (by kernel_rfl) (by kernel_rfl) (by kernel_rfl) (fun _ _ _ h => h) (Or.inl ⟨by kernel_rfl, fun w _ => by kernel_rfl⟩) T0 ?_
            refine anyH_take (i := 3) (d := 62) (v := .slice aM mo.length cM) rfl rfl (by kernel_rfl) (by kernel_rfl) (by kernel_rfl) (fun _ _ _ h => h) (Or.inl ⟨by kernel_rfl, fun w _ => by kernel_rfl⟩) T0 ?_
            refine anyH_take (i := 7) (d := 66) (v := .slice aD dt.length cD) rfl rfl (by kernel_rfl) (by kernel_rfl) (by kernel_rfl) (fun _ _ _ h => h) (Or.inl ⟨by kernel_rfl, fun w _ => by kernel_rfl⟩) T0 ?_
            refine anyH_take (i := 8) (d := 67) (v := .slice aM mo.length cM) rfl rfl (by kernel_rfl) (by kernel_rfl) (by kernel_rfl) (fun _ _ _ h => h) (Or.inl ⟨by kernel_rfl, fun w _ => by kernel_rfl⟩) T0 ?_
            refine anyH_enter (i := 1) (d := 60) (by kernel_rfl) rfl rfl (by kernel_rfl) (row2_any wr.drew (SD.out.below (by rw [HB0.out]; exact HW.out _ T0.2.2.2.2)) (by have := HL.out; omega)) (by kernel_rfl) ?_
            rintro v1 y1 ⟨o1, q1⟩
            have X1 : TextAt y1 v1 dt := ⟨o1.slice, fun b hb => (o1.block b hb).2⟩
            have T2' := T0.below Z1.out q1
            clear q1 o1
            refine ⟨T2', ?_⟩
            refine anyH_enter (i := 2) (d := 61) (by kernel_rfl) rfl rfl (by kernel_rfl) (LeafText_any y1 X1.1 X1.2 (by have := HL.out; omega)) (by kernel_rfl) ?_
            rintro v2 y2 ⟨o2, q2⟩
            have X2 : TextAt y2 v2 (0 :: dt) := TextAt.of_own o2
            replace X1 := X1.below q2
            have T3' := T2'.below Z1.out q2
            clear q2 o2
            clear X1
            refine ⟨T3', ?_⟩
            refine anyH_enter (i := 4) (d := 63) (by kernel_rfl) rfl rfl (by kernel_rfl) (row2_any y2 (SM.out.below (by rw [HB0.out]; exact HW.out _ T3'.2.2.2.2)) (by have := HL.out; omega)) (by kernel_rfl) ?_
            rintro v3 y3 ⟨o3, q3⟩
            have X3 : TextAt y3 v3 mo := ⟨o3.slice, fun b hb => (o3.block b hb).2⟩
            replace X2 := X2.below q3
            have T4' := T3'.below Z1.out q3
            clear q3 o3
            refine ⟨T4', ?_⟩
            refine anyH_enter (i := 5) (d := 64) (by kernel_rfl) rfl rfl (by kernel_rfl) (LeafText_any y3 X3.1 X3.2 (by have := HL.out; omega)) (by kernel_rfl) ?_
            rintro v4 y4 ⟨o4, q4⟩
            have X4 : TextAt y4 v4 (0 :: mo) := TextAt.of_own o4
            replace X2 := X2.below q4
            replace X3 := X3.below q4
            have T5' := T4'.below Z1.out q4
            clear q4 o4
            clear X3
            refine ⟨T5', ?_⟩
            have E5 := same2_any y4 X2.1 X4.1; rw [leaf_same, hpl] at E5
            refine anyH_enter1 (i := 6) (d := 65) (by kernel_rfl) rfl rfl (by kernel_rfl) E5 (by kernel_rfl) ?_
            rintro y5 q5
            replace X2 := X2.below q5
            replace X4 := X4.below q5
            have T6' := T5'.below Z1.out q5
            clear q5 E5
            clear X2
            clear X4
            refine ⟨T6', ?_⟩
            have E6 := same2_any y5 (SD.out.below (by rw [HB0.out]; exact HW.out _ T6'.2.2.2.2)) (SM.out.below (by rw [HB0.out]; exact HW.out _ T6'.2.2.2.2)); rw [hpl] at E6
            refine anyH_enter1 (i := 9) (d := 68) (by kernel_rfl) rfl rfl (by kernel_rfl) E6 (by kernel_rfl) ?_
            rintro y6 q6
            have T7' := T6'.below Z1.out q6
            clear q6 E6
            refine ⟨T7', ?_⟩
            refine anyH_take (i := 10) (d := 69) (v := .bool true) rfl rfl (by kernel_rfl) (by kernel_rfl) (by kernel_rfl) (fun _ _ _ h => h) (Or.inl ⟨by kernel_rfl, fun w _ => by rcases pl with _ | _ <;> kernel_rfl⟩) T7' ?_
            refine anyH_take (i := 11) (d := 70) (v := .bool true) rfl rfl (by kernel_rfl) (by kernel_rfl) (by kernel_rfl) (fun _ _ _ h => h) (Or.inl ⟨by kernel_rfl, fun w _ => by kernel_rfl⟩) T7' ?_
            refine anyH_take (i := 12) (d := 71) (v := .agg (cellsOf' u8c a)) rfl rfl (by kernel_rfl) (by kernel_rfl) (by kernel_rfl) (fun _ _ _ h => h) (yieldsIf_load_mid (by kernel_rfl) 23 (.tmp 10) rfl b0 0 (by kernel_rfl) (a.map u8c) _ (fun w h => h.1) Tryd.underlying23 rfl za) T7' ?_
            refine anyH_take (i := 13) (d := 72) (v := .agg (cellsOf' u8c b)) rfl rfl (by kernel_rfl) (by kernel_rfl) (by kernel_rfl) (fun _ _ _ h => h) (yieldsIf_load_mid (by kernel_rfl) 23 (.tmp 11) rfl b1 0 (by kernel_rfl) (b.map u8c) _ (fun w h => h.2.1) Tryd.underlying23 rfl zb) T7' ?_
            refine anyH_take (i := 15) (d := 74) (v := .agg (cellsOf' u8c c)) rfl rfl (by kernel_rfl) (by kernel_rfl) (by kernel_rfl) (fun _ _ _ h => h) (yieldsIf_load_mid (by kernel_rfl) 23 (.tmp 12) rfl b2 0 (by kernel_rfl) (c.map u8c) _ (fun w h => h.2.2.1) Tryd.underlying23 rfl zc) T7' ?_
            refine anyH_take (i := 16) (d := 75) (v := .agg (cellsOf' u8c d)) rfl rfl (by kernel_rfl) (by kernel_rfl) (by kernel_rfl) (fun _ _ _ h => h) (yieldsIf_load_mid (by kernel_rfl) 23 (.tmp 13) rfl b3 0 (by kernel_rfl) (d.map u8c) _ (fun w h => h.2.2.2.1) Tryd.underlying23 rfl zd) T7' ?_
            refine anyH_take (i := 19) (d := 78) (v := .agg (cellsOf' u8c a)) rfl rfl (by kernel_rfl) (by kernel_rfl) (by kernel_rfl) (fun _ _ _ h => h) (yieldsIf_load_mid (by kernel_rfl) 23 (.tmp 10) rfl b0 0 (by kernel_rfl) (a.map u8c) _ (fun w h => h.1) Tryd.underlying23 rfl za) T7' ?_
            refine anyH_take (i := 20) (d := 79) (v := .agg (cellsOf' u8c c)) rfl rfl (by kernel_rfl) (by kernel_rfl) (by kernel_rfl) (fun _ _ _ h => h) (yieldsIf_load_mid (by kernel_rfl) 23 (.tmp 12) rfl b2 0 (by kernel_rfl) (c.map u8c) _ (fun w h => h.2.2.1) Tryd.underlying23 rfl zc) T7' ?_
            refine anyH_take (i := 21) (d := 80) (v := .bool false) rfl rfl (by kernel_rfl) (by kernel_rfl) (by kernel_rfl) (fun _ _ _ h => h) ((yields_eqA (by kernel_rfl) rfl (X := cellsOf' u8c a) (Y := cellsOf' u8c c) (by kernel_rfl) (by kernel_rfl) EG EA)) T7' ?_
            refine anyH_enter (i := 14) (d := 73) (by kernel_rfl) rfl rfl (by kernel_rfl) (NodeText_any HX.out.1 HX.out.2.1 y6) (by kernel_rfl) ?_
            rintro v7 y7 ⟨o7, q7⟩
            have X7 : TextAt y7 v7 (1 :: (a ++ b)) := TextAt.of_own o7
            have T8' := T7'.below Z1.out q7
            clear q7 o7
            refine ⟨T8', ?_⟩
            refine anyH_enter (i := 17) (d := 76) (by kernel_rfl) rfl rfl (by kernel_rfl) (NodeText_any HX.out.2.2.1 HX.out.2.2.2 y7) (by kernel_rfl) ?_
            rintro v8 y8 ⟨o8, q8⟩
            have X8 : TextAt y8 v8 (1 :: (c ++ d)) := TextAt.of_own o8
            replace X7 := X7.below q8
            have T9' := T8'.below Z1.out q8
            clear q8 o8
            refine ⟨T9', ?_⟩
            have E9 := same2_any y8 X7.1 X8.1; rw [pair_same (HX.out.1.trans HX.out.2.2.1.symm), hpa, hpb] at E9
            refine anyH_enter1 (i := 18) (d := 77) (by kernel_rfl) rfl rfl (by kernel_rfl) E9 (by kernel_rfl) ?_
            rintro y9 q9
            replace X7 := X7.below q9
            replace X8 := X8.below q9
            have T10' := T9'.below Z1.out q9
            clear q9 E9
            clear X7
            clear X8
            refine ⟨T10', ?_⟩
            refine anyH_take (i := 22) (d := 81) (v := .bool false) rfl rfl (by kernel_rfl) (by kernel_rfl) (by kernel_rfl) (fun _ _ _ h => h) (Or.inl ⟨by kernel_rfl, fun w _ => by kernel_rfl⟩) T10' ?_
            refine anyH_take (i := 23) (d := 82) (v := undef) rfl rfl (by kernel_rfl) (by kernel_rfl) (by kernel_rfl) (fun _ _ _ h => h) (Or.inr ⟨by kernel_rfl, rfl⟩) T10' ?_
            refine anyH_take (i := 24) (d := 83) (v := undef) rfl rfl (by kernel_rfl) (by kernel_rfl) (by kernel_rfl) (fun _ _ _ h => h) (Or.inr ⟨by kernel_rfl, rfl⟩) T10' ?_
            refine anyH_take (i := 25) (d := 84) (v := undef) rfl rfl (by kernel_rfl) (by kernel_rfl) (by kernel_rfl) (fun _ _ _ h => h) (Or.inr ⟨by kernel_rfl, rfl⟩) T10' ?_
            refine anyH_take (i := 26) (d := 85) (v := .bool false) rfl rfl (by kernel_rfl) (by kernel_rfl) (by kernel_rfl) (fun _ _ _ h => h) (Or.inl ⟨by kernel_rfl, fun w _ => by kernel_rfl⟩) T10' ?_
            refine anyH_take (i := 27) (d := 86) (v := .bool true) rfl rfl (by kernel_rfl) (by kernel_rfl) (by kernel_rfl) (fun _ _ _ h => h) (Or.inl ⟨by kernel_rfl, fun w _ => by kernel_rfl⟩) T10' ?_
            refine anyH_take (i := 28) (d := 87) (v := .bool true) rfl rfl (by kernel_rfl) (by kernel_rfl) (by kernel_rfl) (fun _ _ _ h => h) (Or.inl ⟨by kernel_rfl, fun w _ => by kernel_rfl⟩) T10' ?_
            refine anyH_take (i := 29) (d := 88) (v := .bool true) rfl rfl (by kernel_rfl) (by kernel_rfl) (by kernel_rfl) (fun _ _ _ h => h) (Or.inl ⟨by kernel_rfl, fun w _ => by kernel_rfl⟩) T10' ?_
            refine anyH_take (i := 30) (d := 89) (v := .agg (cellsOf' u8c a)) rfl rfl (by kernel_rfl) (by kernel_rfl) (by kernel_rfl) (fun _ _ _ h => h) (yieldsIf_load_mid (by kernel_rfl) 23 (.tmp 10) rfl b0 0 (by kernel_rfl) (a.map u8c) _ (fun w h => h.1) Tryd.underlying23 rfl za) T10' ?_
            refine anyH_take (i := 31) (d := 90) (v := .agg (cellsOf' u8c b)) rfl rfl (by kernel_rfl) (by kernel_rfl) (by kernel_rfl) (fun _ _ _ h => h) (yieldsIf_load_mid (by kernel_rfl) 23 (.tmp 11) rfl b1 0 (by kernel_rfl) (b.map u8c) _ (fun w h => h.2.1) Tryd.underlying23 rfl zb) T10' ?_
            refine anyH_take (i := 33) (d := 92) (v := .agg (cellsOf' u8c c)) rfl rfl (by kernel_rfl) (by kernel_rfl) (by kernel_rfl) (fun _ _ _ h => h) (yieldsIf_load_mid (by kernel_rfl) 23 (.tmp 12) rfl b2 0 (by kernel_rfl) (c.map u8c) _ (fun w h => h.2.2.1) Tryd.underlying23 rfl zc) T10' ?_
            refine anyH_take (i := 34) (d := 93) (v := .agg (cellsOf' u8c d)) rfl rfl (by kernel_rfl) (by kernel_rfl) (by kernel_rfl) (fun _ _ _ h => h) (yieldsIf_load_mid (by kernel_rfl) 23 (.tmp 13) rfl b3 0 (by kernel_rfl) (d.map u8c) _ (fun w h => h.2.2.2.1) Tryd.underlying23 rfl zd) T10' ?_
            refine anyH_take (i := 37) (d := 96) (v := .agg (cellsOf' u8c a)) rfl rfl (by kernel_rfl) (by kernel_rfl) (by kernel_rfl) (fun _ _ _ h => h) (yieldsIf_load_mid (by kernel_rfl) 23 (.tmp 10) rfl b0 0 (by kernel_rfl) (a.map u8c) _ (fun w h => h.1) Tryd.underlying23 rfl za) T10' ?_
            refine anyH_take (i := 38) (d := 97) (v := .agg (cellsOf' u8c c)) rfl rfl (by kernel_rfl) (by kernel_rfl) (by kernel_rfl) (fun _ _ _ h => h) (yieldsIf_load_mid (by kernel_rfl) 23 (.tmp 12) rfl b2 0 (by kernel_rfl) (c.map u8c) _ (fun w h => h.2.2.1) Tryd.underlying23 rfl zc) T10' ?_
            refine anyH_take (i := 39) (d := 98) (v := .bool false) rfl rfl (by kernel_rfl) (by kernel_rfl) (by kernel_rfl) (fun _ _ _ h => h) ((yields_eqA (by kernel_rfl) rfl (X := cellsOf' u8c a) (Y := cellsOf' u8c c) (by kernel_rfl) (by kernel_rfl) EG EA)) T10' ?_
            refine anyH_enter (i := 32) (d := 91) (by kernel_rfl) rfl rfl (by kernel_rfl) (FoldText_any HX.out.1 HX.out.2.1 y9) (by kernel_rfl) ?_
            rintro v10 y10 ⟨o10, q10⟩
            have X10 : TextAt y10 v10 (2 :: (a ++ b)) := TextAt.of_own o10
            have T11' := T10'.below Z1.out q10
            clear q10 o10
            refine ⟨T11', ?_⟩
            refine anyH_enter (i := 35) (d := 94) (by kernel_rfl) rfl rfl (by kernel_rfl) (FoldText_any HX.out.2.2.1 HX.out.2.2.2 y10) (by kernel_rfl) ?_
            rintro v11 y11 ⟨o11, q11⟩
            have X11 : TextAt y11 v11 (2 :: (c ++ d)) := TextAt.of_own o11
            replace X10 := X10.below q11
            have T12' := T11'.below Z1.out q11
            clear q11 o11
            refine ⟨T12', ?_⟩
            have E12 := same2_any y11 X10.1 X11.1; rw [pair_same (HX.out.1.trans HX.out.2.2.1.symm), hpa, hpb] at E12
            refine anyH_enter1 (i := 36) (d := 95) (by kernel_rfl) rfl rfl (by kernel_rfl) E12 (by kernel_rfl) ?_
            rintro y12 q12
            replace X10 := X10.below q12
            replace X11 := X11.below q12
            have T13' := T12'.below Z1.out q12
            clear q12 E12
            clear X10
            clear X11
            refine ⟨T13', ?_⟩
            refine anyH_take (i := 40) (d := 99) (v := .bool false) rfl rfl (by kernel_rfl) (by kernel_rfl) (by kernel_rfl) (fun _ _ _ h => h) (Or.inl ⟨by kernel_rfl, fun w _ => by kernel_rfl⟩) T13' ?_
            refine anyH_take (i := 41) (d := 100) (v := undef) rfl rfl (by kernel_rfl) (by kernel_rfl) (by kernel_rfl) (fun _ _ _ h => h) (Or.inr ⟨by kernel_rfl, rfl⟩) T13' ?_
            refine anyH_take (i := 42) (d := 101) (v := undef) rfl rfl (by kernel_rfl) (by kernel_rfl) (by kernel_rfl) (fun _ _ _ h => h) (Or.inr ⟨by kernel_rfl, rfl⟩) T13' ?_
            refine anyH_take (i := 43) (d := 102) (v := undef) rfl rfl (by kernel_rfl) (by kernel_rfl) (by kernel_rfl) (fun _ _ _ h => h) (Or.inr ⟨by kernel_rfl, rfl⟩) T13' ?_
            refine anyH_take (i := 44) (d := 103) (v := .bool false) rfl rfl (by kernel_rfl) (by kernel_rfl) (by kernel_rfl) (fun _ _ _ h => h) (Or.inl ⟨by kernel_rfl, fun w _ => by kernel_rfl⟩) T13' ?_
            refine anyH_take (i := 45) (d := 104) (v := .bool true) rfl rfl (by kernel_rfl) (by kernel_rfl) (by kernel_rfl) (fun _ _ _ h => h) (Or.inl ⟨by kernel_rfl, fun w _ => by kernel_rfl⟩) T13' ?_
            refine anyH_take (i := 46) (d := 105) (v := .bool true) rfl rfl (by kernel_rfl) (by kernel_rfl) (by kernel_rfl) (fun _ _ _ h => h) (Or.inl ⟨by kernel_rfl, fun w _ => by kernel_rfl⟩) T13' ?_
            refine anyH_take (i := 47) (d := 106) (v := .bool true) rfl rfl (by kernel_rfl) (by kernel_rfl) (by kernel_rfl) (fun _ _ _ h => h) (Or.inl ⟨by kernel_rfl, fun w _ => by kernel_rfl⟩) T13' ?_
            refine anyH_take (i := 48) (d := 107) (v := .int .u64 (n : Int)) rfl rfl (by kernel_rfl) (by kernel_rfl) (by kernel_rfl) (fun _ _ _ h => h) (Or.inl ⟨by kernel_rfl, fun w _ => by kernel_rfl⟩) T13' ?_
            refine anyH_take (i := 49) (d := 108) (v := .agg (cellsOf' u8c a)) rfl rfl (by kernel_rfl) (by kernel_rfl) (by kernel_rfl) (fun _ _ _ h => h) (yieldsIf_load_mid (by kernel_rfl) 23 (.tmp 10) rfl b0 0 (by kernel_rfl) (a.map u8c) _ (fun w h => h.1) Tryd.underlying23 rfl za) T13' ?_
            refine anyH_take (i := 51) (d := 110) (v := .int .u64 (m : Int)) rfl rfl (by kernel_rfl) (by kernel_rfl) (by kernel_rfl) (fun _ _ _ h => h) (Or.inl ⟨by kernel_rfl, fun w _ => by kernel_rfl⟩) T13' ?_
            refine anyH_take (i := 52) (d := 111) (v := .agg (cellsOf' u8c c)) rfl rfl (by kernel_rfl) (by kernel_rfl) (by kernel_rfl) (fun _ _ _ h => h) (yieldsIf_load_mid (by kernel_rfl) 23 (.tmp 12) rfl b2 0 (by kernel_rfl) (c.map u8c) _ (fun w h => h.2.2.1) Tryd.underlying23 rfl zc) T13' ?_
            refine anyH_take (i := 55) (d := 114) (v := .int .u64 (n : Int)) rfl rfl (by kernel_rfl) (by kernel_rfl) (by kernel_rfl) (fun _ _ _ h => h) (Or.inl ⟨by kernel_rfl, fun w _ => by kernel_rfl⟩) T13' ?_
            refine anyH_take (i := 56) (d := 115) (v := .int .u64 (m : Int)) rfl rfl (by kernel_rfl) (by kernel_rfl) (by kernel_rfl) (fun _ _ _ h => h) (Or.inl ⟨by kernel_rfl, fun w _ => by kernel_rfl⟩) T13' ?_
            refine anyH_take (i := 57) (d := 116) (v := .bool true) rfl rfl (by kernel_rfl) (by kernel_rfl) (by kernel_rfl) (fun _ _ _ h => h) ((yields_eqI (k := .u64) (by kernel_rfl) rfl (m := (n : Int)) (n := (m : Int)) (by kernel_rfl) (by kernel_rfl) EN1)) T13' ?_
            refine anyH_enter (i := 50) (d := 109) (by kernel_rfl) rfl rfl (by kernel_rfl) (RootText_any HNM.out.1 HX.out.1 y12) (by kernel_rfl) ?_
            rintro v13 y13 ⟨o13, q13⟩
            have X13 : TextAt y13 v13 (3 :: (bigL n 8 ++ a)) := TextAt.of_own o13
            have T14' := T13'.below Z1.out q13
            clear q13 o13
            refine ⟨T14', ?_⟩
            refine anyH_enter (i := 53) (d := 112) (by kernel_rfl) rfl rfl (by kernel_rfl) (RootText_any HNM.out.2 HX.out.2.2.1 y13) (by kernel_rfl) ?_
            rintro v14 y14 ⟨o14, q14⟩
            have X14 : TextAt y14 v14 (3 :: (bigL m 8 ++ c)) := TextAt.of_own o14
            replace X13 := X13.below q14
            have T15' := T14'.below Z1.out q14
            clear q14 o14
            refine ⟨T15', ?_⟩
            have E15 := same2_any y14 X13.1 X14.1; rw [root_same HNM.out.1 HNM.out.2, hpn, hpa] at E15
            refine anyH_enter1 (i := 54) (d := 113) (by kernel_rfl) rfl rfl (by kernel_rfl) E15 (by kernel_rfl) ?_
            rintro y15 q15
            replace X13 := X13.below q15
            replace X14 := X14.below q15
            have T16' := T15'.below Z1.out q15
            clear q15 E15
            clear X13
            clear X14
            refine ⟨T16', ?_⟩
            refine anyH_take (i := 58) (d := 117) (v := .bool true) rfl rfl (by kernel_rfl) (by kernel_rfl) (by kernel_rfl) (fun _ _ _ h => h) (Or.inl ⟨by kernel_rfl, fun w _ => by kernel_rfl⟩) T16' ?_
            refine anyH_take (i := 59) (d := 118) (v := .agg (cellsOf' u8c a)) rfl rfl (by kernel_rfl) (by kernel_rfl) (by kernel_rfl) (fun _ _ _ h => h) (yieldsIf_load_mid (by kernel_rfl) 23 (.tmp 10) rfl b0 0 (by kernel_rfl) (a.map u8c) _ (fun w h => h.1) Tryd.underlying23 rfl za) T16' ?_
            refine anyH_take (i := 60) (d := 119) (v := .agg (cellsOf' u8c c)) rfl rfl (by kernel_rfl) (by kernel_rfl) (by kernel_rfl) (fun _ _ _ h => h) (yieldsIf_load_mid (by kernel_rfl) 23 (.tmp 12) rfl b2 0 (by kernel_rfl) (c.map u8c) _ (fun w h => h.2.2.1) Tryd.underlying23 rfl zc) T16' ?_
            refine anyH_take (i := 61) (d := 120) (v := .bool false) rfl rfl (by kernel_rfl) (by kernel_rfl) (by kernel_rfl) (fun _ _ _ h => h) (yields_eqA (by kernel_rfl) rfl (X := cellsOf' u8c a) (Y := cellsOf' u8c c) (by kernel_rfl) (by kernel_rfl) EG EA) T16' ?_
            refine anyH_take (i := 62) (d := 121) (v := .bool false) rfl rfl (by kernel_rfl) (by kernel_rfl) (by kernel_rfl) (fun _ _ _ h => h) (Or.inl ⟨by kernel_rfl, fun w _ => by kernel_rfl⟩) T16' ?_
            refine anyH_take (i := 63) (d := 122) (v := .bool true) rfl rfl (by kernel_rfl) (by kernel_rfl) (by kernel_rfl) (fun _ _ _ h => h) (Or.inl ⟨by kernel_rfl, fun w _ => by kernel_rfl⟩) T16' ?_
            refine anyH_take (i := 64) (d := 123) (v := .bool true) rfl rfl (by kernel_rfl) (by kernel_rfl) (by kernel_rfl) (fun _ _ _ h => h) (Or.inl ⟨by kernel_rfl, fun w _ => by kernel_rfl⟩) T16' ?_
            refine anyH_take (i := 65) (d := 124) (v := .bool true) rfl rfl (by kernel_rfl) (by kernel_rfl) (by kernel_rfl) (fun _ _ _ h => h) (Or.inl ⟨by kernel_rfl, fun w _ => by kernel_rfl⟩) T16' ?_
            refine anyH_enter1 (i := 66) (d := 125) (by kernel_rfl) rfl rfl (by kernel_rfl) (awake2_any (HD.out.low hb1 (HW.out _ T16'.2.2.2.2))) (by kernel_rfl) ?_
            rintro y16 q16
            have T17' := T16'.below Z1.out q16
            clear q16
            refine ⟨T17', ?_⟩
            refine anyH_take (i := 67) (d := 126) (v := .bool true) rfl rfl (by kernel_rfl) (by kernel_rfl) (by kernel_rfl) (fun _ _ _ h => h) (Or.inl ⟨by kernel_rfl, fun w _ => by kernel_rfl⟩) T17' ?_
            refine anyH_take (i := 68) (d := 16) (v := .bool true) rfl rfl (by kernel_rfl) (by kernel_rfl) (by kernel_rfl) (fun _ _ _ h => h) (Or.inl ⟨by kernel_rfl, fun w _ => by kernel_rfl⟩) T17' ?_
            refine wpAnyH_done (by kernel_rfl) ?_ _
            go_wp2_with fail
            go_ret
            exact ⟨by kernel_rfl, by rw [HB0.out]; exact HW.out _ T17'.2.2.2.2⟩
          ·
            refine anyH_take (i := 0) (d := 59) (v := .slice aD dt.length cD) rfl rfl (by kernel_rfl) (by kernel_rfl) (by kernel_rfl) (fun _ _ _ h => h) (Or.inl ⟨by kernel_rfl, fun w _ => by kernel_rfl⟩) T0 ?_
            refine anyH_take (i := 3) (d := 62) (v := .slice aM mo.length cM) rfl rfl (by kernel_rfl) (by kernel_rfl) (by kernel_rfl) (fun _ _ _ h => h) (Or.inl ⟨by kernel_rfl, fun w _ => by kernel_rfl⟩) T0 ?_
            refine anyH_take (i := 7) (d := 66) (v := .slice aD dt.length cD) rfl rfl (by kernel_rfl) (by kernel_rfl) (by kernel_rfl) (fun _ _ _ h => h) (Or.inl ⟨by kernel_rfl, fun w _ => by kernel_rfl⟩) T0 ?_
            refine anyH_take (i := 8) (d := 67) (v := .slice aM mo.length cM) rfl rfl (by kernel_rfl) (by kernel_rfl) (by kernel_rfl) (fun _ _ _ h => h) (Or.inl ⟨by kernel_rfl, fun w _ => by kernel_rfl⟩) T0 ?_
            refine anyH_enter (i := 1) (d := 60) (by kernel_rfl) rfl rfl (by kernel_rfl) (row2_any wr.drew (SD.out.below (by rw [HB0.out]; exact HW.out _ T0.2.2.2.2)) (by have := HL.out; omega)) (by kernel_rfl) ?_
            rintro v1 y1 ⟨o1, q1⟩
            have X1 : TextAt y1 v1 dt := ⟨o1.slice, fun b hb => (o1.block b hb).2⟩
            have T2' := T0.below Z1.out q1
            clear q1 o1
            refine ⟨T2', ?_⟩
            refine anyH_enter (i := 2) (d := 61) (by kernel_rfl) rfl rfl (by kernel_rfl) (LeafText_any y1 X1.1 X1.2 (by have := HL.out; omega)) (by kernel_rfl) ?_
            rintro v2 y2 ⟨o2, q2⟩
            have X2 : TextAt y2 v2 (0 :: dt) := TextAt.of_own o2
            replace X1 := X1.below q2
            have T3' := T2'.below Z1.out q2
            clear q2 o2
            clear X1
            refine ⟨T3', ?_⟩
            refine anyH_enter (i := 4) (d := 63) (by kernel_rfl) rfl rfl (by kernel_rfl) (row2_any y2 (SM.out.below (by rw [HB0.out]; exact HW.out _ T3'.2.2.2.2)) (by have := HL.out; omega)) (by kernel_rfl) ?_
            rintro v3 y3 ⟨o3, q3⟩
            have X3 : TextAt y3 v3 mo := ⟨o3.slice, fun b hb => (o3.block b hb).2⟩
            replace X2 := X2.below q3
            have T4' := T3'.below Z1.out q3
            clear q3 o3
            refine ⟨T4', ?_⟩
            refine anyH_enter (i := 5) (d := 64) (by kernel_rfl) rfl rfl (by kernel_rfl) (LeafText_any y3 X3.1 X3.2 (by have := HL.out; omega)) (by kernel_rfl) ?_
            rintro v4 y4 ⟨o4, q4⟩
            have X4 : TextAt y4 v4 (0 :: mo) := TextAt.of_own o4
            replace X2 := X2.below q4
            replace X3 := X3.below q4
            have T5' := T4'.below Z1.out q4
            clear q4 o4
            clear X3
            refine ⟨T5', ?_⟩
            have E5 := same2_any y4 X2.1 X4.1; rw [leaf_same, hpl] at E5
            refine anyH_enter1 (i := 6) (d := 65) (by kernel_rfl) rfl rfl (by kernel_rfl) E5 (by kernel_rfl) ?_
            rintro y5 q5
            replace X2 := X2.below q5
            replace X4 := X4.below q5
            have T6' := T5'.below Z1.out q5
            clear q5 E5
            clear X2
            clear X4
            refine ⟨T6', ?_⟩
            have E6 := same2_any y5 (SD.out.below (by rw [HB0.out]; exact HW.out _ T6'.2.2.2.2)) (SM.out.below (by rw [HB0.out]; exact HW.out _ T6'.2.2.2.2)); rw [hpl] at E6
            refine anyH_enter1 (i := 9) (d := 68) (by kernel_rfl) rfl rfl (by kernel_rfl) E6 (by kernel_rfl) ?_
            rintro y6 q6
            have T7' := T6'.below Z1.out q6
            clear q6 E6
            refine ⟨T7', ?_⟩
            refine anyH_take (i := 10) (d := 69) (v := .bool true) rfl rfl (by kernel_rfl) (by kernel_rfl) (by kernel_rfl) (fun _ _ _ h => h) (Or.inl ⟨by kernel_rfl, fun w _ => by rcases pl with _ | _ <;> kernel_rfl⟩) T7' ?_
            refine anyH_take (i := 11) (d := 70) (v := .bool true) rfl rfl (by kernel_rfl) (by kernel_rfl) (by kernel_rfl) (fun _ _ _ h => h) (Or.inl ⟨by kernel_rfl, fun w _ => by kernel_rfl⟩) T7' ?_
            refine anyH_take (i := 12) (d := 71) (v := .agg (cellsOf' u8c a)) rfl rfl (by kernel_rfl) (by kernel_rfl) (by kernel_rfl) (fun _ _ _ h => h) (yieldsIf_load_mid (by kernel_rfl) 23 (.tmp 10) rfl b0 0 (by kernel_rfl) (a.map u8c) _ (fun w h => h.1) Tryd.underlying23 rfl za) T7' ?_
            refine anyH_take (i := 13) (d := 72) (v := .agg (cellsOf' u8c b)) rfl rfl (by kernel_rfl) (by kernel_rfl) (by kernel_rfl) (fun _ _ _ h => h) (yieldsIf_load_mid (by kernel_rfl) 23 (.tmp 11) rfl b1 0 (by kernel_rfl) (b.map u8c) _ (fun w h => h.2.1) Tryd.underlying23 rfl zb) T7' ?_
            refine anyH_take (i := 15) (d := 74) (v := .agg (cellsOf' u8c c)) rfl rfl (by kernel_rfl) (by kernel_rfl) (by kernel_rfl) (fun _ _ _ h => h) (yieldsIf_load_mid (by kernel_rfl) 23 (.tmp 12) rfl b2 0 (by kernel_rfl) (c.map u8c) _ (fun w h => h.2.2.1) Tryd.underlying23 rfl zc) T7' ?_
            refine anyH_take (i := 16) (d := 75) (v := .agg (cellsOf' u8c d)) rfl rfl (by kernel_rfl) (by kernel_rfl) (by kernel_rfl) (fun _ _ _ h => h) (yieldsIf_load_mid (by kernel_rfl) 23 (.tmp 13) rfl b3 0 (by kernel_rfl) (d.map u8c) _ (fun w h => h.2.2.2.1) Tryd.underlying23 rfl zd) T7' ?_
            refine anyH_take (i := 19) (d := 78) (v := .agg (cellsOf' u8c a)) rfl rfl (by kernel_rfl) (by kernel_rfl) (by kernel_rfl) (fun _ _ _ h => h) (yieldsIf_load_mid (by kernel_rfl) 23 (.tmp 10) rfl b0 0 (by kernel_rfl) (a.map u8c) _ (fun w h => h.1) Tryd.underlying23 rfl za) T7' ?_
            refine anyH_take (i := 20) (d := 79) (v := .agg (cellsOf' u8c c)) rfl rfl (by kernel_rfl) (by kernel_rfl) (by kernel_rfl) (fun _ _ _ h => h) (yieldsIf_load_mid (by kernel_rfl) 23 (.tmp 12) rfl b2 0 (by kernel_rfl) (c.map u8c) _ (fun w h => h.2.2.1) Tryd.underlying23 rfl zc) T7' ?_
            refine anyH_take (i := 21) (d := 80) (v := .bool false) rfl rfl (by kernel_rfl) (by kernel_rfl) (by kernel_rfl) (fun _ _ _ h => h) ((yields_eqA (by kernel_rfl) rfl (X := cellsOf' u8c a) (Y := cellsOf' u8c c) (by kernel_rfl) (by kernel_rfl) EG EA)) T7' ?_
            refine anyH_enter (i := 14) (d := 73) (by kernel_rfl) rfl rfl (by kernel_rfl) (NodeText_any HX.out.1 HX.out.2.1 y6) (by kernel_rfl) ?_
            rintro v7 y7 ⟨o7, q7⟩
            have X7 : TextAt y7 v7 (1 :: (a ++ b)) := TextAt.of_own o7
            have T8' := T7'.below Z1.out q7
            clear q7 o7
            refine ⟨T8', ?_⟩
            refine anyH_enter (i := 17) (d := 76) (by kernel_rfl) rfl rfl (by kernel_rfl) (NodeText_any HX.out.2.2.1 HX.out.2.2.2 y7) (by kernel_rfl) ?_
            rintro v8 y8 ⟨o8, q8⟩
            have X8 : TextAt y8 v8 (1 :: (c ++ d)) := TextAt.of_own o8
            replace X7 := X7.below q8
            have T9' := T8'.below Z1.out q8
            clear q8 o8
            refine ⟨T9', ?_⟩
            have E9 := same2_any y8 X7.1 X8.1; rw [pair_same (HX.out.1.trans HX.out.2.2.1.symm), hpa, hpb] at E9
            refine anyH_enter1 (i := 18) (d := 77) (by kernel_rfl) rfl rfl (by kernel_rfl) E9 (by kernel_rfl) ?_
            rintro y9 q9
            replace X7 := X7.below q9
            replace X8 := X8.below q9
            have T10' := T9'.below Z1.out q9
            clear q9 E9
            clear X7
            clear X8
            refine ⟨T10', ?_⟩
            refine anyH_take (i := 22) (d := 81) (v := .bool false) rfl rfl (by kernel_rfl) (by kernel_rfl) (by kernel_rfl) (fun _ _ _ h => h) (Or.inl ⟨by kernel_rfl, fun w _ => by kernel_rfl⟩) T10' ?_
            refine anyH_take (i := 23) (d := 82) (v := undef) rfl rfl (by kernel_rfl) (by kernel_rfl) (by kernel_rfl) (fun _ _ _ h => h) (Or.inr ⟨by kernel_rfl, rfl⟩) T10' ?_
            refine anyH_take (i := 24) (d := 83) (v := undef) rfl rfl (by kernel_rfl) (by kernel_rfl) (by kernel_rfl) (fun _ _ _ h => h) (Or.inr ⟨by kernel_rfl, rfl⟩) T10' ?_
            refine anyH_take (i := 25) (d := 84) (v := undef) rfl rfl (by kernel_rfl) (by kernel_rfl) (by kernel_rfl) (fun _ _ _ h => h) (Or.inr ⟨by kernel_rfl, rfl⟩) T10' ?_
            refine anyH_take (i := 26) (d := 85) (v := .bool false) rfl rfl (by kernel_rfl) (by kernel_rfl) (by kernel_rfl) (fun _ _ _ h => h) (Or.inl ⟨by kernel_rfl, fun w _ => by kernel_rfl⟩) T10' ?_
            refine anyH_take (i := 27) (d := 86) (v := .bool true) rfl rfl (by kernel_rfl) (by kernel_rfl) (by kernel_rfl) (fun _ _ _ h => h) (Or.inl ⟨by kernel_rfl, fun w _ => by kernel_rfl⟩) T10' ?_
            refine anyH_take (i := 28) (d := 87) (v := .bool true) rfl rfl (by kernel_rfl) (by kernel_rfl) (by kernel_rfl) (fun _ _ _ h => h) (Or.inl ⟨by kernel_rfl, fun w _ => by kernel_rfl⟩) T10' ?_
            refine anyH_take (i := 29) (d := 88) (v := .bool true) rfl rfl (by kernel_rfl) (by kernel_rfl) (by kernel_rfl) (fun _ _ _ h => h) (Or.inl ⟨by kernel_rfl, fun w _ => by kernel_rfl⟩) T10' ?_
            refine anyH_take (i := 30) (d := 89) (v := .agg (cellsOf' u8c a)) rfl rfl (by kernel_rfl) (by kernel_rfl) (by kernel_rfl) (fun _ _ _ h => h) (yieldsIf_load_mid (by kernel_rfl) 23 (.tmp 10) rfl b0 0 (by kernel_rfl) (a.map u8c) _ (fun w h => h.1) Tryd.underlying23 rfl za) T10' ?_
            refine anyH_take (i := 31) (d := 90) (v := .agg (cellsOf' u8c b)) rfl rfl (by kernel_rfl) (by kernel_rfl) (by kernel_rfl) (fun _ _ _ h => h) (yieldsIf_load_mid (by kernel_rfl) 23 (.tmp 11) rfl b1 0 (by kernel_rfl) (b.map u8c) _ (fun w h => h.2.1) Tryd.underlying23 rfl zb) T10' ?_
            refine anyH_take (i := 33) (d := 92) (v := .agg (cellsOf' u8c c)) rfl rfl (by kernel_rfl) (by kernel_rfl) (by kernel_rfl) (fun _ _ _ h => h) (yieldsIf_load_mid (by kernel_rfl) 23 (.tmp 12) rfl b2 0 (by kernel_rfl) (c.map u8c) _ (fun w h => h.2.2.1) Tryd.underlying23 rfl zc) T10' ?_
            refine anyH_take (i := 34) (d := 93) (v := .agg (cellsOf' u8c d)) rfl rfl (by kernel_rfl) (by kernel_rfl) (by kernel_rfl) (fun _ _ _ h => h) (yieldsIf_load_mid (by kernel_rfl) 23 (.tmp 13) rfl b3 0 (by kernel_rfl) (d.map u8c) _ (fun w h => h.2.2.2.1) Tryd.underlying23 rfl zd) T10' ?_
            refine anyH_take (i := 37) (d := 96) (v := .agg (cellsOf' u8c a)) rfl rfl (by kernel_rfl) (by kernel_rfl) (by kernel_rfl) (fun _ _ _ h => h) (yieldsIf_load_mid (by kernel_rfl) 23 (.tmp 10) rfl b0 0 (by kernel_rfl) (a.map u8c) _ (fun w h => h.1) Tryd.underlying23 rfl za) T10' ?_
            refine anyH_take (i := 38) (d := 97) (v := .agg (cellsOf' u8c c)) rfl rfl (by kernel_rfl) (by kernel_rfl) (by kernel_rfl) (fun _ _ _ h => h) (yieldsIf_load_mid (by kernel_rfl) 23 (.tmp 12) rfl b2 0 (by kernel_rfl) (c.map u8c) _ (fun w h => h.2.2.1) Tryd.underlying23 rfl zc) T10' ?_
            refine anyH_take (i := 39) (d := 98) (v := .bool false) rfl rfl (by kernel_rfl) (by kernel_rfl) (by kernel_rfl) (fun _ _ _ h => h) ((yields_eqA (by kernel_rfl) rfl (X := cellsOf' u8c a) (Y := cellsOf' u8c c) (by kernel_rfl) (by kernel_rfl) EG EA)) T10' ?_
            refine anyH_enter (i := 32) (d := 91) (by kernel_rfl) rfl rfl (by kernel_rfl) (FoldText_any HX.out.1 HX.out.2.1 y9) (by kernel_rfl) ?_
            rintro v10 y10 ⟨o10, q10⟩
            have X10 : TextAt y10 v10 (2 :: (a ++ b)) := TextAt.of_own o10
            have T11' := T10'.below Z1.out q10
            clear q10 o10
            refine ⟨T11', ?_⟩
            refine anyH_enter (i := 35) (d := 94) (by kernel_rfl) rfl rfl (by kernel_rfl) (FoldText_any HX.out.2.2.1 HX.out.2.2.2 y10) (by kernel_rfl) ?_
            rintro v11 y11 ⟨o11, q11⟩
            have X11 : TextAt y11 v11 (2 :: (c ++ d)) := TextAt.of_own o11
            replace X10 := X10.below q11
            have T12' := T11'.below Z1.out q11
            clear q11 o11
            refine ⟨T12', ?_⟩
            have E12 := same2_any y11 X10.1 X11.1; rw [pair_same (HX.out.1.trans HX.out.2.2.1.symm), hpa, hpb] at E12
            refine anyH_enter1 (i := 36) (d := 95) (by kernel_rfl) rfl rfl (by kernel_rfl) E12 (by kernel_rfl) ?_
            rintro y12 q12
            replace X10 := X10.below q12
            replace X11 := X11.below q12
            have T13' := T12'.below Z1.out q12
            clear q12 E12
            clear X10
            clear X11
            refine ⟨T13', ?_⟩
            refine anyH_take (i := 40) (d := 99) (v := .bool false) rfl rfl (by kernel_rfl) (by kernel_rfl) (by kernel_rfl) (fun _ _ _ h => h) (Or.inl ⟨by kernel_rfl, fun w _ => by kernel_rfl⟩) T13' ?_
            refine anyH_take (i := 41) (d := 100) (v := undef) rfl rfl (by kernel_rfl) (by kernel_rfl) (by kernel_rfl) (fun _ _ _ h => h) (Or.inr ⟨by kernel_rfl, rfl⟩) T13' ?_
            refine anyH_take (i := 42) (d := 101) (v := undef) rfl rfl (by kernel_rfl) (by kernel_rfl) (by kernel_rfl) (fun _ _ _ h => h) (Or.inr ⟨by kernel_rfl, rfl⟩) T13' ?_
            refine anyH_take (i := 43) (d := 102) (v := undef) rfl rfl (by kernel_rfl) (by kernel_rfl) (by kernel_rfl) (fun _ _ _ h => h) (Or.inr ⟨by kernel_rfl, rfl⟩) T13' ?_
            refine anyH_take (i := 44) (d := 103) (v := .bool false) rfl rfl (by kernel_rfl) (by kernel_rfl) (by kernel_rfl) (fun _ _ _ h => h) (Or.inl ⟨by kernel_rfl, fun w _ => by kernel_rfl⟩) T13' ?_
            refine anyH_take (i := 45) (d := 104) (v := .bool true) rfl rfl (by kernel_rfl) (by kernel_rfl) (by kernel_rfl) (fun _ _ _ h => h) (Or.inl ⟨by kernel_rfl, fun w _ => by kernel_rfl⟩) T13' ?_
            refine anyH_take (i := 46) (d := 105) (v := .bool true) rfl rfl (by kernel_rfl) (by kernel_rfl) (by kernel_rfl) (fun _ _ _ h => h) (Or.inl ⟨by kernel_rfl, fun w _ => by kernel_rfl⟩) T13' ?_
            refine anyH_take (i := 47) (d := 106) (v := .bool true) rfl rfl (by kernel_rfl) (by kernel_rfl) (by kernel_rfl) (fun _ _ _ h => h) (Or.inl ⟨by kernel_rfl, fun w _ => by kernel_rfl⟩) T13' ?_
            refine anyH_take (i := 48) (d := 107) (v := .int .u64 (n : Int)) rfl rfl (by kernel_rfl) (by kernel_rfl) (by kernel_rfl) (fun _ _ _ h => h) (Or.inl ⟨by kernel_rfl, fun w _ => by kernel_rfl⟩) T13' ?_
            refine anyH_take (i := 49) (d := 108) (v := .agg (cellsOf' u8c a)) rfl rfl (by kernel_rfl) (by kernel_rfl) (by kernel_rfl) (fun _ _ _ h => h) (yieldsIf_load_mid (by kernel_rfl) 23 (.tmp 10) rfl b0 0 (by kernel_rfl) (a.map u8c) _ (fun w h => h.1) Tryd.underlying23 rfl za) T13' ?_
            refine anyH_take (i := 51) (d := 110) (v := .int .u64 (m : Int)) rfl rfl (by kernel_rfl) (by kernel_rfl) (by kernel_rfl) (fun _ _ _ h => h) (Or.inl ⟨by kernel_rfl, fun w _ => by kernel_rfl⟩) T13' ?_
            refine anyH_take (i := 52) (d := 111) (v := .agg (cellsOf' u8c c)) rfl rfl (by kernel_rfl) (by kernel_rfl) (by kernel_rfl) (fun _ _ _ h => h) (yieldsIf_load_mid (by kernel_rfl) 23 (.tmp 12) rfl b2 0 (by kernel_rfl) (c.map u8c) _ (fun w h => h.2.2.1) Tryd.underlying23 rfl zc) T13' ?_
            refine anyH_take (i := 55) (d := 114) (v := .int .u64 (n : Int)) rfl rfl (by kernel_rfl) (by kernel_rfl) (by kernel_rfl) (fun _ _ _ h => h) (Or.inl ⟨by kernel_rfl, fun w _ => by kernel_rfl⟩) T13' ?_
            refine anyH_take (i := 56) (d := 115) (v := .int .u64 (m : Int)) rfl rfl (by kernel_rfl) (by kernel_rfl) (by kernel_rfl) (fun _ _ _ h => h) (Or.inl ⟨by kernel_rfl, fun w _ => by kernel_rfl⟩) T13' ?_
            refine anyH_take (i := 57) (d := 116) (v := .bool false) rfl rfl (by kernel_rfl) (by kernel_rfl) (by kernel_rfl) (fun _ _ _ h => h) ((yields_eqI (k := .u64) (by kernel_rfl) rfl (m := (n : Int)) (n := (m : Int)) (by kernel_rfl) (by kernel_rfl) EN1)) T13' ?_
            refine anyH_enter (i := 50) (d := 109) (by kernel_rfl) rfl rfl (by kernel_rfl) (RootText_any HNM.out.1 HX.out.1 y12) (by kernel_rfl) ?_
            rintro v13 y13 ⟨o13, q13⟩
            have X13 : TextAt y13 v13 (3 :: (bigL n 8 ++ a)) := TextAt.of_own o13
            have T14' := T13'.below Z1.out q13
            clear q13 o13
            refine ⟨T14', ?_⟩
            refine anyH_enter (i := 53) (d := 112) (by kernel_rfl) rfl rfl (by kernel_rfl) (RootText_any HNM.out.2 HX.out.2.2.1 y13) (by kernel_rfl) ?_
            rintro v14 y14 ⟨o14, q14⟩
            have X14 : TextAt y14 v14 (3 :: (bigL m 8 ++ c)) := TextAt.of_own o14
            replace X13 := X13.below q14
            have T15' := T14'.below Z1.out q14
            clear q14 o14
            refine ⟨T15', ?_⟩
            have E15 := same2_any y14 X13.1 X14.1; rw [root_same HNM.out.1 HNM.out.2, hpn, hpa] at E15
            refine anyH_enter1 (i := 54) (d := 113) (by kernel_rfl) rfl rfl (by kernel_rfl) E15 (by kernel_rfl) ?_
            rintro y15 q15
            replace X13 := X13.below q15
            replace X14 := X14.below q15
            have T16' := T15'.below Z1.out q15
            clear q15 E15
            clear X13
            clear X14
            refine ⟨T16', ?_⟩
            refine anyH_take (i := 58) (d := 117) (v := .bool false) rfl rfl (by kernel_rfl) (by kernel_rfl) (by kernel_rfl) (fun _ _ _ h => h) (Or.inl ⟨by kernel_rfl, fun w _ => by kernel_rfl⟩) T16' ?_
            refine anyH_take (i := 59) (d := 118) (v := undef) rfl rfl (by kernel_rfl) (by kernel_rfl) (by kernel_rfl) (fun _ _ _ h => h) (Or.inr ⟨by kernel_rfl, rfl⟩) T16' ?_
            refine anyH_take (i := 60) (d := 119) (v := undef) rfl rfl (by kernel_rfl) (by kernel_rfl) (by kernel_rfl) (fun _ _ _ h => h) (Or.inr ⟨by kernel_rfl, rfl⟩) T16' ?_
            refine anyH_take (i := 61) (d := 120) (v := undef) rfl rfl (by kernel_rfl) (by kernel_rfl) (by kernel_rfl) (fun _ _ _ h => h) (Or.inr ⟨by kernel_rfl, rfl⟩) T16' ?_
            refine anyH_take (i := 62) (d := 121) (v := .bool false) rfl rfl (by kernel_rfl) (by kernel_rfl) (by kernel_rfl) (fun _ _ _ h => h) (Or.inl ⟨by kernel_rfl, fun w _ => by kernel_rfl⟩) T16' ?_
            refine anyH_take (i := 63) (d := 122) (v := .bool true) rfl rfl (by kernel_rfl) (by kernel_rfl) (by kernel_rfl) (fun _ _ _ h => h) (Or.inl ⟨by kernel_rfl, fun w _ => by kernel_rfl⟩) T16' ?_
            refine anyH_take (i := 64) (d := 123) (v := .bool true) rfl rfl (by kernel_rfl) (by kernel_rfl) (by kernel_rfl) (fun _ _ _ h => h) (Or.inl ⟨by kernel_rfl, fun w _ => by kernel_rfl⟩) T16' ?_
            refine anyH_take (i := 65) (d := 124) (v := .bool true) rfl rfl (by kernel_rfl) (by kernel_rfl) (by kernel_rfl) (fun _ _ _ h => h) (Or.inl ⟨by kernel_rfl, fun w _ => by kernel_rfl⟩) T16' ?_
            refine anyH_enter1 (i := 66) (d := 125) (by kernel_rfl) rfl rfl (by kernel_rfl) (awake2_any (HD.out.low hb1 (HW.out _ T16'.2.2.2.2))) (by kernel_rfl) ?_
            rintro y16 q16
            have T17' := T16'.below Z1.out q16
            clear q16
            refine ⟨T17', ?_⟩
            refine anyH_take (i := 67) (d := 126) (v := .bool true) rfl rfl (by kernel_rfl) (by kernel_rfl) (by kernel_rfl) (fun _ _ _ h => h) (Or.inl ⟨by kernel_rfl, fun w _ => by kernel_rfl⟩) T17' ?_
            refine anyH_take (i := 68) (d := 16) (v := .bool true) rfl rfl (by kernel_rfl) (by kernel_rfl) (by kernel_rfl) (fun _ _ _ h => h) (Or.inl ⟨by kernel_rfl, fun w _ => by kernel_rfl⟩) T17' ?_
            refine wpAnyH_done (by kernel_rfl) ?_ _
            go_wp2_with fail
            go_ret
            exact ⟨by kernel_rfl, by rw [HB0.out]; exact HW.out _ T17'.2.2.2.2⟩
          ·
            refine anyH_take (i := 0) (d := 59) (v := .slice aD dt.length cD) rfl rfl (by kernel_rfl) (by kernel_rfl) (by kernel_rfl) (fun _ _ _ h => h) (Or.inl ⟨by kernel_rfl, fun w _ => by kernel_rfl⟩) T0 ?_
            refine anyH_take (i := 3) (d := 62) (v := .slice aM mo.length cM) rfl rfl (by kernel_rfl) (by kernel_rfl) (by kernel_rfl) (fun _ _ _ h => h) (Or.inl ⟨by kernel_rfl, fun w _ => by kernel_rfl⟩) T0 ?_
            refine anyH_take (i := 7) (d := 66) (v := .slice aD dt.length cD) rfl rfl (by kernel_rfl) (by kernel_rfl) (by kernel_rfl) (fun _ _ _ h => h) (Or.inl ⟨by kernel_rfl, fun w _ => by kernel_rfl⟩) T0 ?_
            refine anyH_take (i := 8) (d := 67) (v := .slice aM mo.length cM) rfl rfl (by kernel_rfl) (by kernel_rfl) (by kernel_rfl) (fun _ _ _ h => h) (Or.inl ⟨by kernel_rfl, fun w _ => by kernel_rfl⟩) T0 ?_
            refine anyH_enter (i := 1) (d := 60) (by kernel_rfl) rfl rfl (by kernel_rfl) (row2_any wr.drew (SD.out.below (by rw [HB0.out]; exact HW.out _ T0.2.2.2.2)) (by have := HL.out; omega)) (by kernel_rfl) ?_
            rintro v1 y1 ⟨o1, q1⟩
            have X1 : TextAt y1 v1 dt := ⟨o1.slice, fun b hb => (o1.block b hb).2⟩
            have T2' := T0.below Z1.out q1
            clear q1 o1
            refine ⟨T2', ?_⟩
            refine anyH_enter (i := 2) (d := 61) (by kernel_rfl) rfl rfl (by kernel_rfl) (LeafText_any y1 X1.1 X1.2 (by have := HL.out; omega)) (by kernel_rfl) ?_
            rintro v2 y2 ⟨o2, q2⟩
            have X2 : TextAt y2 v2 (0 :: dt) := TextAt.of_own o2
            replace X1 := X1.below q2
            have T3' := T2'.below Z1.out q2
            clear q2 o2
            clear X1
            refine ⟨T3', ?_⟩
            refine anyH_enter (i := 4) (d := 63) (by kernel_rfl) rfl rfl (by kernel_rfl) (row2_any y2 (SM.out.below (by rw [HB0.out]; exact HW.out _ T3'.2.2.2.2)) (by have := HL.out; omega)) (by kernel_rfl) ?_
            rintro v3 y3 ⟨o3, q3⟩
            have X3 : TextAt y3 v3 mo := ⟨o3.slice, fun b hb => (o3.block b hb).2⟩
            replace X2 := X2.below q3
            have T4' := T3'.below Z1.out q3
            clear q3 o3
            refine ⟨T4', ?_⟩
            refine anyH_enter (i := 5) (d := 64) (by kernel_rfl) rfl rfl (by kernel_rfl) (LeafText_any y3 X3.1 X3.2 (by have := HL.out; omega)) (by kernel_rfl) ?_
            rintro v4 y4 ⟨o4, q4⟩
            have X4 : TextAt y4 v4 (0 :: mo) := TextAt.of_own o4
            replace X2 := X2.below q4
            replace X3 := X3.below q4
            have T5' := T4'.below Z1.out q4
            clear q4 o4
            clear X3
            refine ⟨T5', ?_⟩
            have E5 := same2_any y4 X2.1 X4.1; rw [leaf_same, hpl] at E5
            refine anyH_enter1 (i := 6) (d := 65) (by kernel_rfl) rfl rfl (by kernel_rfl) E5 (by kernel_rfl) ?_
            rintro y5 q5
            replace X2 := X2.below q5
            replace X4 := X4.below q5
            have T6' := T5'.below Z1.out q5
            clear q5 E5
            clear X2
            clear X4
            refine ⟨T6', ?_⟩
            have E6 := same2_any y5 (SD.out.below (by rw [HB0.out]; exact HW.out _ T6'.2.2.2.2)) (SM.out.below (by rw [HB0.out]; exact HW.out _ T6'.2.2.2.2)); rw [hpl] at E6
            refine anyH_enter1 (i := 9) (d := 68) (by kernel_rfl) rfl rfl (by kernel_rfl) E6 (by kernel_rfl) ?_
            rintro y6 q6
            have T7' := T6'.below Z1.out q6
            clear q6 E6
            refine ⟨T7', ?_⟩
            refine anyH_take (i := 10) (d := 69) (v := .bool true) rfl rfl (by kernel_rfl) (by kernel_rfl) (by kernel_rfl) (fun _ _ _ h => h) (Or.inl ⟨by kernel_rfl, fun w _ => by rcases pl with _ | _ <;> kernel_rfl⟩) T7' ?_
            refine anyH_take (i := 11) (d := 70) (v := .bool true) rfl rfl (by kernel_rfl) (by kernel_rfl) (by kernel_rfl) (fun _ _ _ h => h) (Or.inl ⟨by kernel_rfl, fun w _ => by kernel_rfl⟩) T7' ?_
            refine anyH_take (i := 12) (d := 71) (v := .agg (cellsOf' u8c a)) rfl rfl (by kernel_rfl) (by kernel_rfl) (by kernel_rfl) (fun _ _ _ h => h) (yieldsIf_load_mid (by kernel_rfl) 23 (.tmp 10) rfl b0 0 (by kernel_rfl) (a.map u8c) _ (fun w h => h.1) Tryd.underlying23 rfl za) T7' ?_
            refine anyH_take (i := 13) (d := 72) (v := .agg (cellsOf' u8c b)) rfl rfl (by kernel_rfl) (by kernel_rfl) (by kernel_rfl) (fun _ _ _ h => h) (yieldsIf_load_mid (by kernel_rfl) 23 (.tmp 11) rfl b1 0 (by kernel_rfl) (b.map u8c) _ (fun w h => h.2.1) Tryd.underlying23 rfl zb) T7' ?_
            refine anyH_take (i := 15) (d := 74) (v := .agg (cellsOf' u8c c)) rfl rfl (by kernel_rfl) (by kernel_rfl) (by kernel_rfl) (fun _ _ _ h => h) (yieldsIf_load_mid (by kernel_rfl) 23 (.tmp 12) rfl b2 0 (by kernel_rfl) (c.map u8c) _ (fun w h => h.2.2.1) Tryd.underlying23 rfl zc) T7' ?_
            refine anyH_take (i := 16) (d := 75) (v := .agg (cellsOf' u8c d)) rfl rfl (by kernel_rfl) (by kernel_rfl) (by kernel_rfl) (fun _ _ _ h => h) (yieldsIf_load_mid (by kernel_rfl) 23 (.tmp 13) rfl b3 0 (by kernel_rfl) (d.map u8c) _ (fun w h => h.2.2.2.1) Tryd.underlying23 rfl zd) T7' ?_
            refine anyH_take (i := 19) (d := 78) (v := .agg (cellsOf' u8c a)) rfl rfl (by kernel_rfl) (by kernel_rfl) (by kernel_rfl) (fun _ _ _ h => h) (yieldsIf_load_mid (by kernel_rfl) 23 (.tmp 10) rfl b0 0 (by kernel_rfl) (a.map u8c) _ (fun w h => h.1) Tryd.underlying23 rfl za) T7' ?_
            refine anyH_take (i := 20) (d := 79) (v := .agg (cellsOf' u8c c)) rfl rfl (by kernel_rfl) (by kernel_rfl) (by kernel_rfl) (fun _ _ _ h => h) (yieldsIf_load_mid (by kernel_rfl) 23 (.tmp 12) rfl b2 0 (by kernel_rfl) (c.map u8c) _ (fun w h => h.2.2.1) Tryd.underlying23 rfl zc) T7' ?_
            refine anyH_take (i := 21) (d := 80) (v := .bool false) rfl rfl (by kernel_rfl) (by kernel_rfl) (by kernel_rfl) (fun _ _ _ h => h) ((yields_eqA (by kernel_rfl) rfl (X := cellsOf' u8c a) (Y := cellsOf' u8c c) (by kernel_rfl) (by kernel_rfl) EG EA)) T7' ?_
            refine anyH_enter (i := 14) (d := 73) (by kernel_rfl) rfl rfl (by kernel_rfl) (NodeText_any HX.out.1 HX.out.2.1 y6) (by kernel_rfl) ?_
            rintro v7 y7 ⟨o7, q7⟩
            have X7 : TextAt y7 v7 (1 :: (a ++ b)) := TextAt.of_own o7
            have T8' := T7'.below Z1.out q7
            clear q7 o7
            refine ⟨T8', ?_⟩
            refine anyH_enter (i := 17) (d := 76) (by kernel_rfl) rfl rfl (by kernel_rfl) (NodeText_any HX.out.2.2.1 HX.out.2.2.2 y7) (by kernel_rfl) ?_
            rintro v8 y8 ⟨o8, q8⟩
            have X8 : TextAt y8 v8 (1 :: (c ++ d)) := TextAt.of_own o8
            replace X7 := X7.below q8
            have T9' := T8'.below Z1.out q8
            clear q8 o8
            refine ⟨T9', ?_⟩
            have E9 := same2_any y8 X7.1 X8.1; rw [pair_same (HX.out.1.trans HX.out.2.2.1.symm), hpa, hpb] at E9
            refine anyH_enter1 (i := 18) (d := 77) (by kernel_rfl) rfl rfl (by kernel_rfl) E9 (by kernel_rfl) ?_
            rintro y9 q9
            replace X7 := X7.below q9
            replace X8 := X8.below q9
            have T10' := T9'.below Z1.out q9
            clear q9 E9
            clear X7
            clear X8
            refine ⟨T10', ?_⟩
            refine anyH_take (i := 22) (d := 81) (v := .bool false) rfl rfl (by kernel_rfl) (by kernel_rfl) (by kernel_rfl) (fun _ _ _ h => h) (Or.inl ⟨by kernel_rfl, fun w _ => by kernel_rfl⟩) T10' ?_
            refine anyH_take (i := 23) (d := 82) (v := undef) rfl rfl (by kernel_rfl) (by kernel_rfl) (by kernel_rfl) (fun _ _ _ h => h) (Or.inr ⟨by kernel_rfl, rfl⟩) T10' ?_
            refine anyH_take (i := 24) (d := 83) (v := undef) rfl rfl (by kernel_rfl) (by kernel_rfl) (by kernel_rfl) (fun _ _ _ h => h) (Or.inr ⟨by kernel_rfl, rfl⟩) T10' ?_
            refine anyH_take (i := 25) (d := 84) (v := undef) rfl rfl (by kernel_rfl) (by kernel_rfl) (by kernel_rfl) (fun _ _ _ h => h) (Or.inr ⟨by kernel_rfl, rfl⟩) T10' ?_
            refine anyH_take (i := 26) (d := 85) (v := .bool false) rfl rfl (by kernel_rfl) (by kernel_rfl) (by kernel_rfl) (fun _ _ _ h => h) (Or.inl ⟨by kernel_rfl, fun w _ => by kernel_rfl⟩) T10' ?_
            refine anyH_take (i := 27) (d := 86) (v := .bool true) rfl rfl (by kernel_rfl) (by kernel_rfl) (by kernel_rfl) (fun _ _ _ h => h) (Or.inl ⟨by kernel_rfl, fun w _ => by kernel_rfl⟩) T10' ?_
            refine anyH_take (i := 28) (d := 87) (v := .bool true) rfl rfl (by kernel_rfl) (by kernel_rfl) (by kernel_rfl) (fun _ _ _ h => h) (Or.inl ⟨by kernel_rfl, fun w _ => by kernel_rfl⟩) T10' ?_
            refine anyH_take (i := 29) (d := 88) (v := .bool true) rfl rfl (by kernel_rfl) (by kernel_rfl) (by kernel_rfl) (fun _ _ _ h => h) (Or.inl ⟨by kernel_rfl, fun w _ => by kernel_rfl⟩) T10' ?_
            refine anyH_take (i := 30) (d := 89) (v := .agg (cellsOf' u8c a)) rfl rfl (by kernel_rfl) (by kernel_rfl) (by kernel_rfl) (fun _ _ _ h => h) (yieldsIf_load_mid (by kernel_rfl) 23 (.tmp 10) rfl b0 0 (by kernel_rfl) (a.map u8c) _ (fun w h => h.1) Tryd.underlying23 rfl za) T10' ?_
            refine anyH_take (i := 31) (d := 90) (v := .agg (cellsOf' u8c b)) rfl rfl (by kernel_rfl) (by kernel_rfl) (by kernel_rfl) (fun _ _ _ h => h) (yieldsIf_load_mid (by kernel_rfl) 23 (.tmp 11) rfl b1 0 (by kernel_rfl) (b.map u8c) _ (fun w h => h.2.1) Tryd.underlying23 rfl zb) T10' ?_
            refine anyH_take (i := 33) (d := 92) (v := .agg (cellsOf' u8c c)) rfl rfl (by kernel_rfl) (by kernel_rfl) (by kernel_rfl) (fun _ _ _ h => h) (yieldsIf_load_mid (by kernel_rfl) 23 (.tmp 12) rfl b2 0 (by kernel_rfl) (c.map u8c) _ (fun w h => h.2.2.1) Tryd.underlying23 rfl zc) T10' ?_
            refine anyH_take (i := 34) (d := 93) (v := .agg (cellsOf' u8c d)) rfl rfl (by kernel_rfl) (by kernel_rfl) (by kernel_rfl) (fun _ _ _ h => h) (yieldsIf_load_mid (by kernel_rfl) 23 (.tmp 13) rfl b3 0 (by kernel_rfl) (d.map u8c) _ (fun w h => h.2.2.2.1) Tryd.underlying23 rfl zd) T10' ?_
            refine anyH_take (i := 37) (d := 96) (v := .agg (cellsOf' u8c a)) rfl rfl (by kernel_rfl) (by kernel_rfl) (by kernel_rfl) (fun _ _ _ h => h) (yieldsIf_load_mid (by kernel_rfl) 23 (.tmp 10) rfl b0 0 (by kernel_rfl) (a.map u8c) _ (fun w h => h.1) Tryd.underlying23 rfl za) T10' ?_
            refine anyH_take (i := 38) (d := 97) (v := .agg (cellsOf' u8c c)) rfl rfl (by kernel_rfl) (by kernel_rfl) (by kernel_rfl) (fun _ _ _ h => h) (yieldsIf_load_mid (by kernel_rfl) 23 (.tmp 12) rfl b2 0 (by kernel_rfl) (c.map u8c) _ (fun w h => h.2.2.1) Tryd.underlying23 rfl zc) T10' ?_
            refine anyH_take (i := 39) (d := 98) (v := .bool false) rfl rfl (by kernel_rfl) (by kernel_rfl) (by kernel_rfl) (fun _ _ _ h => h) ((yields_eqA (by kernel_rfl) rfl (X := cellsOf' u8c a) (Y := cellsOf' u8c c) (by kernel_rfl) (by kernel_rfl) EG EA)) T10' ?_
            refine anyH_enter (i := 32) (d := 91) (by kernel_rfl) rfl rfl (by kernel_rfl) (FoldText_any HX.out.1 HX.out.2.1 y9) (by kernel_rfl) ?_
            rintro v10 y10 ⟨o10, q10⟩
            have X10 : TextAt y10 v10 (2 :: (a ++ b)) := TextAt.of_own o10
            have T11' := T10'.below Z1.out q10
            clear q10 o10
            refine ⟨T11', ?_⟩
            refine anyH_enter (i := 35) (d := 94) (by kernel_rfl) rfl rfl (by kernel_rfl) (FoldText_any HX.out.2.2.1 HX.out.2.2.2 y10) (by kernel_rfl) ?_
            rintro v11 y11 ⟨o11, q11⟩
            have X11 : TextAt y11 v11 (2 :: (c ++ d)) := TextAt.of_own o11
            replace X10 := X10.below q11
            have T12' := T11'.below Z1.out q11
            clear q11 o11
            refine ⟨T12', ?_⟩
            have E12 := same2_any y11 X10.1 X11.1; rw [pair_same (HX.out.1.trans HX.out.2.2.1.symm), hpa, hpb] at E12
            refine anyH_enter1 (i := 36) (d := 95) (by kernel_rfl) rfl rfl (by kernel_rfl) E12 (by kernel_rfl) ?_
            rintro y12 q12
            replace X10 := X10.below q12
            replace X11 := X11.below q12
            have T13' := T12'.below Z1.out q12
            clear q12 E12
            clear X10
            clear X11
            refine ⟨T13', ?_⟩
            refine anyH_take (i := 40) (d := 99) (v := .bool false) rfl rfl (by kernel_rfl) (by kernel_rfl) (by kernel_rfl) (fun _ _ _ h => h) (Or.inl ⟨by kernel_rfl, fun w _ => by kernel_rfl⟩) T13' ?_
            refine anyH_take (i := 41) (d := 100) (v := undef) rfl rfl (by kernel_rfl) (by kernel_rfl) (by kernel_rfl) (fun _ _ _ h => h) (Or.inr ⟨by kernel_rfl, rfl⟩) T13' ?_
            refine anyH_take (i := 42) (d := 101) (v := undef) rfl rfl (by kernel_rfl) (by kernel_rfl) (by kernel_rfl) (fun _ _ _ h => h) (Or.inr ⟨by kernel_rfl, rfl⟩) T13' ?_
            refine anyH_take (i := 43) (d := 102) (v := undef) rfl rfl (by kernel_rfl) (by kernel_rfl) (by kernel_rfl) (fun _ _ _ h => h) (Or.inr ⟨by kernel_rfl, rfl⟩) T13' ?_
            refine anyH_take (i := 44) (d := 103) (v := .bool false) rfl rfl (by kernel_rfl) (by kernel_rfl) (by kernel_rfl) (fun _ _ _ h => h) (Or.inl ⟨by kernel_rfl, fun w _ => by kernel_rfl⟩) T13' ?_
            refine anyH_take (i := 45) (d := 104) (v := .bool true) rfl rfl (by kernel_rfl) (by kernel_rfl) (by kernel_rfl) (fun _ _ _ h => h) (Or.inl ⟨by kernel_rfl, fun w _ => by kernel_rfl⟩) T13' ?_
            refine anyH_take (i := 46) (d := 105) (v := .bool true) rfl rfl (by kernel_rfl) (by kernel_rfl) (by kernel_rfl) (fun _ _ _ h => h) (Or.inl ⟨by kernel_rfl, fun w _ => by kernel_rfl⟩) T13' ?_
            refine anyH_take (i := 47) (d := 106) (v := .bool true) rfl rfl (by kernel_rfl) (by kernel_rfl) (by kernel_rfl) (fun _ _ _ h => h) (Or.inl ⟨by kernel_rfl, fun w _ => by kernel_rfl⟩) T13' ?_
            refine anyH_take (i := 48) (d := 107) (v := .int .u64 (n : Int)) rfl rfl (by kernel_rfl) (by kernel_rfl) (by kernel_rfl) (fun _ _ _ h => h) (Or.inl ⟨by kernel_rfl, fun w _ => by kernel_rfl⟩) T13' ?_
            refine anyH_take (i := 49) (d := 108) (v := .agg (cellsOf' u8c a)) rfl rfl (by kernel_rfl) (by kernel_rfl) (by kernel_rfl) (fun _ _ _ h => h) (yieldsIf_load_mid (by kernel_rfl) 23 (.tmp 10) rfl b0 0 (by kernel_rfl) (a.map u8c) _ (fun w h => h.1) Tryd.underlying23 rfl za) T13' ?_
            refine anyH_take (i := 51) (d := 110) (v := .int .u64 (m : Int)) rfl rfl (by kernel_rfl) (by kernel_rfl) (by kernel_rfl) (fun _ _ _ h => h) (Or.inl ⟨by kernel_rfl, fun w _ => by kernel_rfl⟩) T13' ?_
            refine anyH_take (i := 52) (d := 111) (v := .agg (cellsOf' u8c c)) rfl rfl (by kernel_rfl) (by kernel_rfl) (by kernel_rfl) (fun _ _ _ h => h) (yieldsIf_load_mid (by kernel_rfl) 23 (.tmp 12) rfl b2 0 (by kernel_rfl) (c.map u8c) _ (fun w h => h.2.2.1) Tryd.underlying23 rfl zc) T13' ?_
            refine anyH_take (i := 55) (d := 114) (v := .int .u64 (n : Int)) rfl rfl (by kernel_rfl) (by kernel_rfl) (by kernel_rfl) (fun _ _ _ h => h) (Or.inl ⟨by kernel_rfl, fun w _ => by kernel_rfl⟩) T13' ?_
            refine anyH_take (i := 56) (d := 115) (v := .int .u64 (m : Int)) rfl rfl (by kernel_rfl) (by kernel_rfl) (by kernel_rfl) (fun _ _ _ h => h) (Or.inl ⟨by kernel_rfl, fun w _ => by kernel_rfl⟩) T13' ?_
            refine anyH_take (i := 57) (d := 116) (v := .bool true) rfl rfl (by kernel_rfl) (by kernel_rfl) (by kernel_rfl) (fun _ _ _ h => h) ((yields_eqI (k := .u64) (by kernel_rfl) rfl (m := (n : Int)) (n := (m : Int)) (by kernel_rfl) (by kernel_rfl) EN1)) T13' ?_
            refine anyH_enter (i := 50) (d := 109) (by kernel_rfl) rfl rfl (by kernel_rfl) (RootText_any HNM.out.1 HX.out.1 y12) (by kernel_rfl) ?_
            rintro v13 y13 ⟨o13, q13⟩
            have X13 : TextAt y13 v13 (3 :: (bigL n 8 ++ a)) := TextAt.of_own o13
            have T14' := T13'.below Z1.out q13
            clear q13 o13
            refine ⟨T14', ?_⟩
            refine anyH_enter (i := 53) (d := 112) (by kernel_rfl) rfl rfl (by kernel_rfl) (RootText_any HNM.out.2 HX.out.2.2.1 y13) (by kernel_rfl) ?_
            rintro v14 y14 ⟨o14, q14⟩
            have X14 : TextAt y14 v14 (3 :: (bigL m 8 ++ c)) := TextAt.of_own o14
            replace X13 := X13.below q14
            have T15' := T14'.below Z1.out q14
            clear q14 o14
            refine ⟨T15', ?_⟩
            have E15 := same2_any y14 X13.1 X14.1; rw [root_same HNM.out.1 HNM.out.2, hpn, hpa] at E15
            refine anyH_enter1 (i := 54) (d := 113) (by kernel_rfl) rfl rfl (by kernel_rfl) E15 (by kernel_rfl) ?_
            rintro y15 q15
            replace X13 := X13.below q15
            replace X14 := X14.below q15
            have T16' := T15'.below Z1.out q15
            clear q15 E15
            clear X13
            clear X14
            refine ⟨T16', ?_⟩
            refine anyH_take (i := 58) (d := 117) (v := .bool true) rfl rfl (by kernel_rfl) (by kernel_rfl) (by kernel_rfl) (fun _ _ _ h => h) (Or.inl ⟨by kernel_rfl, fun w _ => by kernel_rfl⟩) T16' ?_
            refine anyH_take (i := 59) (d := 118) (v := .agg (cellsOf' u8c a)) rfl rfl (by kernel_rfl) (by kernel_rfl) (by kernel_rfl) (fun _ _ _ h => h) (yieldsIf_load_mid (by kernel_rfl) 23 (.tmp 10) rfl b0 0 (by kernel_rfl) (a.map u8c) _ (fun w h => h.1) Tryd.underlying23 rfl za) T16' ?_
            refine anyH_take (i := 60) (d := 119) (v := .agg (cellsOf' u8c c)) rfl rfl (by kernel_rfl) (by kernel_rfl) (by kernel_rfl) (fun _ _ _ h => h) (yieldsIf_load_mid (by kernel_rfl) 23 (.tmp 12) rfl b2 0 (by kernel_rfl) (c.map u8c) _ (fun w h => h.2.2.1) Tryd.underlying23 rfl zc) T16' ?_
            refine anyH_take (i := 61) (d := 120) (v := .bool false) rfl rfl (by kernel_rfl) (by kernel_rfl) (by kernel_rfl) (fun _ _ _ h => h) (yields_eqA (by kernel_rfl) rfl (X := cellsOf' u8c a) (Y := cellsOf' u8c c) (by kernel_rfl) (by kernel_rfl) EG EA) T16' ?_
            refine anyH_take (i := 62) (d := 121) (v := .bool false) rfl rfl (by kernel_rfl) (by kernel_rfl) (by kernel_rfl) (fun _ _ _ h => h) (Or.inl ⟨by kernel_rfl, fun w _ => by kernel_rfl⟩) T16' ?_
            refine anyH_take (i := 63) (d := 122) (v := .bool true) rfl rfl (by kernel_rfl) (by kernel_rfl) (by kernel_rfl) (fun _ _ _ h => h) (Or.inl ⟨by kernel_rfl, fun w _ => by kernel_rfl⟩) T16' ?_
            refine anyH_take (i := 64) (d := 123) (v := .bool true) rfl rfl (by kernel_rfl) (by kernel_rfl) (by kernel_rfl) (fun _ _ _ h => h) (Or.inl ⟨by kernel_rfl, fun w _ => by kernel_rfl⟩) T16' ?_
            refine anyH_take (i := 65) (d := 124) (v := .bool true) rfl rfl (by kernel_rfl) (by kernel_rfl) (by kernel_rfl) (fun _ _ _ h => h) (Or.inl ⟨by kernel_rfl, fun w _ => by kernel_rfl⟩) T16' ?_
            refine anyH_enter1 (i := 66) (d := 125) (by kernel_rfl) rfl rfl (by kernel_rfl) (awake2_any (HD.out.low hb1 (HW.out _ T16'.2.2.2.2))) (by kernel_rfl) ?_
            rintro y16 q16
            have T17' := T16'.below Z1.out q16
            clear q16
            refine ⟨T17', ?_⟩
            refine anyH_take (i := 67) (d := 126) (v := .bool true) rfl rfl (by kernel_rfl) (by kernel_rfl) (by kernel_rfl) (fun _ _ _ h => h) (Or.inl ⟨by kernel_rfl, fun w _ => by kernel_rfl⟩) T17' ?_
            refine anyH_take (i := 68) (d := 16) (v := .bool true) rfl rfl (by kernel_rfl) (by kernel_rfl) (by kernel_rfl) (fun _ _ _ h => h) (Or.inl ⟨by kernel_rfl, fun w _ => by kernel_rfl⟩) T17' ?_
            refine wpAnyH_done (by kernel_rfl) ?_ _
            go_wp2_with fail
            go_ret
            exact ⟨by kernel_rfl, by rw [HB0.out]; exact HW.out _ T17'.2.2.2.2⟩
          ·
            refine anyH_take (i := 0) (d := 59) (v := .slice aD dt.length cD) rfl rfl (by kernel_rfl) (by kernel_rfl) (by kernel_rfl) (fun _ _ _ h => h) (Or.inl ⟨by kernel_rfl, fun w _ => by kernel_rfl⟩) T0 ?_
            refine anyH_take (i := 3) (d := 62) (v := .slice aM mo.length cM) rfl rfl (by kernel_rfl) (by kernel_rfl) (by kernel_rfl) (fun _ _ _ h => h) (Or.inl ⟨by kernel_rfl, fun w _ => by kernel_rfl⟩) T0 ?_
            refine anyH_take (i := 7) (d := 66) (v := .slice aD dt.length cD) rfl rfl (by kernel_rfl) (by kernel_rfl) (by kernel_rfl) (fun _ _ _ h => h) (Or.inl ⟨by kernel_rfl, fun w _ => by kernel_rfl⟩) T0 ?_
            refine anyH_take (i := 8) (d := 67) (v := .slice aM mo.length cM) rfl rfl (by kernel_rfl) (by kernel_rfl) (by kernel_rfl) (fun _ _ _ h => h) (Or.inl ⟨by kernel_rfl, fun w _ => by kernel_rfl⟩) T0 ?_
            refine anyH_enter (i := 1) (d := 60) (by kernel_rfl) rfl rfl (by kernel_rfl) (row2_any wr.drew (SD.out.below (by rw [HB0.out]; exact HW.out _ T0.2.2.2.2)) (by have := HL.out; omega)) (by kernel_rfl) ?_
            rintro v1 y1 ⟨o1, q1⟩
            have X1 : TextAt y1 v1 dt := ⟨o1.slice, fun b hb => (o1.block b hb).2⟩
            have T2' := T0.below Z1.out q1
            clear q1 o1
            refine ⟨T2', ?_⟩
            refine anyH_enter (i := 2) (d := 61) (by kernel_rfl) rfl rfl (by kernel_rfl) (LeafText_any y1 X1.1 X1.2 (by have := HL.out; omega)) (by kernel_rfl) ?_
            rintro v2 y2 ⟨o2, q2⟩
            have X2 : TextAt y2 v2 (0 :: dt) := TextAt.of_own o2
            replace X1 := X1.below q2
            have T3' := T2'.below Z1.out q2
            clear q2 o2
            clear X1
            refine ⟨T3', ?_⟩
            refine anyH_enter (i := 4) (d := 63) (by kernel_rfl) rfl rfl (by kernel_rfl) (row2_any y2 (SM.out.below (by rw [HB0.out]; exact HW.out _ T3'.2.2.2.2)) (by have := HL.out; omega)) (by kernel_rfl) ?_
            rintro v3 y3 ⟨o3, q3⟩
            have X3 : TextAt y3 v3 mo := ⟨o3.slice, fun b hb => (o3.block b hb).2⟩
            replace X2 := X2.below q3
            have T4' := T3'.below Z1.out q3
            clear q3 o3
            refine ⟨T4', ?_⟩
            refine anyH_enter (i := 5) (d := 64) (by kernel_rfl) rfl rfl (by kernel_rfl) (LeafText_any y3 X3.1 X3.2 (by have := HL.out; omega)) (by kernel_rfl) ?_
            rintro v4 y4 ⟨o4, q4⟩
            have X4 : TextAt y4 v4 (0 :: mo) := TextAt.of_own o4
            replace X2 := X2.below q4
            replace X3 := X3.below q4
            have T5' := T4'.below Z1.out q4
            clear q4 o4
            clear X3
            refine ⟨T5', ?_⟩
            have E5 := same2_any y4 X2.1 X4.1; rw [leaf_same, hpl] at E5
            refine anyH_enter1 (i := 6) (d := 65) (by kernel_rfl) rfl rfl (by kernel_rfl) E5 (by kernel_rfl) ?_
            rintro y5 q5
            replace X2 := X2.below q5
            replace X4 := X4.below q5
            have T6' := T5'.below Z1.out q5
            clear q5 E5
            clear X2
            clear X4
            refine ⟨T6', ?_⟩
            have E6 := same2_any y5 (SD.out.below (by rw [HB0.out]; exact HW.out _ T6'.2.2.2.2)) (SM.out.below (by rw [HB0.out]; exact HW.out _ T6'.2.2.2.2)); rw [hpl] at E6
            refine anyH_enter1 (i := 9) (d := 68) (by kernel_rfl) rfl rfl (by kernel_rfl) E6 (by kernel_rfl) ?_
            rintro y6 q6
            have T7' := T6'.below Z1.out q6
            clear q6 E6
            refine ⟨T7', ?_⟩
            refine anyH_take (i := 10) (d := 69) (v := .bool true) rfl rfl (by kernel_rfl) (by kernel_rfl) (by kernel_rfl) (fun _ _ _ h => h) (Or.inl ⟨by kernel_rfl, fun w _ => by rcases pl with _ | _ <;> kernel_rfl⟩) T7' ?_
            refine anyH_take (i := 11) (d := 70) (v := .bool true) rfl rfl (by kernel_rfl) (by kernel_rfl) (by kernel_rfl) (fun _ _ _ h => h) (Or.inl ⟨by kernel_rfl, fun w _ => by kernel_rfl⟩) T7' ?_
            refine anyH_take (i := 12) (d := 71) (v := .agg (cellsOf' u8c a)) rfl rfl (by kernel_rfl) (by kernel_rfl) (by kernel_rfl) (fun _ _ _ h => h) (yieldsIf_load_mid (by kernel_rfl) 23 (.tmp 10) rfl b0 0 (by kernel_rfl) (a.map u8c) _ (fun w h => h.1) Tryd.underlying23 rfl za) T7' ?_
            refine anyH_take (i := 13) (d := 72) (v := .agg (cellsOf' u8c b)) rfl rfl (by kernel_rfl) (by kernel_rfl) (by kernel_rfl) (fun _ _ _ h => h) (yieldsIf_load_mid (by kernel_rfl) 23 (.tmp 11) rfl b1 0 (by kernel_rfl) (b.map u8c) _ (fun w h => h.2.1) Tryd.underlying23 rfl zb) T7' ?_
            refine anyH_take (i := 15) (d := 74) (v := .agg (cellsOf' u8c c)) rfl rfl (by kernel_rfl) (by kernel_rfl) (by kernel_rfl) (fun _ _ _ h => h) (yieldsIf_load_mid (by kernel_rfl) 23 (.tmp 12) rfl b2 0 (by kernel_rfl) (c.map u8c) _ (fun w h => h.2.2.1) Tryd.underlying23 rfl zc) T7' ?_
            refine anyH_take (i := 16) (d := 75) (v := .agg (cellsOf' u8c d)) rfl rfl (by kernel_rfl) (by kernel_rfl) (by kernel_rfl) (fun _ _ _ h => h) (yieldsIf_load_mid (by kernel_rfl) 23 (.tmp 13) rfl b3 0 (by kernel_rfl) (d.map u8c) _ (fun w h => h.2.2.2.1) Tryd.underlying23 rfl zd) T7' ?_
            refine anyH_take (i := 19) (d := 78) (v := .agg (cellsOf' u8c a)) rfl rfl (by kernel_rfl) (by kernel_rfl) (by kernel_rfl) (fun _ _ _ h => h) (yieldsIf_load_mid (by kernel_rfl) 23 (.tmp 10) rfl b0 0 (by kernel_rfl) (a.map u8c) _ (fun w h => h.1) Tryd.underlying23 rfl za) T7' ?_
            refine anyH_take (i := 20) (d := 79) (v := .agg (cellsOf' u8c c)) rfl rfl (by kernel_rfl) (by kernel_rfl) (by kernel_rfl) (fun _ _ _ h => h) (yieldsIf_load_mid (by kernel_rfl) 23 (.tmp 12) rfl b2 0 (by kernel_rfl) (c.map u8c) _ (fun w h => h.2.2.1) Tryd.underlying23 rfl zc) T7' ?_
            refine anyH_take (i := 21) (d := 80) (v := .bool true) rfl rfl (by kernel_rfl) (by kernel_rfl) (by kernel_rfl) (fun _ _ _ h => h) ((yields_eqA (by kernel_rfl) rfl (X := cellsOf' u8c a) (Y := cellsOf' u8c c) (by kernel_rfl) (by kernel_rfl) EG EA)) T7' ?_
            refine anyH_enter (i := 14) (d := 73) (by kernel_rfl) rfl rfl (by kernel_rfl) (NodeText_any HX.out.1 HX.out.2.1 y6) (by kernel_rfl) ?_
            rintro v7 y7 ⟨o7, q7⟩
            have X7 : TextAt y7 v7 (1 :: (a ++ b)) := TextAt.of_own o7
            have T8' := T7'.below Z1.out q7
            clear q7 o7
            refine ⟨T8', ?_⟩
            refine anyH_enter (i := 17) (d := 76) (by kernel_rfl) rfl rfl (by kernel_rfl) (NodeText_any HX.out.2.2.1 HX.out.2.2.2 y7) (by kernel_rfl) ?_
            rintro v8 y8 ⟨o8, q8⟩
            have X8 : TextAt y8 v8 (1 :: (c ++ d)) := TextAt.of_own o8
            replace X7 := X7.below q8
            have T9' := T8'.below Z1.out q8
            clear q8 o8
            refine ⟨T9', ?_⟩
            have E9 := same2_any y8 X7.1 X8.1; rw [pair_same (HX.out.1.trans HX.out.2.2.1.symm), hpa, hpb] at E9
            refine anyH_enter1 (i := 18) (d := 77) (by kernel_rfl) rfl rfl (by kernel_rfl) E9 (by kernel_rfl) ?_
            rintro y9 q9
            replace X7 := X7.below q9
            replace X8 := X8.below q9
            have T10' := T9'.below Z1.out q9
            clear q9 E9
            clear X7
            clear X8
            refine ⟨T10', ?_⟩
            refine anyH_take (i := 22) (d := 81) (v := .bool true) rfl rfl (by kernel_rfl) (by kernel_rfl) (by kernel_rfl) (fun _ _ _ h => h) (Or.inl ⟨by kernel_rfl, fun w _ => by kernel_rfl⟩) T10' ?_
            refine anyH_take (i := 23) (d := 82) (v := .agg (cellsOf' u8c b)) rfl rfl (by kernel_rfl) (by kernel_rfl) (by kernel_rfl) (fun _ _ _ h => h) (yieldsIf_load_mid (by kernel_rfl) 23 (.tmp 11) rfl b1 0 (by kernel_rfl) (b.map u8c) _ (fun w h => h.2.1) Tryd.underlying23 rfl zb) T10' ?_
            refine anyH_take (i := 24) (d := 83) (v := .agg (cellsOf' u8c d)) rfl rfl (by kernel_rfl) (by kernel_rfl) (by kernel_rfl) (fun _ _ _ h => h) (yieldsIf_load_mid (by kernel_rfl) 23 (.tmp 13) rfl b3 0 (by kernel_rfl) (d.map u8c) _ (fun w h => h.2.2.2.1) Tryd.underlying23 rfl zd) T10' ?_
            refine anyH_take (i := 25) (d := 84) (v := .bool false) rfl rfl (by kernel_rfl) (by kernel_rfl) (by kernel_rfl) (fun _ _ _ h => h) (yields_eqA (by kernel_rfl) rfl (X := cellsOf' u8c b) (Y := cellsOf' u8c d) (by kernel_rfl) (by kernel_rfl) EG EB) T10' ?_
            refine anyH_take (i := 26) (d := 85) (v := .bool false) rfl rfl (by kernel_rfl) (by kernel_rfl) (by kernel_rfl) (fun _ _ _ h => h) (Or.inl ⟨by kernel_rfl, fun w _ => by kernel_rfl⟩) T10' ?_
            refine anyH_take (i := 27) (d := 86) (v := .bool true) rfl rfl (by kernel_rfl) (by kernel_rfl) (by kernel_rfl) (fun _ _ _ h => h) (Or.inl ⟨by kernel_rfl, fun w _ => by kernel_rfl⟩) T10' ?_
            refine anyH_take (i := 28) (d := 87) (v := .bool true) rfl rfl (by kernel_rfl) (by kernel_rfl) (by kernel_rfl) (fun _ _ _ h => h) (Or.inl ⟨by kernel_rfl, fun w _ => by kernel_rfl⟩) T10' ?_
            refine anyH_take (i := 29) (d := 88) (v := .bool true) rfl rfl (by kernel_rfl) (by kernel_rfl) (by kernel_rfl) (fun _ _ _ h => h) (Or.inl ⟨by kernel_rfl, fun w _ => by kernel_rfl⟩) T10' ?_
            refine anyH_take (i := 30) (d := 89) (v := .agg (cellsOf' u8c a)) rfl rfl (by kernel_rfl) (by kernel_rfl) (by kernel_rfl) (fun _ _ _ h => h) (yieldsIf_load_mid (by kernel_rfl) 23 (.tmp 10) rfl b0 0 (by kernel_rfl) (a.map u8c) _ (fun w h => h.1) Tryd.underlying23 rfl za) T10' ?_
            refine anyH_take (i := 31) (d := 90) (v := .agg (cellsOf' u8c b)) rfl rfl (by kernel_rfl) (by kernel_rfl) (by kernel_rfl) (fun _ _ _ h => h) (yieldsIf_load_mid (by kernel_rfl) 23 (.tmp 11) rfl b1 0 (by kernel_rfl) (b.map u8c) _ (fun w h => h.2.1) Tryd.underlying23 rfl zb) T10' ?_
            refine anyH_take (i := 33) (d := 92) (v := .agg (cellsOf' u8c c)) rfl rfl (by kernel_rfl) (by kernel_rfl) (by kernel_rfl) (fun _ _ _ h => h) (yieldsIf_load_mid (by kernel_rfl) 23 (.tmp 12) rfl b2 0 (by kernel_rfl) (c.map u8c) _ (fun w h => h.2.2.1) Tryd.underlying23 rfl zc) T10' ?_
            refine anyH_take (i := 34) (d := 93) (v := .agg (cellsOf' u8c d)) rfl rfl (by kernel_rfl) (by kernel_rfl) (by kernel_rfl) (fun _ _ _ h => h) (yieldsIf_load_mid (by kernel_rfl) 23 (.tmp 13) rfl b3 0 (by kernel_rfl) (d.map u8c) _ (fun w h => h.2.2.2.1) Tryd.underlying23 rfl zd) T10' ?_
            refine anyH_take (i := 37) (d := 96) (v := .agg (cellsOf' u8c a)) rfl rfl (by kernel_rfl) (by kernel_rfl) (by kernel_rfl) (fun _ _ _ h => h) (yieldsIf_load_mid (by kernel_rfl) 23 (.tmp 10) rfl b0 0 (by kernel_rfl) (a.map u8c) _ (fun w h => h.1) Tryd.underlying23 rfl za) T10' ?_
            refine anyH_take (i := 38) (d := 97) (v := .agg (cellsOf' u8c c)) rfl rfl (by kernel_rfl) (by kernel_rfl) (by kernel_rfl) (fun _ _ _ h => h) (yieldsIf_load_mid (by kernel_rfl) 23 (.tmp 12) rfl b2 0 (by kernel_rfl) (c.map u8c) _ (fun w h => h.2.2.1) Tryd.underlying23 rfl zc) T10' ?_
            refine anyH_take (i := 39) (d := 98) (v := .bool true) rfl rfl (by kernel_rfl) (by kernel_rfl) (by kernel_rfl) (fun _ _ _ h => h) ((yields_eqA (by kernel_rfl) rfl (X := cellsOf' u8c a) (Y := cellsOf' u8c c) (by kernel_rfl) (by kernel_rfl) EG EA)) T10' ?_
            refine anyH_enter (i := 32) (d := 91) (by kernel_rfl) rfl rfl (by kernel_rfl) (FoldText_any HX.out.1 HX.out.2.1 y9) (by kernel_rfl) ?_
            rintro v10 y10 ⟨o10, q10⟩
            have X10 : TextAt y10 v10 (2 :: (a ++ b)) := TextAt.of_own o10
            have T11' := T10'.below Z1.out q10
            clear q10 o10
            refine ⟨T11', ?_⟩
            refine anyH_enter (i := 35) (d := 94) (by kernel_rfl) rfl rfl (by kernel_rfl) (FoldText_any HX.out.2.2.1 HX.out.2.2.2 y10) (by kernel_rfl) ?_
            rintro v11 y11 ⟨o11, q11⟩
            have X11 : TextAt y11 v11 (2 :: (c ++ d)) := TextAt.of_own o11
            replace X10 := X10.below q11
            have T12' := T11'.below Z1.out q11
            clear q11 o11
            refine ⟨T12', ?_⟩
            have E12 := same2_any y11 X10.1 X11.1; rw [pair_same (HX.out.1.trans HX.out.2.2.1.symm), hpa, hpb] at E12
            refine anyH_enter1 (i := 36) (d := 95) (by kernel_rfl) rfl rfl (by kernel_rfl) E12 (by kernel_rfl) ?_
            rintro y12 q12
            replace X10 := X10.below q12
            replace X11 := X11.below q12
            have T13' := T12'.below Z1.out q12
            clear q12 E12
            clear X10
            clear X11
            refine ⟨T13', ?_⟩
            refine anyH_take (i := 40) (d := 99) (v := .bool true) rfl rfl (by kernel_rfl) (by kernel_rfl) (by kernel_rfl) (fun _ _ _ h => h) (Or.inl ⟨by kernel_rfl, fun w _ => by kernel_rfl⟩) T13' ?_
            refine anyH_take (i := 41) (d := 100) (v := .agg (cellsOf' u8c b)) rfl rfl (by kernel_rfl) (by kernel_rfl) (by kernel_rfl) (fun _ _ _ h => h) (yieldsIf_load_mid (by kernel_rfl) 23 (.tmp 11) rfl b1 0 (by kernel_rfl) (b.map u8c) _ (fun w h => h.2.1) Tryd.underlying23 rfl zb) T13' ?_
            refine anyH_take (i := 42) (d := 101) (v := .agg (cellsOf' u8c d)) rfl rfl (by kernel_rfl) (by kernel_rfl) (by kernel_rfl) (fun _ _ _ h => h) (yieldsIf_load_mid (by kernel_rfl) 23 (.tmp 13) rfl b3 0 (by kernel_rfl) (d.map u8c) _ (fun w h => h.2.2.2.1) Tryd.underlying23 rfl zd) T13' ?_
            refine anyH_take (i := 43) (d := 102) (v := .bool false) rfl rfl (by kernel_rfl) (by kernel_rfl) (by kernel_rfl) (fun _ _ _ h => h) (yields_eqA (by kernel_rfl) rfl (X := cellsOf' u8c b) (Y := cellsOf' u8c d) (by kernel_rfl) (by kernel_rfl) EG EB) T13' ?_
            refine anyH_take (i := 44) (d := 103) (v := .bool false) rfl rfl (by kernel_rfl) (by kernel_rfl) (by kernel_rfl) (fun _ _ _ h => h) (Or.inl ⟨by kernel_rfl, fun w _ => by kernel_rfl⟩) T13' ?_
            refine anyH_take (i := 45) (d := 104) (v := .bool true) rfl rfl (by kernel_rfl) (by kernel_rfl) (by kernel_rfl) (fun _ _ _ h => h) (Or.inl ⟨by kernel_rfl, fun w _ => by kernel_rfl⟩) T13' ?_
            refine anyH_take (i := 46) (d := 105) (v := .bool true) rfl rfl (by kernel_rfl) (by kernel_rfl) (by kernel_rfl) (fun _ _ _ h => h) (Or.inl ⟨by kernel_rfl, fun w _ => by kernel_rfl⟩) T13' ?_
            refine anyH_take (i := 47) (d := 106) (v := .bool true) rfl rfl (by kernel_rfl) (by kernel_rfl) (by kernel_rfl) (fun _ _ _ h => h) (Or.inl ⟨by kernel_rfl, fun w _ => by kernel_rfl⟩) T13' ?_
            refine anyH_take (i := 48) (d := 107) (v := .int .u64 (n : Int)) rfl rfl (by kernel_rfl) (by kernel_rfl) (by kernel_rfl) (fun _ _ _ h => h) (Or.inl ⟨by kernel_rfl, fun w _ => by kernel_rfl⟩) T13' ?_
            refine anyH_take (i := 49) (d := 108) (v := .agg (cellsOf' u8c a)) rfl rfl (by kernel_rfl) (by kernel_rfl) (by kernel_rfl) (fun _ _ _ h => h) (yieldsIf_load_mid (by kernel_rfl) 23 (.tmp 10) rfl b0 0 (by kernel_rfl) (a.map u8c) _ (fun w h => h.1) Tryd.underlying23 rfl za) T13' ?_
            refine anyH_take (i := 51) (d := 110) (v := .int .u64 (m : Int)) rfl rfl (by kernel_rfl) (by kernel_rfl) (by kernel_rfl) (fun _ _ _ h => h) (Or.inl ⟨by kernel_rfl, fun w _ => by kernel_rfl⟩) T13' ?_
            refine anyH_take (i := 52) (d := 111) (v := .agg (cellsOf' u8c c)) rfl rfl (by kernel_rfl) (by kernel_rfl) (by kernel_rfl) (fun _ _ _ h => h) (yieldsIf_load_mid (by kernel_rfl) 23 (.tmp 12) rfl b2 0 (by kernel_rfl) (c.map u8c) _ (fun w h => h.2.2.1) Tryd.underlying23 rfl zc) T13' ?_
            refine anyH_take (i := 55) (d := 114) (v := .int .u64 (n : Int)) rfl rfl (by kernel_rfl) (by kernel_rfl) (by kernel_rfl) (fun _ _ _ h => h) (Or.inl ⟨by kernel_rfl, fun w _ => by kernel_rfl⟩) T13' ?_
            refine anyH_take (i := 56) (d := 115) (v := .int .u64 (m : Int)) rfl rfl (by kernel_rfl) (by kernel_rfl) (by kernel_rfl) (fun _ _ _ h => h) (Or.inl ⟨by kernel_rfl, fun w _ => by kernel_rfl⟩) T13' ?_
            refine anyH_take (i := 57) (d := 116) (v := .bool false) rfl rfl (by kernel_rfl) (by kernel_rfl) (by kernel_rfl) (fun _ _ _ h => h) ((yields_eqI (k := .u64) (by kernel_rfl) rfl (m := (n : Int)) (n := (m : Int)) (by kernel_rfl) (by kernel_rfl) EN1)) T13' ?_
            refine anyH_enter (i := 50) (d := 109) (by kernel_rfl) rfl rfl (by kernel_rfl) (RootText_any HNM.out.1 HX.out.1 y12) (by kernel_rfl) ?_
            rintro v13 y13 ⟨o13, q13⟩
            have X13 : TextAt y13 v13 (3 :: (bigL n 8 ++ a)) := TextAt.of_own o13
            have T14' := T13'.below Z1.out q13
            clear q13 o13
            refine ⟨T14', ?_⟩
            refine anyH_enter (i := 53) (d := 112) (by kernel_rfl) rfl rfl (by kernel_rfl) (RootText_any HNM.out.2 HX.out.2.2.1 y13) (by kernel_rfl) ?_
            rintro v14 y14 ⟨o14, q14⟩
            have X14 : TextAt y14 v14 (3 :: (bigL m 8 ++ c)) := TextAt.of_own o14
            replace X13 := X13.below q14
            have T15' := T14'.below Z1.out q14
            clear q14 o14
            refine ⟨T15', ?_⟩
            have E15 := same2_any y14 X13.1 X14.1; rw [root_same HNM.out.1 HNM.out.2, hpn, hpa] at E15
            refine anyH_enter1 (i := 54) (d := 113) (by kernel_rfl) rfl rfl (by kernel_rfl) E15 (by kernel_rfl) ?_
            rintro y15 q15
            replace X13 := X13.below q15
            replace X14 := X14.below q15
            have T16' := T15'.below Z1.out q15
            clear q15 E15
            clear X13
            clear X14
            refine ⟨T16', ?_⟩
            refine anyH_take (i := 58) (d := 117) (v := .bool false) rfl rfl (by kernel_rfl) (by kernel_rfl) (by kernel_rfl) (fun _ _ _ h => h) (Or.inl ⟨by kernel_rfl, fun w _ => by kernel_rfl⟩) T16' ?_
            refine anyH_take (i := 59) (d := 118) (v := undef) rfl rfl (by kernel_rfl) (by kernel_rfl) (by kernel_rfl) (fun _ _ _ h => h) (Or.inr ⟨by kernel_rfl, rfl⟩) T16' ?_
            refine anyH_take (i := 60) (d := 119) (v := undef) rfl rfl (by kernel_rfl) (by kernel_rfl) (by kernel_rfl) (fun _ _ _ h => h) (Or.inr ⟨by kernel_rfl, rfl⟩) T16' ?_
            refine anyH_take (i := 61) (d := 120) (v := undef) rfl rfl (by kernel_rfl) (by kernel_rfl) (by kernel_rfl) (fun _ _ _ h => h) (Or.inr ⟨by kernel_rfl, rfl⟩) T16' ?_
            refine anyH_take (i := 62) (d := 121) (v := .bool false) rfl rfl (by kernel_rfl) (by kernel_rfl) (by kernel_rfl) (fun _ _ _ h => h) (Or.inl ⟨by kernel_rfl, fun w _ => by kernel_rfl⟩) T16' ?_
            refine anyH_take (i := 63) (d := 122) (v := .bool true) rfl rfl (by kernel_rfl) (by kernel_rfl) (by kernel_rfl) (fun _ _ _ h => h) (Or.inl ⟨by kernel_rfl, fun w _ => by kernel_rfl⟩) T16' ?_
            refine anyH_take (i := 64) (d := 123) (v := .bool true) rfl rfl (by kernel_rfl) (by kernel_rfl) (by kernel_rfl) (fun _ _ _ h => h) (Or.inl ⟨by kernel_rfl, fun w _ => by kernel_rfl⟩) T16' ?_
            refine anyH_take (i := 65) (d := 124) (v := .bool true) rfl rfl (by kernel_rfl) (by kernel_rfl) (by kernel_rfl) (fun _ _ _ h => h) (Or.inl ⟨by kernel_rfl, fun w _ => by kernel_rfl⟩) T16' ?_
            refine anyH_enter1 (i := 66) (d := 125) (by kernel_rfl) rfl rfl (by kernel_rfl) (awake2_any (HD.out.low hb1 (HW.out _ T16'.2.2.2.2))) (by kernel_rfl) ?_
            rintro y16 q16
            have T17' := T16'.below Z1.out q16
            clear q16
            refine ⟨T17', ?_⟩
            refine anyH_take (i := 67) (d := 126) (v := .bool true) rfl rfl (by kernel_rfl) (by kernel_rfl) (by kernel_rfl) (fun _ _ _ h => h) (Or.inl ⟨by kernel_rfl, fun w _ => by kernel_rfl⟩) T17' ?_
            refine anyH_take (i := 68) (d := 16) (v := .bool true) rfl rfl (by kernel_rfl) (by kernel_rfl) (by kernel_rfl) (fun _ _ _ h => h) (Or.inl ⟨by kernel_rfl, fun w _ => by kernel_rfl⟩) T17' ?_
            refine wpAnyH_done (by kernel_rfl) ?_ _
            go_wp2_with fail
            go_ret
            exact ⟨by kernel_rfl, by rw [HB0.out]; exact HW.out _ T17'.2.2.2.2⟩
          ·
            refine anyH_take (i := 0) (d := 59) (v := .slice aD dt.length cD) rfl rfl (by kernel_rfl) (by kernel_rfl) (by kernel_rfl) (fun _ _ _ h => h) (Or.inl ⟨by kernel_rfl, fun w _ => by kernel_rfl⟩) T0 ?_
            refine anyH_take (i := 3) (d := 62) (v := .slice aM mo.length cM) rfl rfl (by kernel_rfl) (by kernel_rfl) (by kernel_rfl) (fun _ _ _ h => h) (Or.inl ⟨by kernel_rfl, fun w _ => by kernel_rfl⟩) T0 ?_
            refine anyH_take (i := 7) (d := 66) (v := .slice aD dt.length cD) rfl rfl (by kernel_rfl) (by kernel_rfl) (by kernel_rfl) (fun _ _ _ h => h) (Or.inl ⟨by kernel_rfl, fun w _ => by kernel_rfl⟩) T0 ?_
            refine anyH_take (i := 8) (d := 67) (v := .slice aM mo.length cM) rfl rfl (by kernel_rfl) (by kernel_rfl) (by kernel_rfl) (fun _ _ _ h => h) (Or.inl ⟨by kernel_rfl, fun w _ => by kernel_rfl⟩) T0 ?_
            refine anyH_enter (i := 1) (d := 60) (by kernel_rfl) rfl rfl (by kernel_rfl) (row2_any wr.drew (SD.out.below (by rw [HB0.out]; exact HW.out _ T0.2.2.2.2)) (by have := HL.out; omega)) (by kernel_rfl) ?_
            rintro v1 y1 ⟨o1, q1⟩
            have X1 : TextAt y1 v1 dt := ⟨o1.slice, fun b hb => (o1.block b hb).2⟩
            have T2' := T0.below Z1.out q1
            clear q1 o1
            refine ⟨T2', ?_⟩
            refine anyH_enter (i := 2) (d := 61) (by kernel_rfl) rfl rfl (by kernel_rfl) (LeafText_any y1 X1.1 X1.2 (by have := HL.out; omega)) (by kernel_rfl) ?_
            rintro v2 y2 ⟨o2, q2⟩
            have X2 : TextAt y2 v2 (0 :: dt) := TextAt.of_own o2
            replace X1 := X1.below q2
            have T3' := T2'.below Z1.out q2
            clear q2 o2
            clear X1
            refine ⟨T3', ?_⟩
            refine anyH_enter (i := 4) (d := 63) (by kernel_rfl) rfl rfl (by kernel_rfl) (row2_any y2 (SM.out.below (by rw [HB0.out]; exact HW.out _ T3'.2.2.2.2)) (by have := HL.out; omega)) (by kernel_rfl) ?_
            rintro v3 y3 ⟨o3, q3⟩
            have X3 : TextAt y3 v3 mo := ⟨o3.slice, fun b hb => (o3.block b hb).2⟩
            replace X2 := X2.below q3
            have T4' := T3'.below Z1.out q3
            clear q3 o3
            refine ⟨T4', ?_⟩
            refine anyH_enter (i := 5) (d := 64) (by kernel_rfl) rfl rfl (by kernel_rfl) (LeafText_any y3 X3.1 X3.2 (by have := HL.out; omega)) (by kernel_rfl) ?_
            rintro v4 y4 ⟨o4, q4⟩
            have X4 : TextAt y4 v4 (0 :: mo) := TextAt.of_own o4
            replace X2 := X2.below q4
            replace X3 := X3.below q4
            have T5' := T4'.below Z1.out q4
            clear q4 o4
            clear X3
            refine ⟨T5', ?_⟩
            have E5 := same2_any y4 X2.1 X4.1; rw [leaf_same, hpl] at E5
            refine anyH_enter1 (i := 6) (d := 65) (by kernel_rfl) rfl rfl (by kernel_rfl) E5 (by kernel_rfl) ?_
            rintro y5 q5
            replace X2 := X2.below q5
            replace X4 := X4.below q5
            have T6' := T5'.below Z1.out q5
            clear q5 E5
            clear X2
            clear X4
            refine ⟨T6', ?_⟩
            have E6 := same2_any y5 (SD.out.below (by rw [HB0.out]; exact HW.out _ T6'.2.2.2.2)) (SM.out.below (by rw [HB0.out]; exact HW.out _ T6'.2.2.2.2)); rw [hpl] at E6
            refine anyH_enter1 (i := 9) (d := 68) (by kernel_rfl) rfl rfl (by kernel_rfl) E6 (by kernel_rfl) ?_
            rintro y6 q6
            have T7' := T6'.below Z1.out q6
            clear q6 E6
            refine ⟨T7', ?_⟩
            refine anyH_take (i := 10) (d := 69) (v := .bool true) rfl rfl (by kernel_rfl) (by kernel_rfl) (by kernel_rfl) (fun _ _ _ h => h) (Or.inl ⟨by kernel_rfl, fun w _ => by rcases pl with _ | _ <;> kernel_rfl⟩) T7' ?_
            refine anyH_take (i := 11) (d := 70) (v := .bool true) rfl rfl (by kernel_rfl) (by kernel_rfl) (by kernel_rfl) (fun _ _ _ h => h) (Or.inl ⟨by kernel_rfl, fun w _ => by kernel_rfl⟩) T7' ?_
            refine anyH_take (i := 12) (d := 71) (v := .agg (cellsOf' u8c a)) rfl rfl (by kernel_rfl) (by kernel_rfl) (by kernel_rfl) (fun _ _ _ h => h) (yieldsIf_load_mid (by kernel_rfl) 23 (.tmp 10) rfl b0 0 (by kernel_rfl) (a.map u8c) _ (fun w h => h.1) Tryd.underlying23 rfl za) T7' ?_
            refine anyH_take (i := 13) (d := 72) (v := .agg (cellsOf' u8c b)) rfl rfl (by kernel_rfl) (by kernel_rfl) (by kernel_rfl) (fun _ _ _ h => h) (yieldsIf_load_mid (by kernel_rfl) 23 (.tmp 11) rfl b1 0 (by kernel_rfl) (b.map u8c) _ (fun w h => h.2.1) Tryd.underlying23 rfl zb) T7' ?_
            refine anyH_take (i := 15) (d := 74) (v := .agg (cellsOf' u8c c)) rfl rfl (by kernel_rfl) (by kernel_rfl) (by kernel_rfl) (fun _ _ _ h => h) (yieldsIf_load_mid (by kernel_rfl) 23 (.tmp 12) rfl b2 0 (by kernel_rfl) (c.map u8c) _ (fun w h => h.2.2.1) Tryd.underlying23 rfl zc) T7' ?_
            refine anyH_take (i := 16) (d := 75) (v := .agg (cellsOf' u8c d)) rfl rfl (by kernel_rfl) (by kernel_rfl) (by kernel_rfl) (fun _ _ _ h => h) (yieldsIf_load_mid (by kernel_rfl) 23 (.tmp 13) rfl b3 0 (by kernel_rfl) (d.map u8c) _ (fun w h => h.2.2.2.1) Tryd.underlying23 rfl zd) T7' ?_
            refine anyH_take (i := 19) (d := 78) (v := .agg (cellsOf' u8c a)) rfl rfl (by kernel_rfl) (by kernel_rfl) (by kernel_rfl) (fun _ _ _ h => h) (yieldsIf_load_mid (by kernel_rfl) 23 (.tmp 10) rfl b0 0 (by kernel_rfl) (a.map u8c) _ (fun w h => h.1) Tryd.underlying23 rfl za) T7' ?_
            refine anyH_take (i := 20) (d := 79) (v := .agg (cellsOf' u8c c)) rfl rfl (by kernel_rfl) (by kernel_rfl) (by kernel_rfl) (fun _ _ _ h => h) (yieldsIf_load_mid (by kernel_rfl) 23 (.tmp 12) rfl b2 0 (by kernel_rfl) (c.map u8c) _ (fun w h => h.2.2.1) Tryd.underlying23 rfl zc) T7' ?_
            refine anyH_take (i := 21) (d := 80) (v := .bool true) rfl rfl (by kernel_rfl) (by kernel_rfl) (by kernel_rfl) (fun _ _ _ h => h) ((yields_eqA (by kernel_rfl) rfl (X := cellsOf' u8c a) (Y := cellsOf' u8c c) (by kernel_rfl) (by kernel_rfl) EG EA)) T7' ?_
            refine anyH_enter (i := 14) (d := 73) (by kernel_rfl) rfl rfl (by kernel_rfl) (NodeText_any HX.out.1 HX.out.2.1 y6) (by kernel_rfl) ?_
            rintro v7 y7 ⟨o7, q7⟩
            have X7 : TextAt y7 v7 (1 :: (a ++ b)) := TextAt.of_own o7
            have T8' := T7'.below Z1.out q7
            clear q7 o7
            refine ⟨T8', ?_⟩
            refine anyH_enter (i := 17) (d := 76) (by kernel_rfl) rfl rfl (by kernel_rfl) (NodeText_any HX.out.2.2.1 HX.out.2.2.2 y7) (by kernel_rfl) ?_
            rintro v8 y8 ⟨o8, q8⟩
            have X8 : TextAt y8 v8 (1 :: (c ++ d)) := TextAt.of_own o8
            replace X7 := X7.below q8
            have T9' := T8'.below Z1.out q8
            clear q8 o8
            refine ⟨T9', ?_⟩
            have E9 := same2_any y8 X7.1 X8.1; rw [pair_same (HX.out.1.trans HX.out.2.2.1.symm), hpa, hpb] at E9
            refine anyH_enter1 (i := 18) (d := 77) (by kernel_rfl) rfl rfl (by kernel_rfl) E9 (by kernel_rfl) ?_
            rintro y9 q9
            replace X7 := X7.below q9
            replace X8 := X8.below q9
            have T10' := T9'.below Z1.out q9
            clear q9 E9
            clear X7
            clear X8
            refine ⟨T10', ?_⟩
            refine anyH_take (i := 22) (d := 81) (v := .bool true) rfl rfl (by kernel_rfl) (by kernel_rfl) (by kernel_rfl) (fun _ _ _ h => h) (Or.inl ⟨by kernel_rfl, fun w _ => by kernel_rfl⟩) T10' ?_
            refine anyH_take (i := 23) (d := 82) (v := .agg (cellsOf' u8c b)) rfl rfl (by kernel_rfl) (by kernel_rfl) (by kernel_rfl) (fun _ _ _ h => h) (yieldsIf_load_mid (by kernel_rfl) 23 (.tmp 11) rfl b1 0 (by kernel_rfl) (b.map u8c) _ (fun w h => h.2.1) Tryd.underlying23 rfl zb) T10' ?_
            refine anyH_take (i := 24) (d := 83) (v := .agg (cellsOf' u8c d)) rfl rfl (by kernel_rfl) (by kernel_rfl) (by kernel_rfl) (fun _ _ _ h => h) (yieldsIf_load_mid (by kernel_rfl) 23 (.tmp 13) rfl b3 0 (by kernel_rfl) (d.map u8c) _ (fun w h => h.2.2.2.1) Tryd.underlying23 rfl zd) T10' ?_
            refine anyH_take (i := 25) (d := 84) (v := .bool false) rfl rfl (by kernel_rfl) (by kernel_rfl) (by kernel_rfl) (fun _ _ _ h => h) (yields_eqA (by kernel_rfl) rfl (X := cellsOf' u8c b) (Y := cellsOf' u8c d) (by kernel_rfl) (by kernel_rfl) EG EB) T10' ?_
            refine anyH_take (i := 26) (d := 85) (v := .bool false) rfl rfl (by kernel_rfl) (by kernel_rfl) (by kernel_rfl) (fun _ _ _ h => h) (Or.inl ⟨by kernel_rfl, fun w _ => by kernel_rfl⟩) T10' ?_
            refine anyH_take (i := 27) (d := 86) (v := .bool true) rfl rfl (by kernel_rfl) (by kernel_rfl) (by kernel_rfl) (fun _ _ _ h => h) (Or.inl ⟨by kernel_rfl, fun w _ => by kernel_rfl⟩) T10' ?_
            refine anyH_take (i := 28) (d := 87) (v := .bool true) rfl rfl (by kernel_rfl) (by kernel_rfl) (by kernel_rfl) (fun _ _ _ h => h) (Or.inl ⟨by kernel_rfl, fun w _ => by kernel_rfl⟩) T10' ?_
            refine anyH_take (i := 29) (d := 88) (v := .bool true) rfl rfl (by kernel_rfl) (by kernel_rfl) (by kernel_rfl) (fun _ _ _ h => h) (Or.inl ⟨by kernel_rfl, fun w _ => by kernel_rfl⟩) T10' ?_
            refine anyH_take (i := 30) (d := 89) (v := .agg (cellsOf' u8c a)) rfl rfl (by kernel_rfl) (by kernel_rfl) (by kernel_rfl) (fun _ _ _ h => h) (yieldsIf_load_mid (by kernel_rfl) 23 (.tmp 10) rfl b0 0 (by kernel_rfl) (a.map u8c) _ (fun w h => h.1) Tryd.underlying23 rfl za) T10' ?_
            refine anyH_take (i := 31) (d := 90) (v := .agg (cellsOf' u8c b)) rfl rfl (by kernel_rfl) (by kernel_rfl) (by kernel_rfl) (fun _ _ _ h => h) (yieldsIf_load_mid (by kernel_rfl) 23 (.tmp 11) rfl b1 0 (by kernel_rfl) (b.map u8c) _ (fun w h => h.2.1) Tryd.underlying23 rfl zb) T10' ?_
            refine anyH_take (i := 33) (d := 92) (v := .agg (cellsOf' u8c c)) rfl rfl (by kernel_rfl) (by kernel_rfl) (by kernel_rfl) (fun _ _ _ h => h) (yieldsIf_load_mid (by kernel_rfl) 23 (.tmp 12) rfl b2 0 (by kernel_rfl) (c.map u8c) _ (fun w h => h.2.2.1) Tryd.underlying23 rfl zc) T10' ?_
            refine anyH_take (i := 34) (d := 93) (v := .agg (cellsOf' u8c d)) rfl rfl (by kernel_rfl) (by kernel_rfl) (by kernel_rfl) (fun _ _ _ h => h) (yieldsIf_load_mid (by kernel_rfl) 23 (.tmp 13) rfl b3 0 (by kernel_rfl) (d.map u8c) _ (fun w h => h.2.2.2.1) Tryd.underlying23 rfl zd) T10' ?_
            refine anyH_take (i := 37) (d := 96) (v := .agg (cellsOf' u8c a)) rfl rfl (by kernel_rfl) (by kernel_rfl) (by kernel_rfl) (fun _ _ _ h => h) (yieldsIf_load_mid (by kernel_rfl) 23 (.tmp 10) rfl b0 0 (by kernel_rfl) (a.map u8c) _ (fun w h => h.1) Tryd.underlying23 rfl za) T10' ?_
            refine anyH_take (i := 38) (d := 97) (v := .agg (cellsOf' u8c c)) rfl rfl (by kernel_rfl) (by kernel_rfl) (by kernel_rfl) (fun _ _ _ h => h) (yieldsIf_load_mid (by kernel_rfl) 23 (.tmp 12) rfl b2 0 (by kernel_rfl) (c.map u8c) _ (fun w h => h.2.2.1) Tryd.underlying23 rfl zc) T10' ?_
            refine anyH_take (i := 39) (d := 98) (v := .bool true) rfl rfl (by kernel_rfl) (by kernel_rfl) (by kernel_rfl) (fun _ _ _ h => h) ((yields_eqA (by kernel_rfl) rfl (X := cellsOf' u8c a) (Y := cellsOf' u8c c) (by kernel_rfl) (by kernel_rfl) EG EA)) T10' ?_
            refine anyH_enter (i := 32) (d := 91) (by kernel_rfl) rfl rfl (by kernel_rfl) (FoldText_any HX.out.1 HX.out.2.1 y9) (by kernel_rfl) ?_
            rintro v10 y10 ⟨o10, q10⟩
            have X10 : TextAt y10 v10 (2 :: (a ++ b)) := TextAt.of_own o10
            have T11' := T10'.below Z1.out q10
            clear q10 o10
            refine ⟨T11', ?_⟩
            refine anyH_enter (i := 35) (d := 94) (by kernel_rfl) rfl rfl (by kernel_rfl) (FoldText_any HX.out.2.2.1 HX.out.2.2.2 y10) (by kernel_rfl) ?_
            rintro v11 y11 ⟨o11, q11⟩
            have X11 : TextAt y11 v11 (2 :: (c ++ d)) := TextAt.of_own o11
            replace X10 := X10.below q11
            have T12' := T11'.below Z1.out q11
            clear q11 o11
            refine ⟨T12', ?_⟩
            have E12 := same2_any y11 X10.1 X11.1; rw [pair_same (HX.out.1.trans HX.out.2.2.1.symm), hpa, hpb] at E12
            refine anyH_enter1 (i := 36) (d := 95) (by kernel_rfl) rfl rfl (by kernel_rfl) E12 (by kernel_rfl) ?_
            rintro y12 q12
            replace X10 := X10.below q12
            replace X11 := X11.below q12
            have T13' := T12'.below Z1.out q12
            clear q12 E12
            clear X10
            clear X11
            refine ⟨T13', ?_⟩
            refine anyH_take (i := 40) (d := 99) (v := .bool true) rfl rfl (by kernel_rfl) (by kernel_rfl) (by kernel_rfl) (fun _ _ _ h => h) (Or.inl ⟨by kernel_rfl, fun w _ => by kernel_rfl⟩) T13' ?_
            refine anyH_take (i := 41) (d := 100) (v := .agg (cellsOf' u8c b)) rfl rfl (by kernel_rfl) (by kernel_rfl) (by kernel_rfl) (fun _ _ _ h => h) (yieldsIf_load_mid (by kernel_rfl) 23 (.tmp 11) rfl b1 0 (by kernel_rfl) (b.map u8c) _ (fun w h => h.2.1) Tryd.underlying23 rfl zb) T13' ?_
            refine anyH_take (i := 42) (d := 101) (v := .agg (cellsOf' u8c d)) rfl rfl (by kernel_rfl) (by kernel_rfl) (by kernel_rfl) (fun _ _ _ h => h) (yieldsIf_load_mid (by kernel_rfl) 23 (.tmp 13) rfl b3 0 (by kernel_rfl) (d.map u8c) _ (fun w h => h.2.2.2.1) Tryd.underlying23 rfl zd) T13' ?_
            refine anyH_take (i := 43) (d := 102) (v := .bool false) rfl rfl (by kernel_rfl) (by kernel_rfl) (by kernel_rfl) (fun _ _ _ h => h) (yields_eqA (by kernel_rfl) rfl (X := cellsOf' u8c b) (Y := cellsOf' u8c d) (by kernel_rfl) (by kernel_rfl) EG EB) T13' ?_
            refine anyH_take (i := 44) (d := 103) (v := .bool false) rfl rfl (by kernel_rfl) (by kernel_rfl) (by kernel_rfl) (fun _ _ _ h => h) (Or.inl ⟨by kernel_rfl, fun w _ => by kernel_rfl⟩) T13' ?_
            refine anyH_take (i := 45) (d := 104) (v := .bool true) rfl rfl (by kernel_rfl) (by kernel_rfl) (by kernel_rfl) (fun _ _ _ h => h) (Or.inl ⟨by kernel_rfl, fun w _ => by kernel_rfl⟩) T13' ?_
            refine anyH_take (i := 46) (d := 105) (v := .bool true) rfl rfl (by kernel_rfl) (by kernel_rfl) (by kernel_rfl) (fun _ _ _ h => h) (Or.inl ⟨by kernel_rfl, fun w _ => by kernel_rfl⟩) T13' ?_
            refine anyH_take (i := 47) (d := 106) (v := .bool true) rfl rfl (by kernel_rfl) (by kernel_rfl) (by kernel_rfl) (fun _ _ _ h => h) (Or.inl ⟨by kernel_rfl, fun w _ => by kernel_rfl⟩) T13' ?_
            refine anyH_take (i := 48) (d := 107) (v := .int .u64 (n : Int)) rfl rfl (by kernel_rfl) (by kernel_rfl) (by kernel_rfl) (fun _ _ _ h => h) (Or.inl ⟨by kernel_rfl, fun w _ => by kernel_rfl⟩) T13' ?_
            refine anyH_take (i := 49) (d := 108) (v := .agg (cellsOf' u8c a)) rfl rfl (by kernel_rfl) (by kernel_rfl) (by kernel_rfl) (fun _ _ _ h => h) (yieldsIf_load_mid (by kernel_rfl) 23 (.tmp 10) rfl b0 0 (by kernel_rfl) (a.map u8c) _ (fun w h => h.1) Tryd.underlying23 rfl za) T13' ?_
            refine anyH_take (i := 51) (d := 110) (v := .int .u64 (m : Int)) rfl rfl (by kernel_rfl) (by kernel_rfl) (by kernel_rfl) (fun _ _ _ h => h) (Or.inl ⟨by kernel_rfl, fun w _ => by kernel_rfl⟩) T13' ?_
            refine anyH_take (i := 52) (d := 111) (v := .agg (cellsOf' u8c c)) rfl rfl (by kernel_rfl) (by kernel_rfl) (by kernel_rfl) (fun _ _ _ h => h) (yieldsIf_load_mid (by kernel_rfl) 23 (.tmp 12) rfl b2 0 (by kernel_rfl) (c.map u8c) _ (fun w h => h.2.2.1) Tryd.underlying23 rfl zc) T13' ?_
            refine anyH_take (i := 55) (d := 114) (v := .int .u64 (n : Int)) rfl rfl (by kernel_rfl) (by kernel_rfl) (by kernel_rfl) (fun _ _ _ h => h) (Or.inl ⟨by kernel_rfl, fun w _ => by kernel_rfl⟩) T13' ?_
            refine anyH_take (i := 56) (d := 115) (v := .int .u64 (m : Int)) rfl rfl (by kernel_rfl) (by kernel_rfl) (by kernel_rfl) (fun _ _ _ h => h) (Or.inl ⟨by kernel_rfl, fun w _ => by kernel_rfl⟩) T13' ?_
            refine anyH_take (i := 57) (d := 116) (v := .bool true) rfl rfl (by kernel_rfl) (by kernel_rfl) (by kernel_rfl) (fun _ _ _ h => h) ((yields_eqI (k := .u64) (by kernel_rfl) rfl (m := (n : Int)) (n := (m : Int)) (by kernel_rfl) (by kernel_rfl) EN1)) T13' ?_
            refine anyH_enter (i := 50) (d := 109) (by kernel_rfl) rfl rfl (by kernel_rfl) (RootText_any HNM.out.1 HX.out.1 y12) (by kernel_rfl) ?_
            rintro v13 y13 ⟨o13, q13⟩
            have X13 : TextAt y13 v13 (3 :: (bigL n 8 ++ a)) := TextAt.of_own o13
            have T14' := T13'.below Z1.out q13
            clear q13 o13
            refine ⟨T14', ?_⟩
            refine anyH_enter (i := 53) (d := 112) (by kernel_rfl) rfl rfl (by kernel_rfl) (RootText_any HNM.out.2 HX.out.2.2.1 y13) (by kernel_rfl) ?_
            rintro v14 y14 ⟨o14, q14⟩
            have X14 : TextAt y14 v14 (3 :: (bigL m 8 ++ c)) := TextAt.of_own o14
            replace X13 := X13.below q14
            have T15' := T14'.below Z1.out q14
            clear q14 o14
            refine ⟨T15', ?_⟩
            have E15 := same2_any y14 X13.1 X14.1; rw [root_same HNM.out.1 HNM.out.2, hpn, hpa] at E15
            refine anyH_enter1 (i := 54) (d := 113) (by kernel_rfl) rfl rfl (by kernel_rfl) E15 (by kernel_rfl) ?_
            rintro y15 q15
            replace X13 := X13.below q15
            replace X14 := X14.below q15
            have T16' := T15'.below Z1.out q15
            clear q15 E15
            clear X13
            clear X14
            refine ⟨T16', ?_⟩
            refine anyH_take (i := 58) (d := 117) (v := .bool true) rfl rfl (by kernel_rfl) (by kernel_rfl) (by kernel_rfl) (fun _ _ _ h => h) (Or.inl ⟨by kernel_rfl, fun w _ => by kernel_rfl⟩) T16' ?_
            refine anyH_take (i := 59) (d := 118) (v := .agg (cellsOf' u8c a)) rfl rfl (by kernel_rfl) (by kernel_rfl) (by kernel_rfl) (fun _ _ _ h => h) (yieldsIf_load_mid (by kernel_rfl) 23 (.tmp 10) rfl b0 0 (by kernel_rfl) (a.map u8c) _ (fun w h => h.1) Tryd.underlying23 rfl za) T16' ?_
            refine anyH_take (i := 60) (d := 119) (v := .agg (cellsOf' u8c c)) rfl rfl (by kernel_rfl) (by kernel_rfl) (by kernel_rfl) (fun _ _ _ h => h) (yieldsIf_load_mid (by kernel_rfl) 23 (.tmp 12) rfl b2 0 (by kernel_rfl) (c.map u8c) _ (fun w h => h.2.2.1) Tryd.underlying23 rfl zc) T16' ?_
            refine anyH_take (i := 61) (d := 120) (v := .bool true) rfl rfl (by kernel_rfl) (by kernel_rfl) (by kernel_rfl) (fun _ _ _ h => h) (yields_eqA (by kernel_rfl) rfl (X := cellsOf' u8c a) (Y := cellsOf' u8c c) (by kernel_rfl) (by kernel_rfl) EG EA) T16' ?_
            refine anyH_take (i := 62) (d := 121) (v := .bool true) rfl rfl (by kernel_rfl) (by kernel_rfl) (by kernel_rfl) (fun _ _ _ h => h) (Or.inl ⟨by kernel_rfl, fun w _ => by kernel_rfl⟩) T16' ?_
            refine anyH_take (i := 63) (d := 122) (v := .bool true) rfl rfl (by kernel_rfl) (by kernel_rfl) (by kernel_rfl) (fun _ _ _ h => h) (Or.inl ⟨by kernel_rfl, fun w _ => by kernel_rfl⟩) T16' ?_
            refine anyH_take (i := 64) (d := 123) (v := .bool true) rfl rfl (by kernel_rfl) (by kernel_rfl) (by kernel_rfl) (fun _ _ _ h => h) (Or.inl ⟨by kernel_rfl, fun w _ => by kernel_rfl⟩) T16' ?_
            refine anyH_take (i := 65) (d := 124) (v := .bool true) rfl rfl (by kernel_rfl) (by kernel_rfl) (by kernel_rfl) (fun _ _ _ h => h) (Or.inl ⟨by kernel_rfl, fun w _ => by kernel_rfl⟩) T16' ?_
            refine anyH_enter1 (i := 66) (d := 125) (by kernel_rfl) rfl rfl (by kernel_rfl) (awake2_any (HD.out.low hb1 (HW.out _ T16'.2.2.2.2))) (by kernel_rfl) ?_
            rintro y16 q16
            have T17' := T16'.below Z1.out q16
            clear q16
            refine ⟨T17', ?_⟩
            refine anyH_take (i := 67) (d := 126) (v := .bool true) rfl rfl (by kernel_rfl) (by kernel_rfl) (by kernel_rfl) (fun _ _ _ h => h) (Or.inl ⟨by kernel_rfl, fun w _ => by kernel_rfl⟩) T17' ?_
            refine anyH_take (i := 68) (d := 16) (v := .bool true) rfl rfl (by kernel_rfl) (by kernel_rfl) (by kernel_rfl) (fun _ _ _ h => h) (Or.inl ⟨by kernel_rfl, fun w _ => by kernel_rfl⟩) T17' ?_
            refine wpAnyH_done (by kernel_rfl) ?_ _
            go_wp2_with fail
            go_ret
            exact ⟨by kernel_rfl, by rw [HB0.out]; exact HW.out _ T17'.2.2.2.2⟩
          ·
            refine anyH_take (i := 0) (d := 59) (v := .slice aD dt.length cD) rfl rfl (by kernel_rfl) (by kernel_rfl) (by kernel_rfl) (fun _ _ _ h => h) (Or.inl ⟨by kernel_rfl, fun w _ => by kernel_rfl⟩) T0 ?_
            refine anyH_take (i := 3) (d := 62) (v := .slice aM mo.length cM) rfl rfl (by kernel_rfl) (by kernel_rfl) (by kernel_rfl) (fun _ _ _ h => h) (Or.inl ⟨by kernel_rfl, fun w _ => by kernel_rfl⟩) T0 ?_
            refine anyH_take (i := 7) (d := 66) (v := .slice aD dt.length cD) rfl rfl (by kernel_rfl) (by kernel_rfl) (by kernel_rfl) (fun _ _ _ h => h) (Or.inl ⟨by kernel_rfl, fun w _ => by kernel_rfl⟩) T0 ?_
            refine anyH_take (i := 8) (d := 67) (v := .slice aM mo.length cM) rfl rfl (by kernel_rfl) (by kernel_rfl) (by kernel_rfl) (fun _ _ _ h => h) (Or.inl ⟨by kernel_rfl, fun w _ => by kernel_rfl⟩) T0 ?_
            refine anyH_enter (i := 1) (d := 60) (by kernel_rfl) rfl rfl (by kernel_rfl) (row2_any wr.drew (SD.out.below (by rw [HB0.out]; exact HW.out _ T0.2.2.2.2)) (by have := HL.out; omega)) (by kernel_rfl) ?_
            rintro v1 y1 ⟨o1, q1⟩
            have X1 : TextAt y1 v1 dt := ⟨o1.slice, fun b hb => (o1.block b hb).2⟩
            have T2' := T0.below Z1.out q1
            clear q1 o1
            refine ⟨T2', ?_⟩
            refine anyH_enter (i := 2) (d := 61) (by kernel_rfl) rfl rfl (by kernel_rfl) (LeafText_any y1 X1.1 X1.2 (by have := HL.out; omega)) (by kernel_rfl) ?_
            rintro v2 y2 ⟨o2, q2⟩
            have X2 : TextAt y2 v2 (0 :: dt) := TextAt.of_own o2
            replace X1 := X1.below q2
            have T3' := T2'.below Z1.out q2
            clear q2 o2
            clear X1
            refine ⟨T3', ?_⟩
            refine anyH_enter (i := 4) (d := 63) (by kernel_rfl) rfl rfl (by kernel_rfl) (row2_any y2 (SM.out.below (by rw [HB0.out]; exact HW.out _ T3'.2.2.2.2)) (by have := HL.out; omega)) (by kernel_rfl) ?_
            rintro v3 y3 ⟨o3, q3⟩
            have X3 : TextAt y3 v3 mo := ⟨o3.slice, fun b hb => (o3.block b hb).2⟩
            replace X2 := X2.below q3
            have T4' := T3'.below Z1.out q3
            clear q3 o3
            refine ⟨T4', ?_⟩
            refine anyH_enter (i := 5) (d := 64) (by kernel_rfl) rfl rfl (by kernel_rfl) (LeafText_any y3 X3.1 X3.2 (by have := HL.out; omega)) (by kernel_rfl) ?_
            rintro v4 y4 ⟨o4, q4⟩
            have X4 : TextAt y4 v4 (0 :: mo) := TextAt.of_own o4
            replace X2 := X2.below q4
            replace X3 := X3.below q4
            have T5' := T4'.below Z1.out q4
            clear q4 o4
            clear X3
            refine ⟨T5', ?_⟩
            have E5 := same2_any y4 X2.1 X4.1; rw [leaf_same, hpl] at E5
            refine anyH_enter1 (i := 6) (d := 65) (by kernel_rfl) rfl rfl (by kernel_rfl) E5 (by kernel_rfl) ?_
            rintro y5 q5
            replace X2 := X2.below q5
            replace X4 := X4.below q5
            have T6' := T5'.below Z1.out q5
            clear q5 E5
            clear X2
            clear X4
            refine ⟨T6', ?_⟩
            have E6 := same2_any y5 (SD.out.below (by rw [HB0.out]; exact HW.out _ T6'.2.2.2.2)) (SM.out.below (by rw [HB0.out]; exact HW.out _ T6'.2.2.2.2)); rw [hpl] at E6
            refine anyH_enter1 (i := 9) (d := 68) (by kernel_rfl) rfl rfl (by kernel_rfl) E6 (by kernel_rfl) ?_
            rintro y6 q6
            have T7' := T6'.below Z1.out q6
            clear q6 E6
            refine ⟨T7', ?_⟩
            refine anyH_take (i := 10) (d := 69) (v := .bool true) rfl rfl (by kernel_rfl) (by kernel_rfl) (by kernel_rfl) (fun _ _ _ h => h) (Or.inl ⟨by kernel_rfl, fun w _ => by rcases pl with _ | _ <;> kernel_rfl⟩) T7' ?_
            refine anyH_take (i := 11) (d := 70) (v := .bool true) rfl rfl (by kernel_rfl) (by kernel_rfl) (by kernel_rfl) (fun _ _ _ h => h) (Or.inl ⟨by kernel_rfl, fun w _ => by kernel_rfl⟩) T7' ?_
            refine anyH_take (i := 12) (d := 71) (v := .agg (cellsOf' u8c a)) rfl rfl (by kernel_rfl) (by kernel_rfl) (by kernel_rfl) (fun _ _ _ h => h) (yieldsIf_load_mid (by kernel_rfl) 23 (.tmp 10) rfl b0 0 (by kernel_rfl) (a.map u8c) _ (fun w h => h.1) Tryd.underlying23 rfl za) T7' ?_
            refine anyH_take (i := 13) (d := 72) (v := .agg (cellsOf' u8c b)) rfl rfl (by kernel_rfl) (by kernel_rfl) (by kernel_rfl) (fun _ _ _ h => h) (yieldsIf_load_mid (by kernel_rfl) 23 (.tmp 11) rfl b1 0 (by kernel_rfl) (b.map u8c) _ (fun w h => h.2.1) Tryd.underlying23 rfl zb) T7' ?_
            refine anyH_take (i := 15) (d := 74) (v := .agg (cellsOf' u8c c)) rfl rfl (by kernel_rfl) (by kernel_rfl) (by kernel_rfl) (fun _ _ _ h => h) (yieldsIf_load_mid (by kernel_rfl) 23 (.tmp 12) rfl b2 0 (by kernel_rfl) (c.map u8c) _ (fun w h => h.2.2.1) Tryd.underlying23 rfl zc) T7' ?_
            refine anyH_take (i := 16) (d := 75) (v := .agg (cellsOf' u8c d)) rfl rfl (by kernel_rfl) (by kernel_rfl) (by kernel_rfl) (fun _ _ _ h => h) (yieldsIf_load_mid (by kernel_rfl) 23 (.tmp 13) rfl b3 0 (by kernel_rfl) (d.map u8c) _ (fun w h => h.2.2.2.1) Tryd.underlying23 rfl zd) T7' ?_
            refine anyH_take (i := 19) (d := 78) (v := .agg (cellsOf' u8c a)) rfl rfl (by kernel_rfl) (by kernel_rfl) (by kernel_rfl) (fun _ _ _ h => h) (yieldsIf_load_mid (by kernel_rfl) 23 (.tmp 10) rfl b0 0 (by kernel_rfl) (a.map u8c) _ (fun w h => h.1) Tryd.underlying23 rfl za) T7' ?_
            refine anyH_take (i := 20) (d := 79) (v := .agg (cellsOf' u8c c)) rfl rfl (by kernel_rfl) (by kernel_rfl) (by kernel_rfl) (fun _ _ _ h => h) (yieldsIf_load_mid (by kernel_rfl) 23 (.tmp 12) rfl b2 0 (by kernel_rfl) (c.map u8c) _ (fun w h => h.2.2.1) Tryd.underlying23 rfl zc) T7' ?_
            refine anyH_take (i := 21) (d := 80) (v := .bool true) rfl rfl (by kernel_rfl) (by kernel_rfl) (by kernel_rfl) (fun _ _ _ h => h) ((yields_eqA (by kernel_rfl) rfl (X := cellsOf' u8c a) (Y := cellsOf' u8c c) (by kernel_rfl) (by kernel_rfl) EG EA)) T7' ?_
            refine anyH_enter (i := 14) (d := 73) (by kernel_rfl) rfl rfl (by kernel_rfl) (NodeText_any HX.out.1 HX.out.2.1 y6) (by kernel_rfl) ?_
            rintro v7 y7 ⟨o7, q7⟩
            have X7 : TextAt y7 v7 (1 :: (a ++ b)) := TextAt.of_own o7
            have T8' := T7'.below Z1.out q7
            clear q7 o7
            refine ⟨T8', ?_⟩
            refine anyH_enter (i := 17) (d := 76) (by kernel_rfl) rfl rfl (by kernel_rfl) (NodeText_any HX.out.2.2.1 HX.out.2.2.2 y7) (by kernel_rfl) ?_
            rintro v8 y8 ⟨o8, q8⟩
            have X8 : TextAt y8 v8 (1 :: (c ++ d)) := TextAt.of_own o8
            replace X7 := X7.below q8
            have T9' := T8'.below Z1.out q8
            clear q8 o8
            refine ⟨T9', ?_⟩
            have E9 := same2_any y8 X7.1 X8.1; rw [pair_same (HX.out.1.trans HX.out.2.2.1.symm), hpa, hpb] at E9
            refine anyH_enter1 (i := 18) (d := 77) (by kernel_rfl) rfl rfl (by kernel_rfl) E9 (by kernel_rfl) ?_
            rintro y9 q9
            replace X7 := X7.below q9
            replace X8 := X8.below q9
            have T10' := T9'.below Z1.out q9
            clear q9 E9
            clear X7
            clear X8
            refine ⟨T10', ?_⟩
            refine anyH_take (i := 22) (d := 81) (v := .bool true) rfl rfl (by kernel_rfl) (by kernel_rfl) (by kernel_rfl) (fun _ _ _ h => h) (Or.inl ⟨by kernel_rfl, fun w _ => by kernel_rfl⟩) T10' ?_
            refine anyH_take (i := 23) (d := 82) (v := .agg (cellsOf' u8c b)) rfl rfl (by kernel_rfl) (by kernel_rfl) (by kernel_rfl) (fun _ _ _ h => h) (yieldsIf_load_mid (by kernel_rfl) 23 (.tmp 11) rfl b1 0 (by kernel_rfl) (b.map u8c) _ (fun w h => h.2.1) Tryd.underlying23 rfl zb) T10' ?_
            refine anyH_take (i := 24) (d := 83) (v := .agg (cellsOf' u8c d)) rfl rfl (by kernel_rfl) (by kernel_rfl) (by kernel_rfl) (fun _ _ _ h => h) (yieldsIf_load_mid (by kernel_rfl) 23 (.tmp 13) rfl b3 0 (by kernel_rfl) (d.map u8c) _ (fun w h => h.2.2.2.1) Tryd.underlying23 rfl zd) T10' ?_
            refine anyH_take (i := 25) (d := 84) (v := .bool true) rfl rfl (by kernel_rfl) (by kernel_rfl) (by kernel_rfl) (fun _ _ _ h => h) (yields_eqA (by kernel_rfl) rfl (X := cellsOf' u8c b) (Y := cellsOf' u8c d) (by kernel_rfl) (by kernel_rfl) EG EB) T10' ?_
            refine anyH_take (i := 26) (d := 85) (v := .bool true) rfl rfl (by kernel_rfl) (by kernel_rfl) (by kernel_rfl) (fun _ _ _ h => h) (Or.inl ⟨by kernel_rfl, fun w _ => by kernel_rfl⟩) T10' ?_
            refine anyH_take (i := 27) (d := 86) (v := .bool true) rfl rfl (by kernel_rfl) (by kernel_rfl) (by kernel_rfl) (fun _ _ _ h => h) (Or.inl ⟨by kernel_rfl, fun w _ => by kernel_rfl⟩) T10' ?_
            refine anyH_take (i := 28) (d := 87) (v := .bool true) rfl rfl (by kernel_rfl) (by kernel_rfl) (by kernel_rfl) (fun _ _ _ h => h) (Or.inl ⟨by kernel_rfl, fun w _ => by kernel_rfl⟩) T10' ?_
            refine anyH_take (i := 29) (d := 88) (v := .bool true) rfl rfl (by kernel_rfl) (by kernel_rfl) (by kernel_rfl) (fun _ _ _ h => h) (Or.inl ⟨by kernel_rfl, fun w _ => by kernel_rfl⟩) T10' ?_
            refine anyH_take (i := 30) (d := 89) (v := .agg (cellsOf' u8c a)) rfl rfl (by kernel_rfl) (by kernel_rfl) (by kernel_rfl) (fun _ _ _ h => h) (yieldsIf_load_mid (by kernel_rfl) 23 (.tmp 10) rfl b0 0 (by kernel_rfl) (a.map u8c) _ (fun w h => h.1) Tryd.underlying23 rfl za) T10' ?_
            refine anyH_take (i := 31) (d := 90) (v := .agg (cellsOf' u8c b)) rfl rfl (by kernel_rfl) (by kernel_rfl) (by kernel_rfl) (fun _ _ _ h => h) (yieldsIf_load_mid (by kernel_rfl) 23 (.tmp 11) rfl b1 0 (by kernel_rfl) (b.map u8c) _ (fun w h => h.2.1) Tryd.underlying23 rfl zb) T10' ?_
            refine anyH_take (i := 33) (d := 92) (v := .agg (cellsOf' u8c c)) rfl rfl (by kernel_rfl) (by kernel_rfl) (by kernel_rfl) (fun _ _ _ h => h) (yieldsIf_load_mid (by kernel_rfl) 23 (.tmp 12) rfl b2 0 (by kernel_rfl) (c.map u8c) _ (fun w h => h.2.2.1) Tryd.underlying23 rfl zc) T10' ?_
            refine anyH_take (i := 34) (d := 93) (v := .agg (cellsOf' u8c d)) rfl rfl (by kernel_rfl) (by kernel_rfl) (by kernel_rfl) (fun _ _ _ h => h) (yieldsIf_load_mid (by kernel_rfl) 23 (.tmp 13) rfl b3 0 (by kernel_rfl) (d.map u8c) _ (fun w h => h.2.2.2.1) Tryd.underlying23 rfl zd) T10' ?_
            refine anyH_take (i := 37) (d := 96) (v := .agg (cellsOf' u8c a)) rfl rfl (by kernel_rfl) (by kernel_rfl) (by kernel_rfl) (fun _ _ _ h => h) (yieldsIf_load_mid (by kernel_rfl) 23 (.tmp 10) rfl b0 0 (by kernel_rfl) (a.map u8c) _ (fun w h => h.1) Tryd.underlying23 rfl za) T10' ?_
            refine anyH_take (i := 38) (d := 97) (v := .agg (cellsOf' u8c c)) rfl rfl (by kernel_rfl) (by kernel_rfl) (by kernel_rfl) (fun _ _ _ h => h) (yieldsIf_load_mid (by kernel_rfl) 23 (.tmp 12) rfl b2 0 (by kernel_rfl) (c.map u8c) _ (fun w h => h.2.2.1) Tryd.underlying23 rfl zc) T10' ?_
            refine anyH_take (i := 39) (d := 98) (v := .bool true) rfl rfl (by kernel_rfl) (by kernel_rfl) (by kernel_rfl) (fun _ _ _ h => h) ((yields_eqA (by kernel_rfl) rfl (X := cellsOf' u8c a) (Y := cellsOf' u8c c) (by kernel_rfl) (by kernel_rfl) EG EA)) T10' ?_
            refine anyH_enter (i := 32) (d := 91) (by kernel_rfl) rfl rfl (by kernel_rfl) (FoldText_any HX.out.1 HX.out.2.1 y9) (by kernel_rfl) ?_
            rintro v10 y10 ⟨o10, q10⟩
            have X10 : TextAt y10 v10 (2 :: (a ++ b)) := TextAt.of_own o10
            have T11' := T10'.below Z1.out q10
            clear q10 o10
            refine ⟨T11', ?_⟩
            refine anyH_enter (i := 35) (d := 94) (by kernel_rfl) rfl rfl (by kernel_rfl) (FoldText_any HX.out.2.2.1 HX.out.2.2.2 y10) (by kernel_rfl) ?_
            rintro v11 y11 ⟨o11, q11⟩
            have X11 : TextAt y11 v11 (2 :: (c ++ d)) := TextAt.of_own o11
            replace X10 := X10.below q11
            have T12' := T11'.below Z1.out q11
            clear q11 o11
            refine ⟨T12', ?_⟩
            have E12 := same2_any y11 X10.1 X11.1; rw [pair_same (HX.out.1.trans HX.out.2.2.1.symm), hpa, hpb] at E12
            refine anyH_enter1 (i := 36) (d := 95) (by kernel_rfl) rfl rfl (by kernel_rfl) E12 (by kernel_rfl) ?_
            rintro y12 q12
            replace X10 := X10.below q12
            replace X11 := X11.below q12
            have T13' := T12'.below Z1.out q12
            clear q12 E12
            clear X10
            clear X11
            refine ⟨T13', ?_⟩
            refine anyH_take (i := 40) (d := 99) (v := .bool true) rfl rfl (by kernel_rfl) (by kernel_rfl) (by kernel_rfl) (fun _ _ _ h => h) (Or.inl ⟨by kernel_rfl, fun w _ => by kernel_rfl⟩) T13' ?_
            refine anyH_take (i := 41) (d := 100) (v := .agg (cellsOf' u8c b)) rfl rfl (by kernel_rfl) (by kernel_rfl) (by kernel_rfl) (fun _ _ _ h => h) (yieldsIf_load_mid (by kernel_rfl) 23 (.tmp 11) rfl b1 0 (by kernel_rfl) (b.map u8c) _ (fun w h => h.2.1) Tryd.underlying23 rfl zb) T13' ?_
            refine anyH_take (i := 42) (d := 101) (v := .agg (cellsOf' u8c d)) rfl rfl (by kernel_rfl) (by kernel_rfl) (by kernel_rfl) (fun _ _ _ h => h) (yieldsIf_load_mid (by kernel_rfl) 23 (.tmp 13) rfl b3 0 (by kernel_rfl) (d.map u8c) _ (fun w h => h.2.2.2.1) Tryd.underlying23 rfl zd) T13' ?_
            refine anyH_take (i := 43) (d := 102) (v := .bool true) rfl rfl (by kernel_rfl) (by kernel_rfl) (by kernel_rfl) (fun _ _ _ h => h) (yields_eqA (by kernel_rfl) rfl (X := cellsOf' u8c b) (Y := cellsOf' u8c d) (by kernel_rfl) (by kernel_rfl) EG EB) T13' ?_
            refine anyH_take (i := 44) (d := 103) (v := .bool true) rfl rfl (by kernel_rfl) (by kernel_rfl) (by kernel_rfl) (fun _ _ _ h => h) (Or.inl ⟨by kernel_rfl, fun w _ => by kernel_rfl⟩) T13' ?_
            refine anyH_take (i := 45) (d := 104) (v := .bool true) rfl rfl (by kernel_rfl) (by kernel_rfl) (by kernel_rfl) (fun _ _ _ h => h) (Or.inl ⟨by kernel_rfl, fun w _ => by kernel_rfl⟩) T13' ?_
            refine anyH_take (i := 46) (d := 105) (v := .bool true) rfl rfl (by kernel_rfl) (by kernel_rfl) (by kernel_rfl) (fun _ _ _ h => h) (Or.inl ⟨by kernel_rfl, fun w _ => by kernel_rfl⟩) T13' ?_
            refine anyH_take (i := 47) (d := 106) (v := .bool true) rfl rfl (by kernel_rfl) (by kernel_rfl) (by kernel_rfl) (fun _ _ _ h => h) (Or.inl ⟨by kernel_rfl, fun w _ => by kernel_rfl⟩) T13' ?_
            refine anyH_take (i := 48) (d := 107) (v := .int .u64 (n : Int)) rfl rfl (by kernel_rfl) (by kernel_rfl) (by kernel_rfl) (fun _ _ _ h => h) (Or.inl ⟨by kernel_rfl, fun w _ => by kernel_rfl⟩) T13' ?_
            refine anyH_take (i := 49) (d := 108) (v := .agg (cellsOf' u8c a)) rfl rfl (by kernel_rfl) (by kernel_rfl) (by kernel_rfl) (fun _ _ _ h => h) (yieldsIf_load_mid (by kernel_rfl) 23 (.tmp 10) rfl b0 0 (by kernel_rfl) (a.map u8c) _ (fun w h => h.1) Tryd.underlying23 rfl za) T13' ?_
            refine anyH_take (i := 51) (d := 110) (v := .int .u64 (m : Int)) rfl rfl (by kernel_rfl) (by kernel_rfl) (by kernel_rfl) (fun _ _ _ h => h) (Or.inl ⟨by kernel_rfl, fun w _ => by kernel_rfl⟩) T13' ?_
            refine anyH_take (i := 52) (d := 111) (v := .agg (cellsOf' u8c c)) rfl rfl (by kernel_rfl) (by kernel_rfl) (by kernel_rfl) (fun _ _ _ h => h) (yieldsIf_load_mid (by kernel_rfl) 23 (.tmp 12) rfl b2 0 (by kernel_rfl) (c.map u8c) _ (fun w h => h.2.2.1) Tryd.underlying23 rfl zc) T13' ?_
            refine anyH_take (i := 55) (d := 114) (v := .int .u64 (n : Int)) rfl rfl (by kernel_rfl) (by kernel_rfl) (by kernel_rfl) (fun _ _ _ h => h) (Or.inl ⟨by kernel_rfl, fun w _ => by kernel_rfl⟩) T13' ?_
            refine anyH_take (i := 56) (d := 115) (v := .int .u64 (m : Int)) rfl rfl (by kernel_rfl) (by kernel_rfl) (by kernel_rfl) (fun _ _ _ h => h) (Or.inl ⟨by kernel_rfl, fun w _ => by kernel_rfl⟩) T13' ?_
            refine anyH_take (i := 57) (d := 116) (v := .bool false) rfl rfl (by kernel_rfl) (by kernel_rfl) (by kernel_rfl) (fun _ _ _ h => h) ((yields_eqI (k := .u64) (by kernel_rfl) rfl (m := (n : Int)) (n := (m : Int)) (by kernel_rfl) (by kernel_rfl) EN1)) T13' ?_
            refine anyH_enter (i := 50) (d := 109) (by kernel_rfl) rfl rfl (by kernel_rfl) (RootText_any HNM.out.1 HX.out.1 y12) (by kernel_rfl) ?_
            rintro v13 y13 ⟨o13, q13⟩
            have X13 : TextAt y13 v13 (3 :: (bigL n 8 ++ a)) := TextAt.of_own o13
            have T14' := T13'.below Z1.out q13
            clear q13 o13
            refine ⟨T14', ?_⟩
            refine anyH_enter (i := 53) (d := 112) (by kernel_rfl) rfl rfl (by kernel_rfl) (RootText_any HNM.out.2 HX.out.2.2.1 y13) (by kernel_rfl) ?_
            rintro v14 y14 ⟨o14, q14⟩
            have X14 : TextAt y14 v14 (3 :: (bigL m 8 ++ c)) := TextAt.of_own o14
            replace X13 := X13.below q14
            have T15' := T14'.below Z1.out q14
            clear q14 o14
            refine ⟨T15', ?_⟩
            have E15 := same2_any y14 X13.1 X14.1; rw [root_same HNM.out.1 HNM.out.2, hpn, hpa] at E15
            refine anyH_enter1 (i := 54) (d := 113) (by kernel_rfl) rfl rfl (by kernel_rfl) E15 (by kernel_rfl) ?_
            rintro y15 q15
            replace X13 := X13.below q15
            replace X14 := X14.below q15
            have T16' := T15'.below Z1.out q15
            clear q15 E15
            clear X13
            clear X14
            refine ⟨T16', ?_⟩
            refine anyH_take (i := 58) (d := 117) (v := .bool false) rfl rfl (by kernel_rfl) (by kernel_rfl) (by kernel_rfl) (fun _ _ _ h => h) (Or.inl ⟨by kernel_rfl, fun w _ => by kernel_rfl⟩) T16' ?_
            refine anyH_take (i := 59) (d := 118) (v := undef) rfl rfl (by kernel_rfl) (by kernel_rfl) (by kernel_rfl) (fun _ _ _ h => h) (Or.inr ⟨by kernel_rfl, rfl⟩) T16' ?_
            refine anyH_take (i := 60) (d := 119) (v := undef) rfl rfl (by kernel_rfl) (by kernel_rfl) (by kernel_rfl) (fun _ _ _ h => h) (Or.inr ⟨by kernel_rfl, rfl⟩) T16' ?_
            refine anyH_take (i := 61) (d := 120) (v := undef) rfl rfl (by kernel_rfl) (by kernel_rfl) (by kernel_rfl) (fun _ _ _ h => h) (Or.inr ⟨by kernel_rfl, rfl⟩) T16' ?_
            refine anyH_take (i := 62) (d := 121) (v := .bool false) rfl rfl (by kernel_rfl) (by kernel_rfl) (by kernel_rfl) (fun _ _ _ h => h) (Or.inl ⟨by kernel_rfl, fun w _ => by kernel_rfl⟩) T16' ?_
            refine anyH_take (i := 63) (d := 122) (v := .bool true) rfl rfl (by kernel_rfl) (by kernel_rfl) (by kernel_rfl) (fun _ _ _ h => h) (Or.inl ⟨by kernel_rfl, fun w _ => by kernel_rfl⟩) T16' ?_
            refine anyH_take (i := 64) (d := 123) (v := .bool true) rfl rfl (by kernel_rfl) (by kernel_rfl) (by kernel_rfl) (fun _ _ _ h => h) (Or.inl ⟨by kernel_rfl, fun w _ => by kernel_rfl⟩) T16' ?_
            refine anyH_take (i := 65) (d := 124) (v := .bool true) rfl rfl (by kernel_rfl) (by kernel_rfl) (by kernel_rfl) (fun _ _ _ h => h) (Or.inl ⟨by kernel_rfl, fun w _ => by kernel_rfl⟩) T16' ?_
            refine anyH_enter1 (i := 66) (d := 125) (by kernel_rfl) rfl rfl (by kernel_rfl) (awake2_any (HD.out.low hb1 (HW.out _ T16'.2.2.2.2))) (by kernel_rfl) ?_
            rintro y16 q16
            have T17' := T16'.below Z1.out q16
            clear q16
            refine ⟨T17', ?_⟩
            refine anyH_take (i := 67) (d := 126) (v := .bool true) rfl rfl (by kernel_rfl) (by kernel_rfl) (by kernel_rfl) (fun _ _ _ h => h) (Or.inl ⟨by kernel_rfl, fun w _ => by kernel_rfl⟩) T17' ?_
            refine anyH_take (i := 68) (d := 16) (v := .bool true) rfl rfl (by kernel_rfl) (by kernel_rfl) (by kernel_rfl) (fun _ _ _ h => h) (Or.inl ⟨by kernel_rfl, fun w _ => by kernel_rfl⟩) T17' ?_
            refine wpAnyH_done (by kernel_rfl) ?_ _
            go_wp2_with fail
            go_ret
            exact ⟨by kernel_rfl, by rw [HB0.out]; exact HW.out _ T17'.2.2.2.2⟩
          ·
            refine anyH_take (i := 0) (d := 59) (v := .slice aD dt.length cD) rfl rfl (by kernel_rfl) (by kernel_rfl) (by kernel_rfl) (fun _ _ _ h => h) (Or.inl ⟨by kernel_rfl, fun w _ => by kernel_rfl⟩) T0 ?_
            refine anyH_take (i := 3) (d := 62) (v := .slice aM mo.length cM) rfl rfl (by kernel_rfl) (by kernel_rfl) (by kernel_rfl) (fun _ _ _ h => h) (Or.inl ⟨by kernel_rfl, fun w _ => by kernel_rfl⟩) T0 ?_
            refine anyH_take (i := 7) (d := 66) (v := .slice aD dt.length cD) rfl rfl (by kernel_rfl) (by kernel_rfl) (by kernel_rfl) (fun _ _ _ h => h) (Or.inl ⟨by kernel_rfl, fun w _ => by kernel_rfl⟩) T0 ?_
            refine anyH_take (i := 8) (d := 67) (v := .slice aM mo.length cM) rfl rfl (by kernel_rfl) (by kernel_rfl) (by kernel_rfl) (fun _ _ _ h => h) (Or.inl ⟨by kernel_rfl, fun w _ => by kernel_rfl⟩) T0 ?_
            refine anyH_enter (i := 1) (d := 60) (by kernel_rfl) rfl rfl (by kernel_rfl) (row2_any wr.drew (SD.out.below (by rw [HB0.out]; exact HW.out _ T0.2.2.2.2)) (by have := HL.out; omega)) (by kernel_rfl) ?_
            rintro v1 y1 ⟨o1, q1⟩
            have X1 : TextAt y1 v1 dt := ⟨o1.slice, fun b hb => (o1.block b hb).2⟩
            have T2' := T0.below Z1.out q1
            clear q1 o1
            refine ⟨T2', ?_⟩
            refine anyH_enter (i := 2) (d := 61) (by kernel_rfl) rfl rfl (by kernel_rfl) (LeafText_any y1 X1.1 X1.2 (by have := HL.out; omega)) (by kernel_rfl) ?_
            rintro v2 y2 ⟨o2, q2⟩
            have X2 : TextAt y2 v2 (0 :: dt) := TextAt.of_own o2
            replace X1 := X1.below q2
            have T3' := T2'.below Z1.out q2
            clear q2 o2
            clear X1
            refine ⟨T3', ?_⟩
            refine anyH_enter (i := 4) (d := 63) (by kernel_rfl) rfl rfl (by kernel_rfl) (row2_any y2 (SM.out.below (by rw [HB0.out]; exact HW.out _ T3'.2.2.2.2)) (by have := HL.out; omega)) (by kernel_rfl) ?_
            rintro v3 y3 ⟨o3, q3⟩
            have X3 : TextAt y3 v3 mo := ⟨o3.slice, fun b hb => (o3.block b hb).2⟩
            replace X2 := X2.below q3
            have T4' := T3'.below Z1.out q3
            clear q3 o3
            refine ⟨T4', ?_⟩
            refine anyH_enter (i := 5) (d := 64) (by kernel_rfl) rfl rfl (by kernel_rfl) (LeafText_any y3 X3.1 X3.2 (by have := HL.out; omega)) (by kernel_rfl) ?_
            rintro v4 y4 ⟨o4, q4⟩
            have X4 : TextAt y4 v4 (0 :: mo) := TextAt.of_own o4
            replace X2 := X2.below q4
            replace X3 := X3.below q4
            have T5' := T4'.below Z1.out q4
            clear q4 o4
            clear X3
            refine ⟨T5', ?_⟩
            have E5 := same2_any y4 X2.1 X4.1; rw [leaf_same, hpl] at E5
            refine anyH_enter1 (i := 6) (d := 65) (by kernel_rfl) rfl rfl (by kernel_rfl) E5 (by kernel_rfl) ?_
            rintro y5 q5
            replace X2 := X2.below q5
            replace X4 := X4.below q5
            have T6' := T5'.below Z1.out q5
            clear q5 E5
            clear X2
            clear X4
            refine ⟨T6', ?_⟩
            have E6 := same2_any y5 (SD.out.below (by rw [HB0.out]; exact HW.out _ T6'.2.2.2.2)) (SM.out.below (by rw [HB0.out]; exact HW.out _ T6'.2.2.2.2)); rw [hpl] at E6
            refine anyH_enter1 (i := 9) (d := 68) (by kernel_rfl) rfl rfl (by kernel_rfl) E6 (by kernel_rfl) ?_
            rintro y6 q6
            have T7' := T6'.below Z1.out q6
            clear q6 E6
            refine ⟨T7', ?_⟩
            refine anyH_take (i := 10) (d := 69) (v := .bool true) rfl rfl (by kernel_rfl) (by kernel_rfl) (by kernel_rfl) (fun _ _ _ h => h) (Or.inl ⟨by kernel_rfl, fun w _ => by rcases pl with _ | _ <;> kernel_rfl⟩) T7' ?_
            refine anyH_take (i := 11) (d := 70) (v := .bool true) rfl rfl (by kernel_rfl) (by kernel_rfl) (by kernel_rfl) (fun _ _ _ h => h) (Or.inl ⟨by kernel_rfl, fun w _ => by kernel_rfl⟩) T7' ?_
            refine anyH_take (i := 12) (d := 71) (v := .agg (cellsOf' u8c a)) rfl rfl (by kernel_rfl) (by kernel_rfl) (by kernel_rfl) (fun _ _ _ h => h) (yieldsIf_load_mid (by kernel_rfl) 23 (.tmp 10) rfl b0 0 (by kernel_rfl) (a.map u8c) _ (fun w h => h.1) Tryd.underlying23 rfl za) T7' ?_
            refine anyH_take (i := 13) (d := 72) (v := .agg (cellsOf' u8c b)) rfl rfl (by kernel_rfl) (by kernel_rfl) (by kernel_rfl) (fun _ _ _ h => h) (yieldsIf_load_mid (by kernel_rfl) 23 (.tmp 11) rfl b1 0 (by kernel_rfl) (b.map u8c) _ (fun w h => h.2.1) Tryd.underlying23 rfl zb) T7' ?_
            refine anyH_take (i := 15) (d := 74) (v := .agg (cellsOf' u8c c)) rfl rfl (by kernel_rfl) (by kernel_rfl) (by kernel_rfl) (fun _ _ _ h => h) (yieldsIf_load_mid (by kernel_rfl) 23 (.tmp 12) rfl b2 0 (by kernel_rfl) (c.map u8c) _ (fun w h => h.2.2.1) Tryd.underlying23 rfl zc) T7' ?_
            refine anyH_take (i := 16) (d := 75) (v := .agg (cellsOf' u8c d)) rfl rfl (by kernel_rfl) (by kernel_rfl) (by kernel_rfl) (fun _ _ _ h => h) (yieldsIf_load_mid (by kernel_rfl) 23 (.tmp 13) rfl b3 0 (by kernel_rfl) (d.map u8c) _ (fun w h => h.2.2.2.1) Tryd.underlying23 rfl zd) T7' ?_
            refine anyH_take (i := 19) (d := 78) (v := .agg (cellsOf' u8c a)) rfl rfl (by kernel_rfl) (by kernel_rfl) (by kernel_rfl) (fun _ _ _ h => h) (yieldsIf_load_mid (by kernel_rfl) 23 (.tmp 10) rfl b0 0 (by kernel_rfl) (a.map u8c) _ (fun w h => h.1) Tryd.underlying23 rfl za) T7' ?_
            refine anyH_take (i := 20) (d := 79) (v := .agg (cellsOf' u8c c)) rfl rfl (by kernel_rfl) (by kernel_rfl) (by kernel_rfl) (fun _ _ _ h => h) (yieldsIf_load_mid (by kernel_rfl) 23 (.tmp 12) rfl b2 0 (by kernel_rfl) (c.map u8c) _ (fun w h => h.2.2.1) Tryd.underlying23 rfl zc) T7' ?_
            refine anyH_take (i := 21) (d := 80) (v := .bool true) rfl rfl (by kernel_rfl) (by kernel_rfl) (by kernel_rfl) (fun _ _ _ h => h) ((yields_eqA (by kernel_rfl) rfl (X := cellsOf' u8c a) (Y := cellsOf' u8c c) (by kernel_rfl) (by kernel_rfl) EG EA)) T7' ?_
            refine anyH_enter (i := 14) (d := 73) (by kernel_rfl) rfl rfl (by kernel_rfl) (NodeText_any HX.out.1 HX.out.2.1 y6) (by kernel_rfl) ?_
            rintro v7 y7 ⟨o7, q7⟩
            have X7 : TextAt y7 v7 (1 :: (a ++ b)) := TextAt.of_own o7
            have T8' := T7'.below Z1.out q7
            clear q7 o7
            refine ⟨T8', ?_⟩
            refine anyH_enter (i := 17) (d := 76) (by kernel_rfl) rfl rfl (by kernel_rfl) (NodeText_any HX.out.2.2.1 HX.out.2.2.2 y7) (by kernel_rfl) ?_
            rintro v8 y8 ⟨o8, q8⟩
            have X8 : TextAt y8 v8 (1 :: (c ++ d)) := TextAt.of_own o8
            replace X7 := X7.below q8
            have T9' := T8'.below Z1.out q8
            clear q8 o8
            refine ⟨T9', ?_⟩
            have E9 := same2_any y8 X7.1 X8.1; rw [pair_same (HX.out.1.trans HX.out.2.2.1.symm), hpa, hpb] at E9
            refine anyH_enter1 (i := 18) (d := 77) (by kernel_rfl) rfl rfl (by kernel_rfl) E9 (by kernel_rfl) ?_
            rintro y9 q9
            replace X7 := X7.below q9
            replace X8 := X8.below q9
            have T10' := T9'.below Z1.out q9
            clear q9 E9
            clear X7
            clear X8
            refine ⟨T10', ?_⟩
            refine anyH_take (i := 22) (d := 81) (v := .bool true) rfl rfl (by kernel_rfl) (by kernel_rfl) (by kernel_rfl) (fun _ _ _ h => h) (Or.inl ⟨by kernel_rfl, fun w _ => by kernel_rfl⟩) T10' ?_
            refine anyH_take (i := 23) (d := 82) (v := .agg (cellsOf' u8c b)) rfl rfl (by kernel_rfl) (by kernel_rfl) (by kernel_rfl) (fun _ _ _ h => h) (yieldsIf_load_mid (by kernel_rfl) 23 (.tmp 11) rfl b1 0 (by kernel_rfl) (b.map u8c) _ (fun w h => h.2.1) Tryd.underlying23 rfl zb) T10' ?_
            refine anyH_take (i := 24) (d := 83) (v := .agg (cellsOf' u8c d)) rfl rfl (by kernel_rfl) (by kernel_rfl) (by kernel_rfl) (fun _ _ _ h => h) (yieldsIf_load_mid (by kernel_rfl) 23 (.tmp 13) rfl b3 0 (by kernel_rfl) (d.map u8c) _ (fun w h => h.2.2.2.1) Tryd.underlying23 rfl zd) T10' ?_
            refine anyH_take (i := 25) (d := 84) (v := .bool true) rfl rfl (by kernel_rfl) (by kernel_rfl) (by kernel_rfl) (fun _ _ _ h => h) (yields_eqA (by kernel_rfl) rfl (X := cellsOf' u8c b) (Y := cellsOf' u8c d) (by kernel_rfl) (by kernel_rfl) EG EB) T10' ?_
            refine anyH_take (i := 26) (d := 85) (v := .bool true) rfl rfl (by kernel_rfl) (by kernel_rfl) (by kernel_rfl) (fun _ _ _ h => h) (Or.inl ⟨by kernel_rfl, fun w _ => by kernel_rfl⟩) T10' ?_
            refine anyH_take (i := 27) (d := 86) (v := .bool true) rfl rfl (by kernel_rfl) (by kernel_rfl) (by kernel_rfl) (fun _ _ _ h => h) (Or.inl ⟨by kernel_rfl, fun w _ => by kernel_rfl⟩) T10' ?_
            refine anyH_take (i := 28) (d := 87) (v := .bool true) rfl rfl (by kernel_rfl) (by kernel_rfl) (by kernel_rfl) (fun _ _ _ h => h) (Or.inl ⟨by kernel_rfl, fun w _ => by kernel_rfl⟩) T10' ?_
            refine anyH_take (i := 29) (d := 88) (v := .bool true) rfl rfl (by kernel_rfl) (by kernel_rfl) (by kernel_rfl) (fun _ _ _ h => h) (Or.inl ⟨by kernel_rfl, fun w _ => by kernel_rfl⟩) T10' ?_
            refine anyH_take (i := 30) (d := 89) (v := .agg (cellsOf' u8c a)) rfl rfl (by kernel_rfl) (by kernel_rfl) (by kernel_rfl) (fun _ _ _ h => h) (yieldsIf_load_mid (by kernel_rfl) 23 (.tmp 10) rfl b0 0 (by kernel_rfl) (a.map u8c) _ (fun w h => h.1) Tryd.underlying23 rfl za) T10' ?_
            refine anyH_take (i := 31) (d := 90) (v := .agg (cellsOf' u8c b)) rfl rfl (by kernel_rfl) (by kernel_rfl) (by kernel_rfl) (fun _ _ _ h => h) (yieldsIf_load_mid (by kernel_rfl) 23 (.tmp 11) rfl b1 0 (by kernel_rfl) (b.map u8c) _ (fun w h => h.2.1) Tryd.underlying23 rfl zb) T10' ?_
            refine anyH_take (i := 33) (d := 92) (v := .agg (cellsOf' u8c c)) rfl rfl (by kernel_rfl) (by kernel_rfl) (by kernel_rfl) (fun _ _ _ h => h) (yieldsIf_load_mid (by kernel_rfl) 23 (.tmp 12) rfl b2 0 (by kernel_rfl) (c.map u8c) _ (fun w h => h.2.2.1) Tryd.underlying23 rfl zc) T10' ?_
            refine anyH_take (i := 34) (d := 93) (v := .agg (cellsOf' u8c d)) rfl rfl (by kernel_rfl) (by kernel_rfl) (by kernel_rfl) (fun _ _ _ h => h) (yieldsIf_load_mid (by kernel_rfl) 23 (.tmp 13) rfl b3 0 (by kernel_rfl) (d.map u8c) _ (fun w h => h.2.2.2.1) Tryd.underlying23 rfl zd) T10' ?_
            refine anyH_take (i := 37) (d := 96) (v := .agg (cellsOf' u8c a)) rfl rfl (by kernel_rfl) (by kernel_rfl) (by kernel_rfl) (fun _ _ _ h => h) (yieldsIf_load_mid (by kernel_rfl) 23 (.tmp 10) rfl b0 0 (by kernel_rfl) (a.map u8c) _ (fun w h => h.1) Tryd.underlying23 rfl za) T10' ?_
            refine anyH_take (i := 38) (d := 97) (v := .agg (cellsOf' u8c c)) rfl rfl (by kernel_rfl) (by kernel_rfl) (by kernel_rfl) (fun _ _ _ h => h) (yieldsIf_load_mid (by kernel_rfl) 23 (.tmp 12) rfl b2 0 (by kernel_rfl) (c.map u8c) _ (fun w h => h.2.2.1) Tryd.underlying23 rfl zc) T10' ?_
            refine anyH_take (i := 39) (d := 98) (v := .bool true) rfl rfl (by kernel_rfl) (by kernel_rfl) (by kernel_rfl) (fun _ _ _ h => h) ((yields_eqA (by kernel_rfl) rfl (X := cellsOf' u8c a) (Y := cellsOf' u8c c) (by kernel_rfl) (by kernel_rfl) EG EA)) T10' ?_
            refine anyH_enter (i := 32) (d := 91) (by kernel_rfl) rfl rfl (by kernel_rfl) (FoldText_any HX.out.1 HX.out.2.1 y9) (by kernel_rfl) ?_
            rintro v10 y10 ⟨o10, q10⟩
            have X10 : TextAt y10 v10 (2 :: (a ++ b)) := TextAt.of_own o10
            have T11' := T10'.below Z1.out q10
            clear q10 o10
            refine ⟨T11', ?_⟩
            refine anyH_enter (i := 35) (d := 94) (by kernel_rfl) rfl rfl (by kernel_rfl) (FoldText_any HX.out.2.2.1 HX.out.2.2.2 y10) (by kernel_rfl) ?_
            rintro v11 y11 ⟨o11, q11⟩
            have X11 : TextAt y11 v11 (2 :: (c ++ d)) := TextAt.of_own o11
            replace X10 := X10.below q11
            have T12' := T11'.below Z1.out q11
            clear q11 o11
            refine ⟨T12', ?_⟩
            have E12 := same2_any y11 X10.1 X11.1; rw [pair_same (HX.out.1.trans HX.out.2.2.1.symm), hpa, hpb] at E12
            refine anyH_enter1 (i := 36) (d := 95) (by kernel_rfl) rfl rfl (by kernel_rfl) E12 (by kernel_rfl) ?_
            rintro y12 q12
            replace X10 := X10.below q12
            replace X11 := X11.below q12
            have T13' := T12'.below Z1.out q12
            clear q12 E12
            clear X10
            clear X11
            refine ⟨T13', ?_⟩
            refine anyH_take (i := 40) (d := 99) (v := .bool true) rfl rfl (by kernel_rfl) (by kernel_rfl) (by kernel_rfl) (fun _ _ _ h => h) (Or.inl ⟨by kernel_rfl, fun w _ => by kernel_rfl⟩) T13' ?_
            refine anyH_take (i := 41) (d := 100) (v := .agg (cellsOf' u8c b)) rfl rfl (by kernel_rfl) (by kernel_rfl) (by kernel_rfl) (fun _ _ _ h => h) (yieldsIf_load_mid (by kernel_rfl) 23 (.tmp 11) rfl b1 0 (by kernel_rfl) (b.map u8c) _ (fun w h => h.2.1) Tryd.underlying23 rfl zb) T13' ?_
            refine anyH_take (i := 42) (d := 101) (v := .agg (cellsOf' u8c d)) rfl rfl (by kernel_rfl) (by kernel_rfl) (by kernel_rfl) (fun _ _ _ h => h) (yieldsIf_load_mid (by kernel_rfl) 23 (.tmp 13) rfl b3 0 (by kernel_rfl) (d.map u8c) _ (fun w h => h.2.2.2.1) Tryd.underlying23 rfl zd) T13' ?_
            refine anyH_take (i := 43) (d := 102) (v := .bool true) rfl rfl (by kernel_rfl) (by kernel_rfl) (by kernel_rfl) (fun _ _ _ h => h) (yields_eqA (by kernel_rfl) rfl (X := cellsOf' u8c b) (Y := cellsOf' u8c d) (by kernel_rfl) (by kernel_rfl) EG EB) T13' ?_
            refine anyH_take (i := 44) (d := 103) (v := .bool true) rfl rfl (by kernel_rfl) (by kernel_rfl) (by kernel_rfl) (fun _ _ _ h => h) (Or.inl ⟨by kernel_rfl, fun w _ => by kernel_rfl⟩) T13' ?_
            refine anyH_take (i := 45) (d := 104) (v := .bool true) rfl rfl (by kernel_rfl) (by kernel_rfl) (by kernel_rfl) (fun _ _ _ h => h) (Or.inl ⟨by kernel_rfl, fun w _ => by kernel_rfl⟩) T13' ?_
            refine anyH_take (i := 46) (d := 105) (v := .bool true) rfl rfl (by kernel_rfl) (by kernel_rfl) (by kernel_rfl) (fun _ _ _ h => h) (Or.inl ⟨by kernel_rfl, fun w _ => by kernel_rfl⟩) T13' ?_
            refine anyH_take (i := 47) (d := 106) (v := .bool true) rfl rfl (by kernel_rfl) (by kernel_rfl) (by kernel_rfl) (fun _ _ _ h => h) (Or.inl ⟨by kernel_rfl, fun w _ => by kernel_rfl⟩) T13' ?_
            refine anyH_take (i := 48) (d := 107) (v := .int .u64 (n : Int)) rfl rfl (by kernel_rfl) (by kernel_rfl) (by kernel_rfl) (fun _ _ _ h => h) (Or.inl ⟨by kernel_rfl, fun w _ => by kernel_rfl⟩) T13' ?_
            refine anyH_take (i := 49) (d := 108) (v := .agg (cellsOf' u8c a)) rfl rfl (by kernel_rfl) (by kernel_rfl) (by kernel_rfl) (fun _ _ _ h => h) (yieldsIf_load_mid (by kernel_rfl) 23 (.tmp 10) rfl b0 0 (by kernel_rfl) (a.map u8c) _ (fun w h => h.1) Tryd.underlying23 rfl za) T13' ?_
            refine anyH_take (i := 51) (d := 110) (v := .int .u64 (m : Int)) rfl rfl (by kernel_rfl) (by kernel_rfl) (by kernel_rfl) (fun _ _ _ h => h) (Or.inl ⟨by kernel_rfl, fun w _ => by kernel_rfl⟩) T13' ?_
            refine anyH_take (i := 52) (d := 111) (v := .agg (cellsOf' u8c c)) rfl rfl (by kernel_rfl) (by kernel_rfl) (by kernel_rfl) (fun _ _ _ h => h) (yieldsIf_load_mid (by kernel_rfl) 23 (.tmp 12) rfl b2 0 (by kernel_rfl) (c.map u8c) _ (fun w h => h.2.2.1) Tryd.underlying23 rfl zc) T13' ?_
            refine anyH_take (i := 55) (d := 114) (v := .int .u64 (n : Int)) rfl rfl (by kernel_rfl) (by kernel_rfl) (by kernel_rfl) (fun _ _ _ h => h) (Or.inl ⟨by kernel_rfl, fun w _ => by kernel_rfl⟩) T13' ?_
            refine anyH_take (i := 56) (d := 115) (v := .int .u64 (m : Int)) rfl rfl (by kernel_rfl) (by kernel_rfl) (by kernel_rfl) (fun _ _ _ h => h) (Or.inl ⟨by kernel_rfl, fun w _ => by kernel_rfl⟩) T13' ?_
            refine anyH_take (i := 57) (d := 116) (v := .bool true) rfl rfl (by kernel_rfl) (by kernel_rfl) (by kernel_rfl) (fun _ _ _ h => h) ((yields_eqI (k := .u64) (by kernel_rfl) rfl (m := (n : Int)) (n := (m : Int)) (by kernel_rfl) (by kernel_rfl) EN1)) T13' ?_
            refine anyH_enter (i := 50) (d := 109) (by kernel_rfl) rfl rfl (by kernel_rfl) (RootText_any HNM.out.1 HX.out.1 y12) (by kernel_rfl) ?_
            rintro v13 y13 ⟨o13, q13⟩
            have X13 : TextAt y13 v13 (3 :: (bigL n 8 ++ a)) := TextAt.of_own o13
            have T14' := T13'.below Z1.out q13
            clear q13 o13
            refine ⟨T14', ?_⟩
            refine anyH_enter (i := 53) (d := 112) (by kernel_rfl) rfl rfl (by kernel_rfl) (RootText_any HNM.out.2 HX.out.2.2.1 y13) (by kernel_rfl) ?_
            rintro v14 y14 ⟨o14, q14⟩
            have X14 : TextAt y14 v14 (3 :: (bigL m 8 ++ c)) := TextAt.of_own o14
            replace X13 := X13.below q14
            have T15' := T14'.below Z1.out q14
            clear q14 o14
            refine ⟨T15', ?_⟩
            have E15 := same2_any y14 X13.1 X14.1; rw [root_same HNM.out.1 HNM.out.2, hpn, hpa] at E15
            refine anyH_enter1 (i := 54) (d := 113) (by kernel_rfl) rfl rfl (by kernel_rfl) E15 (by kernel_rfl) ?_
            rintro y15 q15
            replace X13 := X13.below q15
            replace X14 := X14.below q15
            have T16' := T15'.below Z1.out q15
            clear q15 E15
            clear X13
            clear X14
            refine ⟨T16', ?_⟩
            refine anyH_take (i := 58) (d := 117) (v := .bool true) rfl rfl (by kernel_rfl) (by kernel_rfl) (by kernel_rfl) (fun _ _ _ h => h) (Or.inl ⟨by kernel_rfl, fun w _ => by kernel_rfl⟩) T16' ?_
            refine anyH_take (i := 59) (d := 118) (v := .agg (cellsOf' u8c a)) rfl rfl (by kernel_rfl) (by kernel_rfl) (by kernel_rfl) (fun _ _ _ h => h) (yieldsIf_load_mid (by kernel_rfl) 23 (.tmp 10) rfl b0 0 (by kernel_rfl) (a.map u8c) _ (fun w h => h.1) Tryd.underlying23 rfl za) T16' ?_
            refine anyH_take (i := 60) (d := 119) (v := .agg (cellsOf' u8c c)) rfl rfl (by kernel_rfl) (by kernel_rfl) (by kernel_rfl) (fun _ _ _ h => h) (yieldsIf_load_mid (by kernel_rfl) 23 (.tmp 12) rfl b2 0 (by kernel_rfl) (c.map u8c) _ (fun w h => h.2.2.1) Tryd.underlying23 rfl zc) T16' ?_
            refine anyH_take (i := 61) (d := 120) (v := .bool true) rfl rfl (by kernel_rfl) (by kernel_rfl) (by kernel_rfl) (fun _ _ _ h => h) (yields_eqA (by kernel_rfl) rfl (X := cellsOf' u8c a) (Y := cellsOf' u8c c) (by kernel_rfl) (by kernel_rfl) EG EA) T16' ?_
            refine anyH_take (i := 62) (d := 121) (v := .bool true) rfl rfl (by kernel_rfl) (by kernel_rfl) (by kernel_rfl) (fun _ _ _ h => h) (Or.inl ⟨by kernel_rfl, fun w _ => by kernel_rfl⟩) T16' ?_
            refine anyH_take (i := 63) (d := 122) (v := .bool true) rfl rfl (by kernel_rfl) (by kernel_rfl) (by kernel_rfl) (fun _ _ _ h => h) (Or.inl ⟨by kernel_rfl, fun w _ => by kernel_rfl⟩) T16' ?_
            refine anyH_take (i := 64) (d := 123) (v := .bool true) rfl rfl (by kernel_rfl) (by kernel_rfl) (by kernel_rfl) (fun _ _ _ h => h) (Or.inl ⟨by kernel_rfl, fun w _ => by kernel_rfl⟩) T16' ?_
            refine anyH_take (i := 65) (d := 124) (v := .bool true) rfl rfl (by kernel_rfl) (by kernel_rfl) (by kernel_rfl) (fun _ _ _ h => h) (Or.inl ⟨by kernel_rfl, fun w _ => by kernel_rfl⟩) T16' ?_
            refine anyH_enter1 (i := 66) (d := 125) (by kernel_rfl) rfl rfl (by kernel_rfl) (awake2_any (HD.out.low hb1 (HW.out _ T16'.2.2.2.2))) (by kernel_rfl) ?_
            rintro y16 q16
            have T17' := T16'.below Z1.out q16
            clear q16
            refine ⟨T17', ?_⟩
            refine anyH_take (i := 67) (d := 126) (v := .bool true) rfl rfl (by kernel_rfl) (by kernel_rfl) (by kernel_rfl) (fun _ _ _ h => h) (Or.inl ⟨by kernel_rfl, fun w _ => by kernel_rfl⟩) T17' ?_
            refine anyH_take (i := 68) (d := 16) (v := .bool true) rfl rfl (by kernel_rfl) (by kernel_rfl) (by kernel_rfl) (fun _ _ _ h => h) (Or.inl ⟨by kernel_rfl, fun w _ => by kernel_rfl⟩) T17' ?_
            refine wpAnyH_done (by kernel_rfl) ?_ _
            go_wp2_with fail
            go_ret
            exact ⟨by kernel_rfl, by rw [HB0.out]; exact HW.out _ T17'.2.2.2.2⟩
end Go.Proofs.YtcifnfffoiiceaaDoor
