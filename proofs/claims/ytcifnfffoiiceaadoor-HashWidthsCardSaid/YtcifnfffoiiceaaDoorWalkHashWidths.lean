/-
  The walk of HashWidths.
-/
import Derived.Test.YtcifnfffoiiceaaDoorWidthN
import Derived.Test.YtcifnfffoiiceaaDoorRow2
import Derived.Test.YtcifnfffoiiceaaDoorAwake2
import Derived.Test.YtcifnfffoiiceaaDoorEqlA
import Derived.Test.YtcifnfffoiiceaaDoorHeldSeq
import Derived.BigQuiet
namespace Go.Proofs.YtcifnfffoiiceaaDoor
open Go.RowKit
set_option linter.unusedVariables false
set_option pp.deepTerms true
set_option pp.maxSteps 1000000

/-- One part. -/
theorem one_part {w : World} {v : Value} {l : List Nat} (h : SliceOf u8c w v l) (hb : ∀ b, v.ownBlock = some b → b < w.heap.size) :
    PartsAt (w.alloc (.cells #[v] 29 (0, 0))) (.slice (some ⟨w.heap.size, 0, none⟩) 1 1) [v] [l] := by
  refine ⟨⟨_, _, rfl, Nat.le_refl _, by show 1 ≤ maxLen; decide, (fun e => by cases e), .inr ⟨w.heap.size, 0, rfl, fun j x hj => ?_⟩⟩, rfl, fun i x L hx hL => ?_⟩
  · rw [cell_of_row _ _ _ _ _ _ (heap_alloc_new _ _)]
    match j, hj with
    | 0, hj => cases hj; rfl
    | j + 1, hj => cases hj
  · match i, hx, hL with
    | 0, hx, hL =>
      cases hx
      cases hL
      exact ⟨h.below ((Below.refl _ _).alloc (Nat.le_refl _) _), fun b hb' => by have := hb b hb'; simp; omega⟩
    | i + 1, hx, hL => cases hx
theorem sum_one {w : World} {v : Value} {l : List Nat} (wd : Int) (h : SliceOf u8c w v l) (hb : ∀ b, v.ownBlock = some b → b < w.heap.size) (bB : Bytes l) (hl : l.length ≤ 1000000) (D : DoorAt w) :
    Calls Tryd.prog 17 #[.int .i64 wd, .slice (some ⟨w.heap.size, 0, none⟩) 1 1] (w.alloc (.cells #[v] 29 (0, 0))) fun e w' => e = .returned (.agg (cellsOf' u8c (sumN wd l))) ∧ Below w.heap.size w w' := by
  have q : Below w.heap.size w (w.alloc (.cells #[v] 29 (0, 0))) := (Below.refl _ _).alloc (Nat.le_refl _) _
  refine (hashSum_any (one_part h hb) (fun L hL => by rw [List.mem_singleton] at hL; subst hL; exact bB) (D.below q) (by simp; omega) (by show 1 ≤ 4611686018427387904; decide)).mono ?_
  rintro e w' ⟨rfl, h2⟩
  exact ⟨by simp, q.trans (h2.mono (by simp))⟩
theorem keep_row {w w' : World} {b : Nat} {o : Obj} (h : w.heap[b]? = some o) (q : Below w.heap.size w w') : w'.heap[b]? = some o := (q.block b (lt_of_heap h)).trans h
theorem range_keep {w w' : World} {b : Nat} {C : List Value} (h : w.rangeAt b 0 C) (q : Below w.heap.size w w') : w'.rangeAt b 0 C := fun j v hv => by
  have hc := h j v hv
  exact (q.cell (p := ⟨b, 0 + j, none⟩) (World.block_lt_of_cell? w _ hc)).trans hc
theorem info_b {L : List Nat} (h : L.length = 64) : (Tryd.prog.info? 24).map (·.size) = some (cellsOf' u8c L).size := by rw [co_size, h]; exact size_64
set_option maxRecDepth 8000 in
set_option maxHeartbeats 4000000 in
theorem walkHashWidths (w : World) (D : DoorAt w) {wd : Int} {v : Value} {T S K : List Nat} (w0 : (Lit.int .i64 wd).wf = true) (sT : SliceOf u8c w v T) (bT : Bytes T) (lT : T.length ≤ 140737488351232) (hS : S.length = 32) (bS : Bytes S) (hK : K.length = 64) (bK : Bytes K) :
    Calls Tryd.prog 5 #[.int .i64 wd, v, .agg (cellsOf' u8c S), .agg (cellsOf' u8c K)] w fun e w' => e = .returned (.bool true) ∧ Below w.heap.size w w' := by
  have hA : (cellsOf' u8c S).size = 32 := by rw [co_size, hS]
  have hB : (cellsOf' u8c K).size = 64 := by rw [co_size, hK]
  have h0 : Below w.heap.size w ((w.alloc (.cells (cellsOf' u8c S) 23 (0, 0))).alloc (.cells (cellsOf' u8c K) 24 (0, 0))) := ((Below.refl _ _).alloc (Nat.le_refl _) _).alloc (by simp) _
  have H0 := Lib.hid h0
  have ST := Lib.hid sT
  have HD := Lib.hid D
  have HBT := Lib.hid bT
  have HSK := Lib.hid (And.intro hS (And.intro bS (And.intro hK bK)))
  obtain ⟨a, cap, rfl, _⟩ := sT
  by_cases hl : 3000 < T.length
  · have hli : (3000 : Int) < (T.length : Int) := by omega
    go_enter Tryd.func5, Tryd.ntmps5
    go_wp2
    go_ret
    exact ⟨rfl, H0.out⟩
  · have hli : ¬ (3000 : Int) < (T.length : Int) := by omega
    have HL : Hid (T.length ≤ 3000) := Lib.hid (by omega)
    have VC := width_cases wd
    have HWO := Lib.hid (width_own wd)
    clear h0 D bT hS bS hK bK w0 hl
    have R1 := Lib.hid (row2_any _ (ST.out.below H0.out) (by have := HL.out; omega))
    clear lT
    have g0 : Hid (((w.alloc (.cells (cellsOf' u8c S) 23 (0, 0))).alloc (.cells (cellsOf' u8c K) 24 (0, 0))).heap[w.heap.size]? = some (.cells (cellsOf' u8c S) 23 (0, 0))) := Lib.hid (by rw [Below.heap_alloc _ _ _ (by simp), heap_alloc_new])
    have e1 : (w.alloc (.cells (cellsOf' u8c S) 23 (0, 0))).heap.size = w.heap.size + 1 := by simp
    have g1 : Hid (((w.alloc (.cells (cellsOf' u8c S) 23 (0, 0))).alloc (.cells (cellsOf' u8c K) 24 (0, 0))).heap[w.heap.size + 1]? = some (.cells (cellsOf' u8c K) 24 (0, 0))) := Lib.hid (by rw [← e1, heap_alloc_new])
    have z1 : Hid (((w.alloc (.cells (cellsOf' u8c S) 23 (0, 0))).alloc (.cells (cellsOf' u8c K) 24 (0, 0))).heap.size = w.heap.size + 2) := Lib.hid (by simp)
    clear e1
    have hb1 := HD.out.1
    have CP : Hid (∀ (u : Int) (W : World), DoorAt W → Calls Tryd.prog 12 #[.int .i64 u, .agg (cellsOf' u8c S), .agg (cellsOf' u8c K)] W fun e w' => e = .returned (.agg (cellsOf' u8c (compressN u S K))) ∧ Below W.heap.size W w') := Lib.hid fun u W DA => Compress_any HSK.out.1 HSK.out.2.2.1 HSK.out.2.1 HSK.out.2.2.2 W DA
    have LH := sum_len wd T
    have LF := compress_len 32 S K
    have LC := compress_len wd S K
    obtain ⟨V, hV⟩ : ∃ V, widthN wd = V := ⟨_, rfl⟩
    have V1 : 1 ≤ V := by rw [← hV]; exact widthN_pos wd
    have V2 : V ≤ 32 := by rw [← hV]; exact widthN_max wd
    rw [hV] at VC HWO
    have HV := Lib.hid hV
    clear hV
    have V1i : (1 : Int) ≤ (V : Int) := by omega
    have V2i : (V : Int) ≤ 32 := by omega
    have SV := Lib.hid (fun T => sum_own wd T)
    rw [HV.out] at SV
    have SA := Lib.hid (fun i h1 h2 => sum_above wd T (i := i) h1 h2)
    have CA := Lib.hid (fun i h1 h2 => compress_above wd S K (i := i) h1 h2)
    have CB := Lib.hid (fun i h1 => compress_below wd S K (i := i) h1)
    rw [HV.out] at SA CA CB
    rcases VC with ⟨v1, hv⟩ | ⟨v1, hv⟩ | ⟨n, hwd, n1, n2, hv⟩
    case inl =>
      go_enter Tryd.func5, Tryd.ntmps5
      go_wp2_with fail
      rw [show Value.int IntKind.i64 1 = Value.int IntKind.i64 (V : Int) by rw [hv]; rfl]
      clear v1 hv
      refine R1.out.mono ?_
      rintro e wA ⟨vA, rfl, rA, qA⟩
      obtain ⟨gA, cA, rfl, _, _, _⟩ := rA.form
      have G0wA := Lib.hid (keep_row g0.out qA)
      have G1wA := Lib.hid (keep_row g1.out qA)
      have BwA := Lib.hid (H0.out.trans (qA.mono (by rw [z1.out]; omega)))
      have S1 := Lib.hid (sum_one wd rA.slice (fun b hb => (rA.block b hb).2) HBT.out (by have := HL.out; omega) (HD.out.low hb1 BwA.out))
      clear qA rA R1 g0 g1 z1
      go_wp2_with fail
      refine S1.out.mono ?_
      rintro e wB ⟨rfl, qB⟩
      have G0wB := Lib.hid (keep_row G0wA.out qB)
      have G1wB := Lib.hid (keep_row G1wA.out qB)
      have BwB := Lib.hid (BwA.out.trans (qB.mono BwA.out.size))
      obtain ⟨H, hH⟩ : ∃ H, sumN wd T = H := ⟨_, rfl⟩
      obtain ⟨F, hF⟩ : ∃ F, compressN 32 S K = F := ⟨_, rfl⟩
      obtain ⟨C, hC⟩ : ∃ C, compressN wd S K = C := ⟨_, rfl⟩
      have CPF := CP.out 32
      have CPC := CP.out wd
      rw [hH] at LH SA ⊢
      rw [hF] at LF CB CPF
      rw [hC] at LC CA CB CPC
      have HHH := Lib.hid hH
      have HLN := Lib.hid (And.intro LH (And.intro LF LC))
      have HPF := Lib.hid CPF
      have HPC := Lib.hid CPC
      clear qB S1 BwA G0wA G1wA LH LF LC CPF CPC hH hF hC
      go_wp2_with (first
        | (refine wpList_store_row rfl 23 _ _ rfl wB.heap.size (cellsOf' u8c H) rfl rfl 23 _ (heap_alloc_new _ _) (hc_all HLN.out.1) (hold32 HLN.out.1) (co_one u8c_one) ?_; rw [setRow_alloc]; have nwC := heap_alloc_new wB (.cells (cellsOf' u8c H) 23 (0, 0)); have qwC : Below wB.heap.size wB (wB.alloc (.cells (cellsOf' u8c H) 23 (0, 0))) := (Below.refl _ _).alloc (Nat.le_refl _) _; generalize wB.alloc (.cells (cellsOf' u8c H) 23 (0, 0)) = wC at *; have G0wC := Lib.hid (keep_row G0wB.out qwC); have G1wC := Lib.hid (keep_row G1wB.out qwC); have R1wC := Lib.hid nwC; have BwC := Lib.hid (BwB.out.trans (qwC.mono BwB.out.size)); clear nwC qwC)
        | (refine wpList_load_row rfl 23 _ rfl w.heap.size rfl 23 _ (0, 0) _ G0wC.out Tryd.underlying23 rfl (hc_all HSK.out.1) ?_)
        | (refine wpList_load_row rfl 24 _ rfl (w.heap.size + 1) rfl 24 _ (0, 0) _ G1wC.out Tryd.underlying24 rfl (info_b HSK.out.2.2.1) ?_)
        | (go_at_call 12; (with_reducible refine (HPF.out wC (HD.out.low hb1 BwC.out)).mono ?_); rintro e wD ⟨rfl, qwD⟩; have G0wD := Lib.hid (keep_row G0wC.out qwD); have G1wD := Lib.hid (keep_row G1wC.out qwD); have R1wD := Lib.hid (keep_row R1wC.out qwD); have BwD := Lib.hid (BwC.out.trans (qwD.mono BwC.out.size)); clear qwD)
        | (refine wpList_store_row rfl 23 _ _ rfl wD.heap.size (cellsOf' u8c F) rfl rfl 23 _ (heap_alloc_new _ _) (hc_all HLN.out.2.1) (hold32 HLN.out.2.1) (co_one u8c_one) ?_; rw [setRow_alloc]; have nwE := heap_alloc_new wD (.cells (cellsOf' u8c F) 23 (0, 0)); have qwE : Below wD.heap.size wD (wD.alloc (.cells (cellsOf' u8c F) 23 (0, 0))) := (Below.refl _ _).alloc (Nat.le_refl _) _; generalize wD.alloc (.cells (cellsOf' u8c F) 23 (0, 0)) = wE at *; have G0wE := Lib.hid (keep_row G0wD.out qwE); have G1wE := Lib.hid (keep_row G1wD.out qwE); have R2wE := Lib.hid nwE; have R1wE := Lib.hid (keep_row R1wD.out qwE); have BwE := Lib.hid (BwD.out.trans (qwE.mono BwD.out.size)); clear nwE qwE)
        | (refine wpList_load_row rfl 23 _ rfl w.heap.size rfl 23 _ (0, 0) _ G0wE.out Tryd.underlying23 rfl (hc_all HSK.out.1) ?_)
        | (refine wpList_load_row rfl 24 _ rfl (w.heap.size + 1) rfl 24 _ (0, 0) _ G1wE.out Tryd.underlying24 rfl (info_b HSK.out.2.2.1) ?_)
        | (go_at_call 12; (with_reducible refine (HPC.out wE (HD.out.low hb1 BwE.out)).mono ?_); rintro e wF ⟨rfl, qwF⟩; have G0wF := Lib.hid (keep_row G0wE.out qwF); have G1wF := Lib.hid (keep_row G1wE.out qwF); have R1wF := Lib.hid (keep_row R1wE.out qwF); have R2wF := Lib.hid (keep_row R2wE.out qwF); have BwF := Lib.hid (BwE.out.trans (qwF.mono BwE.out.size)); clear qwF)
        | (refine wpList_store_row rfl 23 _ _ rfl wF.heap.size (cellsOf' u8c C) rfl rfl 23 _ (heap_alloc_new _ _) (hc_all HLN.out.2.2) (hold32 HLN.out.2.2) (co_one u8c_one) ?_; rw [setRow_alloc]; have nwG := heap_alloc_new wF (.cells (cellsOf' u8c C) 23 (0, 0)); have qwG : Below wF.heap.size wF (wF.alloc (.cells (cellsOf' u8c C) 23 (0, 0))) := (Below.refl _ _).alloc (Nat.le_refl _) _; generalize wF.alloc (.cells (cellsOf' u8c C) 23 (0, 0)) = wG at *; have G0wG := Lib.hid (keep_row G0wF.out qwG); have G1wG := Lib.hid (keep_row G1wF.out qwG); have R3wG := Lib.hid nwG; have R1wG := Lib.hid (keep_row R1wF.out qwG); have R2wG := Lib.hid (keep_row R2wF.out qwG); have BwG := Lib.hid (BwF.out.trans (qwG.mono BwF.out.size)); clear nwG qwG))
      have b0 : Below wG.heap.size wG wG := Below.refl _ _
      go_loopw [13] (fun i wr => ∃ n : Nat, n ≤ 32 ∧ i = .int .i64 (n : Int) ∧ Below wG.heap.size wG wr) (fun i _ => 32 - (intOf i).toNat)
      case atStart => exact ⟨0, by omega, rfl, b0⟩
      case round =>
        obtain ⟨n, hn, rfl, qx⟩ := hrel
        clear b0
        by_cases hlt : n < 32
        · have ni : (n : Int) < 32 := by omega
          have nw : IntKind.i64.wrap (n : Int) = (n : Int) := wrap_small (by omega)
          by_cases hv : V ≤ n
          · have hvi : (V : Int) ≤ (n : Int) := by omega
            have hvj : decide ((V : Int) ≤ (n : Int)) = true := decide_eq_true hvi
            have d1 : decide ((n : Int) < (V : Int)) = false := decide_eq_false (by omega)
            have d1n : decide (n < V) = false := decide_eq_false (by omega)
            have d2n : decide (V ≤ n) = true := decide_eq_true hv
            have c1 := co_cell (keep_row R1wG.out qx) (SA.out n hlt hv)
            have c3 := co_cell (keep_row R3wG.out qx) (CA.out n hlt hv)
            unfold u8c at c1 c3
            rw [show ((0 : Nat) : Int) = 0 from rfl] at c1 c3
            go_wp2_with fail
            go_quiet (fail)
            clear nw
            go_wp2_with fail
            go_roundw
            case rel => exact ⟨n + 1, by omega, by go_num, below_drew qx _⟩
            case measure => simp [intOf]; omega
          · have hvi : ¬ (V : Int) ≤ (n : Int) := by omega
            have hvj : decide ((V : Int) ≤ (n : Int)) = false := decide_eq_false hvi
            have d1 : decide ((n : Int) < (V : Int)) = true := decide_eq_true (by omega)
            have d1n : decide (n < V) = true := decide_eq_true (by omega)
            have d2n : decide (V ≤ n) = false := decide_eq_false hv
            have d2 : (n : Int) < (V : Int) := by omega
            obtain ⟨x, hx⟩ : ∃ x, F[n]? = some x := ⟨F[n]'(by rw [HLN.out.2.1]; exact hlt), List.getElem?_eq_getElem _⟩
            have c2 := co_cell (keep_row R2wG.out qx) hx
            have c3 := co_cell (keep_row R3wG.out qx) ((CB.out n (by omega)).trans hx)
            unfold u8c at c2 c3
            clear hx
            go_wp2_with fail
            go_quiet (fail)
            clear nw
            go_wp2_with fail
            go_roundw
            case rel => exact ⟨n + 1, by omega, by go_num, below_drew qx _⟩
            case measure => simp [intOf]; omega
        · obtain rfl : n = 32 := by omega
          rw [show ((32 : Nat) : Int) = 32 from rfl]
          have Bwr := Lib.hid (BwG.out.trans (qx.mono BwG.out.size))
          have rng : wr.drew.rangeAt wB.heap.size 0 (H.map u8c) := (World.rangeAt_drew _ _ _ _).2 (row_range (cur := H.map u8c) (keep_row R1wG.out qx) (fun j v hj => by rw [Nat.zero_add]; exact hj))
          have zs : (Tryd.prog.info? 23).map (·.size) = some (H.map u8c).length := by rw [List.length_map, HLN.out.1]; exact size_32
          have EQ : ∀ w, (Op.equalIn 10000 23 (.agg (cellsOf' u8c H)) (.agg (cellsOf' u8c H))).run Tryd.prog w = .ok true w := fun w => by rw [run_eql_h w HLN.out.1 HLN.out.1, decide_eq_true rfl]
          have EG := guard_h
          clear qx hlt hn
          go_wp2_with fail
          have T1 : wr.drew.rangeAt wB.heap.size 0 (H.map u8c) ∧ Below wr.heap.size wr wr.drew := ⟨rng, (Below.refl _ _).drew⟩
          have HB2 : Hid (∀ w', Below wr.heap.size wr w' → Below w.heap.size w w') := Lib.hid fun w' q => Bwr.out.trans (q.mono Bwr.out.size)
          have hS2 := HL.out
          have RW := Lib.hid (row2_any wr.drew (ST.out.below (HB2.out _ (Below.refl _ _).drew)) (by omega))
          refine wp_region_held (S := fun w' => w'.rangeAt wB.heap.size 0 (H.map u8c) ∧ Below wr.heap.size wr w') (by kernel_rfl) ?_
          change wpAnyH _ _ _ _ _ _ _ _ (World.drew _)
          refine anyH_take (i := 0) (d := 67) (v := .agg (cellsOf' u8c H)) rfl rfl (by kernel_rfl) (by kernel_rfl) (by kernel_rfl) (fun _ _ _ h => h) (yieldsIf_load_mid (by rfl) 23 (.tmp 10) rfl wB.heap.size 0 (by kernel_rfl) (H.map u8c) _ (fun w h => h.1) Tryd.underlying23 rfl zs) T1 ?_
          refine anyH_take (i := 1) (d := 68) (v := .int .i64 (V : Int)) rfl rfl (by kernel_rfl) (by kernel_rfl) (by kernel_rfl) (fun _ _ _ h => h) (Or.inl ⟨by rfl, fun w _ => by go_simp⟩) T1 ?_
          refine anyH_take (i := 2) (d := 69) (v := .slice a T.length cap) rfl rfl (by kernel_rfl) (by kernel_rfl) (by kernel_rfl) (fun _ _ _ h => h) (Or.inl ⟨by rfl, fun w _ => by go_simp⟩) T1 ?_
          refine anyH_one (i := 3) (by kernel_rfl) rfl ?_
          go_wp2_with (go_at_call 15; (with_reducible refine RW.out.mono ?_); rintro e wI ⟨vI, rfl, rI, qI⟩)
          have T2 : wI.rangeAt wB.heap.size 0 (H.map u8c) ∧ Below wr.heap.size wr wI := ⟨range_keep T1.1 qI, T1.2.trans (qI.mono (Nat.le_refl _))⟩
          obtain ⟨gI, cI, rfl, _, _, _⟩ := rI.form
          have S2 := sum_one (V : Int) rI.slice (fun b hb => (rI.block b hb).2) HBT.out (by omega) (HD.out.low hb1 (HB2.out _ T2.2))
          rw [SV.out, HHH.out] at S2
          have HS2 := Lib.hid S2
          have T3 : (wI.alloc (.cells #[.slice (some ⟨gI, 0, none⟩) T.length cI] 29 (0, 0))).rangeAt wB.heap.size 0 (H.map u8c) ∧ Below wr.heap.size wr (wI.alloc (.cells #[.slice (some ⟨gI, 0, none⟩) T.length cI] 29 (0, 0))) := ⟨World.rangeAt_alloc T2.1 _, T2.2.alloc T2.2.size _⟩
          clear qI rI S2 RW
          refine ⟨T2, ?_⟩
          refine anyH_one (i := 4) (by kernel_rfl) rfl ?_
          go_wp2_with fail
          refine ⟨T3, ?_⟩
          refine anyH_one (i := 5) (by kernel_rfl) rfl ?_
          go_wp2_with (go_at_call 17; (with_reducible refine HS2.out.mono ?_); rintro e wJ ⟨rfl, qJ⟩)
          have T4 : wJ.rangeAt wB.heap.size 0 (H.map u8c) ∧ Below wr.heap.size wr wJ := ⟨range_keep T2.1 qJ, T2.2.trans (qJ.mono T2.2.size)⟩
          clear qJ HS2 T3 T2
          refine ⟨T4, ?_⟩
          refine anyH_one (i := 6) (by kernel_rfl) rfl ?_
          go_wp2_with fail
          refine ⟨T4, ?_⟩
          refine anyH_one (i := 7) (by kernel_rfl) rfl ?_
          go_wp2_with fail
          refine ⟨T4, ?_⟩
          have AW := Lib.hid (awake2_any (HD.out.low hb1 (HB2.out _ T4.2)))
          refine anyH_one (i := 8) (by kernel_rfl) rfl ?_
          go_wp2_with (go_at_call 14; (with_reducible refine AW.out.mono ?_); rintro e wK ⟨rfl, qK⟩)
          have T5 : wK.rangeAt wB.heap.size 0 (H.map u8c) ∧ Below wr.heap.size wr wK := ⟨range_keep T4.1 qK, T4.2.trans (qK.mono T4.2.size)⟩
          refine ⟨T5, ?_⟩
          refine anyH_one (i := 9) (by kernel_rfl) rfl ?_
          go_wp2_with fail
          refine ⟨T5, ?_⟩
          refine anyH_one (i := 10) (by kernel_rfl) rfl ?_
          go_wp2_with fail
          refine ⟨T5, wpAnyH_done (by kernel_rfl) ?_ _⟩
          go_wp2_with fail
          go_ret
          exact ⟨rfl, HB2.out _ T5.2⟩
    case inr.inl =>
      go_enter Tryd.func5, Tryd.ntmps5
      go_wp2_with fail
      rw [show Value.int IntKind.i64 32 = Value.int IntKind.i64 (V : Int) by rw [hv]; rfl]
      clear v1 hv
      refine R1.out.mono ?_
      rintro e wA ⟨vA, rfl, rA, qA⟩
      obtain ⟨gA, cA, rfl, _, _, _⟩ := rA.form
      have G0wA := Lib.hid (keep_row g0.out qA)
      have G1wA := Lib.hid (keep_row g1.out qA)
      have BwA := Lib.hid (H0.out.trans (qA.mono (by rw [z1.out]; omega)))
      have S1 := Lib.hid (sum_one wd rA.slice (fun b hb => (rA.block b hb).2) HBT.out (by have := HL.out; omega) (HD.out.low hb1 BwA.out))
      clear qA rA R1 g0 g1 z1
      go_wp2_with fail
      refine S1.out.mono ?_
      rintro e wB ⟨rfl, qB⟩
      have G0wB := Lib.hid (keep_row G0wA.out qB)
      have G1wB := Lib.hid (keep_row G1wA.out qB)
      have BwB := Lib.hid (BwA.out.trans (qB.mono BwA.out.size))
      obtain ⟨H, hH⟩ : ∃ H, sumN wd T = H := ⟨_, rfl⟩
      obtain ⟨F, hF⟩ : ∃ F, compressN 32 S K = F := ⟨_, rfl⟩
      obtain ⟨C, hC⟩ : ∃ C, compressN wd S K = C := ⟨_, rfl⟩
      have CPF := CP.out 32
      have CPC := CP.out wd
      rw [hH] at LH SA ⊢
      rw [hF] at LF CB CPF
      rw [hC] at LC CA CB CPC
      have HHH := Lib.hid hH
      have HLN := Lib.hid (And.intro LH (And.intro LF LC))
      have HPF := Lib.hid CPF
      have HPC := Lib.hid CPC
      clear qB S1 BwA G0wA G1wA LH LF LC CPF CPC hH hF hC
      go_wp2_with (first
        | (refine wpList_store_row rfl 23 _ _ rfl wB.heap.size (cellsOf' u8c H) rfl rfl 23 _ (heap_alloc_new _ _) (hc_all HLN.out.1) (hold32 HLN.out.1) (co_one u8c_one) ?_; rw [setRow_alloc]; have nwC := heap_alloc_new wB (.cells (cellsOf' u8c H) 23 (0, 0)); have qwC : Below wB.heap.size wB (wB.alloc (.cells (cellsOf' u8c H) 23 (0, 0))) := (Below.refl _ _).alloc (Nat.le_refl _) _; generalize wB.alloc (.cells (cellsOf' u8c H) 23 (0, 0)) = wC at *; have G0wC := Lib.hid (keep_row G0wB.out qwC); have G1wC := Lib.hid (keep_row G1wB.out qwC); have R1wC := Lib.hid nwC; have BwC := Lib.hid (BwB.out.trans (qwC.mono BwB.out.size)); clear nwC qwC)
        | (refine wpList_load_row rfl 23 _ rfl w.heap.size rfl 23 _ (0, 0) _ G0wC.out Tryd.underlying23 rfl (hc_all HSK.out.1) ?_)
        | (refine wpList_load_row rfl 24 _ rfl (w.heap.size + 1) rfl 24 _ (0, 0) _ G1wC.out Tryd.underlying24 rfl (info_b HSK.out.2.2.1) ?_)
        | (go_at_call 12; (with_reducible refine (HPF.out wC (HD.out.low hb1 BwC.out)).mono ?_); rintro e wD ⟨rfl, qwD⟩; have G0wD := Lib.hid (keep_row G0wC.out qwD); have G1wD := Lib.hid (keep_row G1wC.out qwD); have R1wD := Lib.hid (keep_row R1wC.out qwD); have BwD := Lib.hid (BwC.out.trans (qwD.mono BwC.out.size)); clear qwD)
        | (refine wpList_store_row rfl 23 _ _ rfl wD.heap.size (cellsOf' u8c F) rfl rfl 23 _ (heap_alloc_new _ _) (hc_all HLN.out.2.1) (hold32 HLN.out.2.1) (co_one u8c_one) ?_; rw [setRow_alloc]; have nwE := heap_alloc_new wD (.cells (cellsOf' u8c F) 23 (0, 0)); have qwE : Below wD.heap.size wD (wD.alloc (.cells (cellsOf' u8c F) 23 (0, 0))) := (Below.refl _ _).alloc (Nat.le_refl _) _; generalize wD.alloc (.cells (cellsOf' u8c F) 23 (0, 0)) = wE at *; have G0wE := Lib.hid (keep_row G0wD.out qwE); have G1wE := Lib.hid (keep_row G1wD.out qwE); have R2wE := Lib.hid nwE; have R1wE := Lib.hid (keep_row R1wD.out qwE); have BwE := Lib.hid (BwD.out.trans (qwE.mono BwD.out.size)); clear nwE qwE)
        | (refine wpList_load_row rfl 23 _ rfl w.heap.size rfl 23 _ (0, 0) _ G0wE.out Tryd.underlying23 rfl (hc_all HSK.out.1) ?_)
        | (refine wpList_load_row rfl 24 _ rfl (w.heap.size + 1) rfl 24 _ (0, 0) _ G1wE.out Tryd.underlying24 rfl (info_b HSK.out.2.2.1) ?_)
        | (go_at_call 12; (with_reducible refine (HPC.out wE (HD.out.low hb1 BwE.out)).mono ?_); rintro e wF ⟨rfl, qwF⟩; have G0wF := Lib.hid (keep_row G0wE.out qwF); have G1wF := Lib.hid (keep_row G1wE.out qwF); have R1wF := Lib.hid (keep_row R1wE.out qwF); have R2wF := Lib.hid (keep_row R2wE.out qwF); have BwF := Lib.hid (BwE.out.trans (qwF.mono BwE.out.size)); clear qwF)
        | (refine wpList_store_row rfl 23 _ _ rfl wF.heap.size (cellsOf' u8c C) rfl rfl 23 _ (heap_alloc_new _ _) (hc_all HLN.out.2.2) (hold32 HLN.out.2.2) (co_one u8c_one) ?_; rw [setRow_alloc]; have nwG := heap_alloc_new wF (.cells (cellsOf' u8c C) 23 (0, 0)); have qwG : Below wF.heap.size wF (wF.alloc (.cells (cellsOf' u8c C) 23 (0, 0))) := (Below.refl _ _).alloc (Nat.le_refl _) _; generalize wF.alloc (.cells (cellsOf' u8c C) 23 (0, 0)) = wG at *; have G0wG := Lib.hid (keep_row G0wF.out qwG); have G1wG := Lib.hid (keep_row G1wF.out qwG); have R3wG := Lib.hid nwG; have R1wG := Lib.hid (keep_row R1wF.out qwG); have R2wG := Lib.hid (keep_row R2wF.out qwG); have BwG := Lib.hid (BwF.out.trans (qwG.mono BwF.out.size)); clear nwG qwG))
      have b0 : Below wG.heap.size wG wG := Below.refl _ _
      go_loopw [13] (fun i wr => ∃ n : Nat, n ≤ 32 ∧ i = .int .i64 (n : Int) ∧ Below wG.heap.size wG wr) (fun i _ => 32 - (intOf i).toNat)
      case atStart => exact ⟨0, by omega, rfl, b0⟩
      case round =>
        obtain ⟨n, hn, rfl, qx⟩ := hrel
        clear b0
        by_cases hlt : n < 32
        · have ni : (n : Int) < 32 := by omega
          have nw : IntKind.i64.wrap (n : Int) = (n : Int) := wrap_small (by omega)
          by_cases hv : V ≤ n
          · have hvi : (V : Int) ≤ (n : Int) := by omega
            have hvj : decide ((V : Int) ≤ (n : Int)) = true := decide_eq_true hvi
            have d1 : decide ((n : Int) < (V : Int)) = false := decide_eq_false (by omega)
            have d1n : decide (n < V) = false := decide_eq_false (by omega)
            have d2n : decide (V ≤ n) = true := decide_eq_true hv
            have c1 := co_cell (keep_row R1wG.out qx) (SA.out n hlt hv)
            have c3 := co_cell (keep_row R3wG.out qx) (CA.out n hlt hv)
            unfold u8c at c1 c3
            rw [show ((0 : Nat) : Int) = 0 from rfl] at c1 c3
            go_wp2_with fail
            go_quiet (fail)
            clear nw
            go_wp2_with fail
            go_roundw
            case rel => exact ⟨n + 1, by omega, by go_num, below_drew qx _⟩
            case measure => simp [intOf]; omega
          · have hvi : ¬ (V : Int) ≤ (n : Int) := by omega
            have hvj : decide ((V : Int) ≤ (n : Int)) = false := decide_eq_false hvi
            have d1 : decide ((n : Int) < (V : Int)) = true := decide_eq_true (by omega)
            have d1n : decide (n < V) = true := decide_eq_true (by omega)
            have d2n : decide (V ≤ n) = false := decide_eq_false hv
            have d2 : (n : Int) < (V : Int) := by omega
            obtain ⟨x, hx⟩ : ∃ x, F[n]? = some x := ⟨F[n]'(by rw [HLN.out.2.1]; exact hlt), List.getElem?_eq_getElem _⟩
            have c2 := co_cell (keep_row R2wG.out qx) hx
            have c3 := co_cell (keep_row R3wG.out qx) ((CB.out n (by omega)).trans hx)
            unfold u8c at c2 c3
            clear hx
            go_wp2_with fail
            go_quiet (fail)
            clear nw
            go_wp2_with fail
            go_roundw
            case rel => exact ⟨n + 1, by omega, by go_num, below_drew qx _⟩
            case measure => simp [intOf]; omega
        · obtain rfl : n = 32 := by omega
          rw [show ((32 : Nat) : Int) = 32 from rfl]
          have Bwr := Lib.hid (BwG.out.trans (qx.mono BwG.out.size))
          have rng : wr.drew.rangeAt wB.heap.size 0 (H.map u8c) := (World.rangeAt_drew _ _ _ _).2 (row_range (cur := H.map u8c) (keep_row R1wG.out qx) (fun j v hj => by rw [Nat.zero_add]; exact hj))
          have zs : (Tryd.prog.info? 23).map (·.size) = some (H.map u8c).length := by rw [List.length_map, HLN.out.1]; exact size_32
          have EQ : ∀ w, (Op.equalIn 10000 23 (.agg (cellsOf' u8c H)) (.agg (cellsOf' u8c H))).run Tryd.prog w = .ok true w := fun w => by rw [run_eql_h w HLN.out.1 HLN.out.1, decide_eq_true rfl]
          have EG := guard_h
          clear qx hlt hn
          go_wp2_with fail
          have T1 : wr.drew.rangeAt wB.heap.size 0 (H.map u8c) ∧ Below wr.heap.size wr wr.drew := ⟨rng, (Below.refl _ _).drew⟩
          have HB2 : Hid (∀ w', Below wr.heap.size wr w' → Below w.heap.size w w') := Lib.hid fun w' q => Bwr.out.trans (q.mono Bwr.out.size)
          have hS2 := HL.out
          have RW := Lib.hid (row2_any wr.drew (ST.out.below (HB2.out _ (Below.refl _ _).drew)) (by omega))
          refine wp_region_held (S := fun w' => w'.rangeAt wB.heap.size 0 (H.map u8c) ∧ Below wr.heap.size wr w') (by kernel_rfl) ?_
          change wpAnyH _ _ _ _ _ _ _ _ (World.drew _)
          refine anyH_take (i := 0) (d := 67) (v := .agg (cellsOf' u8c H)) rfl rfl (by kernel_rfl) (by kernel_rfl) (by kernel_rfl) (fun _ _ _ h => h) (yieldsIf_load_mid (by rfl) 23 (.tmp 10) rfl wB.heap.size 0 (by kernel_rfl) (H.map u8c) _ (fun w h => h.1) Tryd.underlying23 rfl zs) T1 ?_
          refine anyH_take (i := 1) (d := 68) (v := .int .i64 (V : Int)) rfl rfl (by kernel_rfl) (by kernel_rfl) (by kernel_rfl) (fun _ _ _ h => h) (Or.inl ⟨by rfl, fun w _ => by go_simp⟩) T1 ?_
          refine anyH_take (i := 2) (d := 69) (v := .slice a T.length cap) rfl rfl (by kernel_rfl) (by kernel_rfl) (by kernel_rfl) (fun _ _ _ h => h) (Or.inl ⟨by rfl, fun w _ => by go_simp⟩) T1 ?_
          refine anyH_one (i := 3) (by kernel_rfl) rfl ?_
          go_wp2_with (go_at_call 15; (with_reducible refine RW.out.mono ?_); rintro e wI ⟨vI, rfl, rI, qI⟩)
          have T2 : wI.rangeAt wB.heap.size 0 (H.map u8c) ∧ Below wr.heap.size wr wI := ⟨range_keep T1.1 qI, T1.2.trans (qI.mono (Nat.le_refl _))⟩
          obtain ⟨gI, cI, rfl, _, _, _⟩ := rI.form
          have S2 := sum_one (V : Int) rI.slice (fun b hb => (rI.block b hb).2) HBT.out (by omega) (HD.out.low hb1 (HB2.out _ T2.2))
          rw [SV.out, HHH.out] at S2
          have HS2 := Lib.hid S2
          have T3 : (wI.alloc (.cells #[.slice (some ⟨gI, 0, none⟩) T.length cI] 29 (0, 0))).rangeAt wB.heap.size 0 (H.map u8c) ∧ Below wr.heap.size wr (wI.alloc (.cells #[.slice (some ⟨gI, 0, none⟩) T.length cI] 29 (0, 0))) := ⟨World.rangeAt_alloc T2.1 _, T2.2.alloc T2.2.size _⟩
          clear qI rI S2 RW
          refine ⟨T2, ?_⟩
          refine anyH_one (i := 4) (by kernel_rfl) rfl ?_
          go_wp2_with fail
          refine ⟨T3, ?_⟩
          refine anyH_one (i := 5) (by kernel_rfl) rfl ?_
          go_wp2_with (go_at_call 17; (with_reducible refine HS2.out.mono ?_); rintro e wJ ⟨rfl, qJ⟩)
          have T4 : wJ.rangeAt wB.heap.size 0 (H.map u8c) ∧ Below wr.heap.size wr wJ := ⟨range_keep T2.1 qJ, T2.2.trans (qJ.mono T2.2.size)⟩
          clear qJ HS2 T3 T2
          refine ⟨T4, ?_⟩
          refine anyH_one (i := 6) (by kernel_rfl) rfl ?_
          go_wp2_with fail
          refine ⟨T4, ?_⟩
          refine anyH_one (i := 7) (by kernel_rfl) rfl ?_
          go_wp2_with fail
          refine ⟨T4, ?_⟩
          have AW := Lib.hid (awake2_any (HD.out.low hb1 (HB2.out _ T4.2)))
          refine anyH_one (i := 8) (by kernel_rfl) rfl ?_
          go_wp2_with (go_at_call 14; (with_reducible refine AW.out.mono ?_); rintro e wK ⟨rfl, qK⟩)
          have T5 : wK.rangeAt wB.heap.size 0 (H.map u8c) ∧ Below wr.heap.size wr wK := ⟨range_keep T4.1 qK, T4.2.trans (qK.mono T4.2.size)⟩
          refine ⟨T5, ?_⟩
          refine anyH_one (i := 9) (by kernel_rfl) rfl ?_
          go_wp2_with fail
          refine ⟨T5, ?_⟩
          refine anyH_one (i := 10) (by kernel_rfl) rfl ?_
          go_wp2_with fail
          refine ⟨T5, wpAnyH_done (by kernel_rfl) ?_ _⟩
          go_wp2_with fail
          go_ret
          exact ⟨rfl, HB2.out _ T5.2⟩
    case inr.inr =>
      rw [← hv] at hwd
      subst hwd
      clear n1 n2 hv
      go_enter Tryd.func5, Tryd.ntmps5
      go_wp2_with fail
      refine R1.out.mono ?_
      rintro e wA ⟨vA, rfl, rA, qA⟩
      obtain ⟨gA, cA, rfl, _, _, _⟩ := rA.form
      have G0wA := Lib.hid (keep_row g0.out qA)
      have G1wA := Lib.hid (keep_row g1.out qA)
      have BwA := Lib.hid (H0.out.trans (qA.mono (by rw [z1.out]; omega)))
      have S1 := Lib.hid (sum_one (V : Int) rA.slice (fun b hb => (rA.block b hb).2) HBT.out (by have := HL.out; omega) (HD.out.low hb1 BwA.out))
      clear qA rA R1 g0 g1 z1
      go_wp2_with fail
      refine S1.out.mono ?_
      rintro e wB ⟨rfl, qB⟩
      have G0wB := Lib.hid (keep_row G0wA.out qB)
      have G1wB := Lib.hid (keep_row G1wA.out qB)
      have BwB := Lib.hid (BwA.out.trans (qB.mono BwA.out.size))
      obtain ⟨H, hH⟩ : ∃ H, sumN (V : Int) T = H := ⟨_, rfl⟩
      obtain ⟨F, hF⟩ : ∃ F, compressN 32 S K = F := ⟨_, rfl⟩
      obtain ⟨C, hC⟩ : ∃ C, compressN (V : Int) S K = C := ⟨_, rfl⟩
      have CPF := CP.out 32
      have CPC := CP.out (V : Int)
      rw [hH] at LH SA ⊢
      rw [hF] at LF CB CPF
      rw [hC] at LC CA CB CPC
      have HHH := Lib.hid hH
      have HLN := Lib.hid (And.intro LH (And.intro LF LC))
      have HPF := Lib.hid CPF
      have HPC := Lib.hid CPC
      clear qB S1 BwA G0wA G1wA LH LF LC CPF CPC hH hF hC
      go_wp2_with (first
        | (refine wpList_store_row rfl 23 _ _ rfl wB.heap.size (cellsOf' u8c H) rfl rfl 23 _ (heap_alloc_new _ _) (hc_all HLN.out.1) (hold32 HLN.out.1) (co_one u8c_one) ?_; rw [setRow_alloc]; have nwC := heap_alloc_new wB (.cells (cellsOf' u8c H) 23 (0, 0)); have qwC : Below wB.heap.size wB (wB.alloc (.cells (cellsOf' u8c H) 23 (0, 0))) := (Below.refl _ _).alloc (Nat.le_refl _) _; generalize wB.alloc (.cells (cellsOf' u8c H) 23 (0, 0)) = wC at *; have G0wC := Lib.hid (keep_row G0wB.out qwC); have G1wC := Lib.hid (keep_row G1wB.out qwC); have R1wC := Lib.hid nwC; have BwC := Lib.hid (BwB.out.trans (qwC.mono BwB.out.size)); clear nwC qwC)
        | (refine wpList_load_row rfl 23 _ rfl w.heap.size rfl 23 _ (0, 0) _ G0wC.out Tryd.underlying23 rfl (hc_all HSK.out.1) ?_)
        | (refine wpList_load_row rfl 24 _ rfl (w.heap.size + 1) rfl 24 _ (0, 0) _ G1wC.out Tryd.underlying24 rfl (info_b HSK.out.2.2.1) ?_)
        | (go_at_call 12; (with_reducible refine (HPF.out wC (HD.out.low hb1 BwC.out)).mono ?_); rintro e wD ⟨rfl, qwD⟩; have G0wD := Lib.hid (keep_row G0wC.out qwD); have G1wD := Lib.hid (keep_row G1wC.out qwD); have R1wD := Lib.hid (keep_row R1wC.out qwD); have BwD := Lib.hid (BwC.out.trans (qwD.mono BwC.out.size)); clear qwD)
        | (refine wpList_store_row rfl 23 _ _ rfl wD.heap.size (cellsOf' u8c F) rfl rfl 23 _ (heap_alloc_new _ _) (hc_all HLN.out.2.1) (hold32 HLN.out.2.1) (co_one u8c_one) ?_; rw [setRow_alloc]; have nwE := heap_alloc_new wD (.cells (cellsOf' u8c F) 23 (0, 0)); have qwE : Below wD.heap.size wD (wD.alloc (.cells (cellsOf' u8c F) 23 (0, 0))) := (Below.refl _ _).alloc (Nat.le_refl _) _; generalize wD.alloc (.cells (cellsOf' u8c F) 23 (0, 0)) = wE at *; have G0wE := Lib.hid (keep_row G0wD.out qwE); have G1wE := Lib.hid (keep_row G1wD.out qwE); have R2wE := Lib.hid nwE; have R1wE := Lib.hid (keep_row R1wD.out qwE); have BwE := Lib.hid (BwD.out.trans (qwE.mono BwD.out.size)); clear nwE qwE)
        | (refine wpList_load_row rfl 23 _ rfl w.heap.size rfl 23 _ (0, 0) _ G0wE.out Tryd.underlying23 rfl (hc_all HSK.out.1) ?_)
        | (refine wpList_load_row rfl 24 _ rfl (w.heap.size + 1) rfl 24 _ (0, 0) _ G1wE.out Tryd.underlying24 rfl (info_b HSK.out.2.2.1) ?_)
        | (go_at_call 12; (with_reducible refine (HPC.out wE (HD.out.low hb1 BwE.out)).mono ?_); rintro e wF ⟨rfl, qwF⟩; have G0wF := Lib.hid (keep_row G0wE.out qwF); have G1wF := Lib.hid (keep_row G1wE.out qwF); have R1wF := Lib.hid (keep_row R1wE.out qwF); have R2wF := Lib.hid (keep_row R2wE.out qwF); have BwF := Lib.hid (BwE.out.trans (qwF.mono BwE.out.size)); clear qwF)
        | (refine wpList_store_row rfl 23 _ _ rfl wF.heap.size (cellsOf' u8c C) rfl rfl 23 _ (heap_alloc_new _ _) (hc_all HLN.out.2.2) (hold32 HLN.out.2.2) (co_one u8c_one) ?_; rw [setRow_alloc]; have nwG := heap_alloc_new wF (.cells (cellsOf' u8c C) 23 (0, 0)); have qwG : Below wF.heap.size wF (wF.alloc (.cells (cellsOf' u8c C) 23 (0, 0))) := (Below.refl _ _).alloc (Nat.le_refl _) _; generalize wF.alloc (.cells (cellsOf' u8c C) 23 (0, 0)) = wG at *; have G0wG := Lib.hid (keep_row G0wF.out qwG); have G1wG := Lib.hid (keep_row G1wF.out qwG); have R3wG := Lib.hid nwG; have R1wG := Lib.hid (keep_row R1wF.out qwG); have R2wG := Lib.hid (keep_row R2wF.out qwG); have BwG := Lib.hid (BwF.out.trans (qwG.mono BwF.out.size)); clear nwG qwG))
      have b0 : Below wG.heap.size wG wG := Below.refl _ _
      go_loopw [13] (fun i wr => ∃ n : Nat, n ≤ 32 ∧ i = .int .i64 (n : Int) ∧ Below wG.heap.size wG wr) (fun i _ => 32 - (intOf i).toNat)
      case atStart => exact ⟨0, by omega, rfl, b0⟩
      case round =>
        obtain ⟨n, hn, rfl, qx⟩ := hrel
        clear b0
        by_cases hlt : n < 32
        · have ni : (n : Int) < 32 := by omega
          have nw : IntKind.i64.wrap (n : Int) = (n : Int) := wrap_small (by omega)
          by_cases hv : V ≤ n
          · have hvi : (V : Int) ≤ (n : Int) := by omega
            have hvj : decide ((V : Int) ≤ (n : Int)) = true := decide_eq_true hvi
            have d1 : decide ((n : Int) < (V : Int)) = false := decide_eq_false (by omega)
            have d1n : decide (n < V) = false := decide_eq_false (by omega)
            have d2n : decide (V ≤ n) = true := decide_eq_true hv
            have c1 := co_cell (keep_row R1wG.out qx) (SA.out n hlt hv)
            have c3 := co_cell (keep_row R3wG.out qx) (CA.out n hlt hv)
            unfold u8c at c1 c3
            rw [show ((0 : Nat) : Int) = 0 from rfl] at c1 c3
            go_wp2_with fail
            go_quiet (fail)
            clear nw
            go_wp2_with fail
            go_roundw
            case rel => exact ⟨n + 1, by omega, by go_num, below_drew qx _⟩
            case measure => simp [intOf]; omega
          · have hvi : ¬ (V : Int) ≤ (n : Int) := by omega
            have hvj : decide ((V : Int) ≤ (n : Int)) = false := decide_eq_false hvi
            have d1 : decide ((n : Int) < (V : Int)) = true := decide_eq_true (by omega)
            have d1n : decide (n < V) = true := decide_eq_true (by omega)
            have d2n : decide (V ≤ n) = false := decide_eq_false hv
            have d2 : (n : Int) < (V : Int) := by omega
            obtain ⟨x, hx⟩ : ∃ x, F[n]? = some x := ⟨F[n]'(by rw [HLN.out.2.1]; exact hlt), List.getElem?_eq_getElem _⟩
            have c2 := co_cell (keep_row R2wG.out qx) hx
            have c3 := co_cell (keep_row R3wG.out qx) ((CB.out n (by omega)).trans hx)
            unfold u8c at c2 c3
            clear hx
            go_wp2_with fail
            go_quiet (fail)
            clear nw
            go_wp2_with fail
            go_roundw
            case rel => exact ⟨n + 1, by omega, by go_num, below_drew qx _⟩
            case measure => simp [intOf]; omega
        · obtain rfl : n = 32 := by omega
          rw [show ((32 : Nat) : Int) = 32 from rfl]
          have Bwr := Lib.hid (BwG.out.trans (qx.mono BwG.out.size))
          have rng : wr.drew.rangeAt wB.heap.size 0 (H.map u8c) := (World.rangeAt_drew _ _ _ _).2 (row_range (cur := H.map u8c) (keep_row R1wG.out qx) (fun j v hj => by rw [Nat.zero_add]; exact hj))
          have zs : (Tryd.prog.info? 23).map (·.size) = some (H.map u8c).length := by rw [List.length_map, HLN.out.1]; exact size_32
          have EQ : ∀ w, (Op.equalIn 10000 23 (.agg (cellsOf' u8c H)) (.agg (cellsOf' u8c H))).run Tryd.prog w = .ok true w := fun w => by rw [run_eql_h w HLN.out.1 HLN.out.1, decide_eq_true rfl]
          have EG := guard_h
          clear qx hlt hn
          go_wp2_with fail
          have T1 : wr.drew.rangeAt wB.heap.size 0 (H.map u8c) ∧ Below wr.heap.size wr wr.drew := ⟨rng, (Below.refl _ _).drew⟩
          have HB2 : Hid (∀ w', Below wr.heap.size wr w' → Below w.heap.size w w') := Lib.hid fun w' q => Bwr.out.trans (q.mono Bwr.out.size)
          have hS2 := HL.out
          have RW := Lib.hid (row2_any wr.drew (ST.out.below (HB2.out _ (Below.refl _ _).drew)) (by omega))
          refine wp_region_held (S := fun w' => w'.rangeAt wB.heap.size 0 (H.map u8c) ∧ Below wr.heap.size wr w') (by kernel_rfl) ?_
          change wpAnyH _ _ _ _ _ _ _ _ (World.drew _)
          refine anyH_take (i := 0) (d := 67) (v := .agg (cellsOf' u8c H)) rfl rfl (by kernel_rfl) (by kernel_rfl) (by kernel_rfl) (fun _ _ _ h => h) (yieldsIf_load_mid (by rfl) 23 (.tmp 10) rfl wB.heap.size 0 (by kernel_rfl) (H.map u8c) _ (fun w h => h.1) Tryd.underlying23 rfl zs) T1 ?_
          refine anyH_take (i := 1) (d := 68) (v := .int .i64 (V : Int)) rfl rfl (by kernel_rfl) (by kernel_rfl) (by kernel_rfl) (fun _ _ _ h => h) (Or.inl ⟨by rfl, fun w _ => by go_simp⟩) T1 ?_
          refine anyH_take (i := 2) (d := 69) (v := .slice a T.length cap) rfl rfl (by kernel_rfl) (by kernel_rfl) (by kernel_rfl) (fun _ _ _ h => h) (Or.inl ⟨by rfl, fun w _ => by go_simp⟩) T1 ?_
          refine anyH_one (i := 3) (by kernel_rfl) rfl ?_
          go_wp2_with (go_at_call 15; (with_reducible refine RW.out.mono ?_); rintro e wI ⟨vI, rfl, rI, qI⟩)
          have T2 : wI.rangeAt wB.heap.size 0 (H.map u8c) ∧ Below wr.heap.size wr wI := ⟨range_keep T1.1 qI, T1.2.trans (qI.mono (Nat.le_refl _))⟩
          obtain ⟨gI, cI, rfl, _, _, _⟩ := rI.form
          have S2 := sum_one (V : Int) rI.slice (fun b hb => (rI.block b hb).2) HBT.out (by omega) (HD.out.low hb1 (HB2.out _ T2.2))
          rw [HHH.out] at S2
          have HS2 := Lib.hid S2
          have T3 : (wI.alloc (.cells #[.slice (some ⟨gI, 0, none⟩) T.length cI] 29 (0, 0))).rangeAt wB.heap.size 0 (H.map u8c) ∧ Below wr.heap.size wr (wI.alloc (.cells #[.slice (some ⟨gI, 0, none⟩) T.length cI] 29 (0, 0))) := ⟨World.rangeAt_alloc T2.1 _, T2.2.alloc T2.2.size _⟩
          clear qI rI S2 RW
          refine ⟨T2, ?_⟩
          refine anyH_one (i := 4) (by kernel_rfl) rfl ?_
          go_wp2_with fail
          refine ⟨T3, ?_⟩
          refine anyH_one (i := 5) (by kernel_rfl) rfl ?_
          go_wp2_with (go_at_call 17; (with_reducible refine HS2.out.mono ?_); rintro e wJ ⟨rfl, qJ⟩)
          have T4 : wJ.rangeAt wB.heap.size 0 (H.map u8c) ∧ Below wr.heap.size wr wJ := ⟨range_keep T2.1 qJ, T2.2.trans (qJ.mono T2.2.size)⟩
          clear qJ HS2 T3 T2
          refine ⟨T4, ?_⟩
          refine anyH_one (i := 6) (by kernel_rfl) rfl ?_
          go_wp2_with fail
          refine ⟨T4, ?_⟩
          refine anyH_one (i := 7) (by kernel_rfl) rfl ?_
          go_wp2_with fail
          refine ⟨T4, ?_⟩
          have AW := Lib.hid (awake2_any (HD.out.low hb1 (HB2.out _ T4.2)))
          refine anyH_one (i := 8) (by kernel_rfl) rfl ?_
          go_wp2_with (go_at_call 14; (with_reducible refine AW.out.mono ?_); rintro e wK ⟨rfl, qK⟩)
          have T5 : wK.rangeAt wB.heap.size 0 (H.map u8c) ∧ Below wr.heap.size wr wK := ⟨range_keep T4.1 qK, T4.2.trans (qK.mono T4.2.size)⟩
          refine ⟨T5, ?_⟩
          refine anyH_one (i := 9) (by kernel_rfl) rfl ?_
          go_wp2_with fail
          refine ⟨T5, ?_⟩
          refine anyH_one (i := 10) (by kernel_rfl) rfl ?_
          go_wp2_with fail
          refine ⟨T5, wpAnyH_done (by kernel_rfl) ?_ _⟩
          go_wp2_with fail
          go_ret
          exact ⟨rfl, HB2.out _ T5.2⟩
end Go.Proofs.YtcifnfffoiiceaaDoor
