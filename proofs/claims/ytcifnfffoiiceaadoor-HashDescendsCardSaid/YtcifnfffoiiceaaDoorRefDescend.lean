/-
  The walk of massifref2.Descend.
-/
import Derived.Test.YtcifnfffoiiceaaDoorDescends
import Derived.Test.YtcifnfffoiiceaaDoorRefText
import Derived.Test.YtcifnfffoiiceaaDoorRow2
namespace Go.Proofs.YtcifnfffoiiceaaDoor
open Go.RowKit
set_option linter.unusedVariables false
set_option pp.deepTerms true
set_option pp.maxSteps 1000000

theorem yields_build_st2 {ops : Array Oper} {S : World → Prop} {o : Oper} {a : Act} {x0 x1 x2 x3 : Operand} {A B C D : List Nat} (hw : Region.wanted o (yielded ops a.tmps) = true) (ho : o.op = .build 59 #[(0, x0), (1, x1), (2, x2), (3, x3)])
    (h0 : a.eval x0 = .agg (cellsOf' u8c A)) (h1 : a.eval x1 = .agg (cellsOf' u8c B)) (h2 : a.eval x2 = .agg (cellsOf' u8c C)) (h3 : a.eval x3 = .agg (cellsOf' u8c D)) (hA : A.length = 32) (hB : B.length = 32) (hC : C.length = 64) (hD : D.length = 64) :
    YieldsIf Tryd.prog ops S o (.agg (cellsOf' u8c (A ++ (B ++ (C ++ D))))) a := by
  refine .inl ⟨hw, fun w _ => ?_⟩
  unfold execOp
  rw [ho]
  simp only [List.map_toArray, List.map_cons, List.map_nil, h0, h1, h2, h3, Sem.run_bind, run_build_st2 w hA hB hC hD, Result.andThen_ok, Sem.run_pure]
theorem range_other {w : World} {b g o : Nat} {cs : Array Value} {C : List Value} (h : w.rangeAt b o C) (hne : b ≠ g) : (w.setRow g cs).rangeAt b o C := fun j v hv => ((TouchB.refl g w).setRow cs).cell (p := ⟨b, o + j, none⟩) (h j v hv) hne
set_option maxRecDepth 16000 in
set_option maxHeartbeats 40000000 in
theorem refDescend_any {wd : Int} {a b : List Nat} {va vb : Value} (W : World) (SA : SliceOf u8c W va a) (SB : SliceOf u8c W vb b) (ba : Bytes a) (bb : Bytes b) (la : a.length ≤ 100000) (lb : b.length ≤ 100000) :
    Calls Tryd.prog 43 #[.int .i64 wd, va, vb] W fun e w' => e = .returned (.tuple #[.agg (cellsOf' u8c (descN wd a b).1), .bool (descN wd a b).2]) ∧ Below W.heap.size W w' := by
  have HSA := Lib.hid (And.intro SA (And.intro ba la))
  have HSB := Lib.hid (And.intro SB (And.intro bb lb))
  obtain ⟨aA, cA, rfl, _⟩ := SA
  obtain ⟨aB, cB, rfl, _⟩ := SB
  have HS0 : Hid ((cellsOf' u8c zeroN).size = 192) := Lib.hid (by rw [co_size, zero_len])
  obtain ⟨rb, hrb⟩ : ∃ rb, W.heap.size = rb := ⟨_, rfl⟩
  have HRB := Lib.hid hrb
  obtain ⟨w1, hw1⟩ : ∃ w1, W.alloc (.cells (cellsOf' u8c zeroN) 59 (0, 0)) = w1 := ⟨_, rfl⟩
  have G1 : w1.heap[rb]? = some (.cells (cellsOf' u8c zeroN) 59 (0, 0)) := by rw [← hw1, ← hrb, heap_alloc_new]
  have B1 : Below rb W w1 := by rw [← hw1, ← hrb]; exact (Below.refl _ _).alloc (Nat.le_refl _) _
  have Z1 : w1.heap.size = rb + 1 := by rw [← hw1, ← hrb]; simp
  have BE := sameBytes_any w1 (HSA.out.1.below (by rw [hrb]; exact B1)) (HSB.out.1.below (by rw [hrb]; exact B1))
  obtain ⟨pe, hpe⟩ : ∃ p, decide (a = b) = p := ⟨_, rfl⟩
  rw [hpe] at BE
  have HBE := Lib.hid BE
  have HW1 := Lib.hid hw1
  have HG1 := Lib.hid G1
  have HB1 := Lib.hid B1
  have z1 : rb < w1.heap.size := by omega
  rw [hrb]
  clear BE G1 B1 Z1 hw1 ba bb la lb hrb
  have ZC : Hid (Tryd.zeroCells59 = cellsOf' u8c zeroN) := Lib.hid (by kernel_rfl)
  go_enter Tryd.func43, Tryd.ntmps43
  go_wp2_with fail
  rw [ZC.out, HW1.out, HRB.out]
  refine HBE.out.mono ?_
  rintro e w2 ⟨rfl, q2⟩
  have B2 := HB1.out.trans (q2.mono (Nat.le_of_lt z1))
  have G2 := (q2.block rb z1).trans HG1.out
  have z2 : rb < w2.heap.size := Nat.lt_of_lt_of_le z1 q2.size
  have HG2 := Lib.hid G2
  clear q2 G2 HBE
  rcases pe with _ | _
  · have hne : ¬ a = b := of_decide_eq_false hpe
    have BA := Lib.hid (Blocks_any w2 (HSA.out.1.below (by rw [HRB.out]; exact B2)) HSA.out.2.2)
    clear hpe
    go_wp2_with fail
    refine BA.out.mono ?_
    rintro e w3 ⟨x1, rfl, V1, q3⟩
    have B3 := B2.trans (q3.mono (Nat.le_of_lt z2))
    have G3 := (q3.block rb z2).trans HG2.out
    have z3 : rb < w3.heap.size := Nat.lt_of_lt_of_le z2 q3.size
    have BB := Lib.hid (Blocks_any w3 (HSB.out.1.below (by rw [HRB.out]; exact B3)) HSB.out.2.2)
    have HV1 := Lib.hid V1
    clear q3 B2 BA V1
    go_wp2_with fail
    refine BB.out.mono ?_
    rintro e w4 ⟨x2, rfl, V2, q4⟩
    have B4 := B3.trans (q4.mono (Nat.le_of_lt z3))
    have G4 := (q4.block rb z3).trans G3
    have z4 : rb < w4.heap.size := Nat.lt_of_lt_of_le z3 q4.size
    have HV1' := Lib.hid (HV1.out.below q4)
    have HV2 := Lib.hid V2
    have SS1 := Lib.hid (States_any (wd := wd) w4 HV1'.out HSA.out.2.1 HSA.out.2.2)
    clear q4 B3 G3 BB V2 HV1
    go_wp2_with fail
    refine SS1.out.mono ?_
    rintro e w5 ⟨y1, rfl, U1, q5⟩
    have B5 := B4.trans (q5.mono (Nat.le_of_lt z4))
    have G5 := (q5.block rb z4).trans G4
    have z5 : rb < w5.heap.size := Nat.lt_of_lt_of_le z4 q5.size
    have HV1 := Lib.hid (HV1'.out.below q5)
    have HV2' := Lib.hid (HV2.out.below q5)
    have HU1 := Lib.hid U1
    have SS2 := Lib.hid (States_any (wd := wd) w5 HV2'.out HSB.out.2.1 HSB.out.2.2)
    clear q5 B4 G4 SS1 U1 HV1' HV2
    go_wp2_with fail
    refine SS2.out.mono ?_
    rintro e w6 ⟨y2, rfl, U2, q6⟩
    have B6 := B5.trans (q6.mono (Nat.le_of_lt z5))
    have G6 := (q6.block rb z5).trans G5
    have z6 : rb < w6.heap.size := Nat.lt_of_lt_of_le z5 q6.size
    obtain ⟨ap, capp, rfl, k1, _, f1⟩ := (HV1.out.below q6).form
    obtain ⟨aq, capq, rfl, k2, _, f2⟩ := (HV2'.out.below q6).form
    obtain ⟨as_, caps, rfl, k3, _, f3⟩ := (HU1.out.below q6).form
    obtain ⟨at_, capt, rfl, k4, _, f4⟩ := U2.form
    obtain ⟨gp, rfl, ogp, gpl, _⟩ := f1 _ _ (blocks_get (count_pos a))
    obtain ⟨gq, rfl, ogq, gql, _⟩ := f2 _ _ (blocks_get (count_pos b))
    obtain ⟨gs, rfl, ogs, gsl, _⟩ := f3 _ _ (states_get (Nat.zero_le _))
    obtain ⟨gt, rfl, ogt, gtl, _⟩ := f4 _ _ (states_get (Nat.zero_le _))
    have NR := Lib.hid (show gs ≠ rb ∧ gt ≠ rb ∧ gp ≠ rb ∧ gq ≠ rb from ⟨by omega, by omega, by omega, by omega⟩)
    have R1 : Hid (∀ i, i < countN a → w6.rangeAt gp (i * 64) ((chunk (textN a) i).map u8c)) := Lib.hid fun i hi => by obtain ⟨g, e, _, _, r⟩ := f1 _ _ (blocks_get hi); cases e; exact r
    have R2 : Hid (∀ i, i < countN b → w6.rangeAt gq (i * 64) ((chunk (textN b) i).map u8c)) := Lib.hid fun i hi => by obtain ⟨g, e, _, _, r⟩ := f2 _ _ (blocks_get hi); cases e; exact r
    have R3 : Hid (∀ i, i ≤ countN a → w6.rangeAt gs (i * 32) ((stateN wd (textN a) i).map u8c)) := Lib.hid fun i hi => by obtain ⟨g, e, _, _, r⟩ := f3 _ _ (states_get hi); cases e; exact r
    have R4 : Hid (∀ i, i ≤ countN b → w6.rangeAt gt (i * 32) ((stateN wd (textN b) i).map u8c)) := Lib.hid fun i hi => by obtain ⟨g, e, _, _, r⟩ := f4 _ _ (states_get hi); cases e; exact r
    rw [blocks_len] at k1 k2
    rw [states_len] at k3 k4
    rw [blocks_len, blocks_len, states_len, states_len]
    have CA := count_le a
    have CB := count_le b
    have LA := HSA.out.2.2
    have LB := HSB.out.2.2
    have S1e := sum_text wd a
    have S2e := sum_text wd b
    have LE : Hid (min (countN a) (countN b) = leastN a b) := Lib.hid rfl
    obtain ⟨ca, hca⟩ : ∃ c, countN a = c := ⟨_, rfl⟩
    obtain ⟨cb, hcb⟩ : ∃ c, countN b = c := ⟨_, rfl⟩
    obtain ⟨m, hm⟩ : ∃ m, leastN a b = m := ⟨_, rfl⟩
    rw [hca] at R1 R3 CA k1 k3 LE S1e
    rw [hcb] at R2 R4 CB k2 k4 LE S2e
    rw [hm] at LE
    rw [hca, hcb]
    obtain ⟨S1, hS1⟩ : ∃ S, stateN wd (textN a) ca = S := ⟨_, rfl⟩
    obtain ⟨S2, hS2⟩ : ∃ S, stateN wd (textN b) cb = S := ⟨_, rfl⟩
    have ls1 : S1.length = 32 := by rw [← hS1]; exact state_len _ _ _
    have ls2 : S2.length = 32 := by rw [← hS2]; exact state_len _ _ _
    have t1 := R3.out ca (Nat.le_refl _)
    have t2 := R4.out cb (Nat.le_refl _)
    rw [hS1] at t1 S1e
    rw [hS2] at t2 S2e
    obtain ⟨ps, hps⟩ : ∃ p, decide (S1 = S2) = p := ⟨_, rfl⟩
    have EA : Hid (∀ w, (Op.equalIn 10000 23 (.agg (cellsOf' u8c S1)) (.agg (cellsOf' u8c S2))).run Tryd.prog w = .ok ps w) := Lib.hid fun w => by rw [run_eql_h w ls1 ls2, hps]
    have HSE := Lib.hid (And.intro S1e S2e)
    have HCM := Lib.hid (And.intro hca (And.intro hcb hm))
    have cai : (ca : Int) ≤ 100002 := by omega
    have cbi : (cb : Int) ≤ 100002 := by omega
    have zS1 : (Tryd.prog.info? 23).map (·.size) = some (S1.map u8c).length := by rw [List.length_map, ls1]; exact size_32
    have zS2 : (Tryd.prog.info? 23).map (·.size) = some (S2.map u8c).length := by rw [List.length_map, ls2]; exact size_32
    have cp : 0 < ca := by rw [← hca]; exact count_pos a
    have cq : 0 < cb := by rw [← hcb]; exact count_pos b
    have T0 : w6.drew.rangeAt gs (0 + ca * 32) (S1.map u8c) ∧ w6.drew.rangeAt gt (0 + cb * 32) (S2.map u8c) := by rw [Nat.zero_add, Nat.zero_add]; exact ⟨(World.rangeAt_drew _ _ _ _).2 t1, (World.rangeAt_drew _ _ _ _).2 t2⟩
    have HG6 := Lib.hid G6
    have HB6 := Lib.hid B6
    clear hca hcb hm CA CB LA LB q6 G5 B5 f1 f2 f3 f4 U2 k1 k2 k3 k4 t1 t2 G6 B6 S1e S2e hS1 hS2 SS2
    go_wp2_with fail
    · refine wp_region_held (S := fun w => w.rangeAt gs (0 + ca * 32) (S1.map u8c) ∧ w.rangeAt gt (0 + cb * 32) (S2.map u8c)) (by kernel_rfl) ?_
      change wpAnyH _ _ _ _ _ _ _ _ (World.drew _)
      refine anyH_take (i := 0) (d := 28) (v := (.slice (some ⟨gs, 0, none⟩) (ca + 1) caps)) rfl rfl (by kernel_rfl) (by kernel_rfl) (by kernel_rfl) (fun _ _ _ h => h) (Or.inl ⟨by kernel_rfl, fun w _ => by kernel_rfl⟩) T0 ?_
      refine anyH_take (i := 1) (d := 29) (v := (.slice (some ⟨gp, 0, none⟩) ca capp)) rfl rfl (by kernel_rfl) (by kernel_rfl) (by kernel_rfl) (fun _ _ _ h => h) (Or.inl ⟨by kernel_rfl, fun w _ => by kernel_rfl⟩) T0 ?_
      refine anyH_take (i := 2) (d := 30) (v := .int .i64 (ca : Int)) rfl rfl (by kernel_rfl) (by kernel_rfl) (by kernel_rfl) (fun _ _ _ h => h) (Or.inl ⟨by kernel_rfl, fun w _ => by go_simp⟩) T0 ?_
      refine anyH_take (i := 3) (d := 31) (v := .pointer (some ⟨gs, 0 + ca * 32, none⟩)) rfl rfl (by kernel_rfl) (by kernel_rfl) (by kernel_rfl) (fun _ _ _ h => h) (yields_index (by kernel_rfl) rfl (n := ca + 1) (cap := caps) (by kernel_rfl) (ki := .i64) (by kernel_rfl) Tryd.underlying78 size_32 (Nat.lt_succ_self ca)) T0 ?_
      refine anyH_take (i := 4) (d := 32) (v := .agg (cellsOf' u8c S1)) rfl rfl (by kernel_rfl) (by kernel_rfl) (by kernel_rfl) (fun _ _ _ h => h) (yieldsIf_load_mid (by kernel_rfl) 23 (.tmp 31) rfl gs (0 + ca * 32) (by kernel_rfl) (S1.map u8c) _ (fun w h => h.1) Tryd.underlying23 rfl zS1) T0 ?_
      refine anyH_take (i := 5) (d := 33) (v := (.slice (some ⟨gt, 0, none⟩) (cb + 1) capt)) rfl rfl (by kernel_rfl) (by kernel_rfl) (by kernel_rfl) (fun _ _ _ h => h) (Or.inl ⟨by kernel_rfl, fun w _ => by kernel_rfl⟩) T0 ?_
      refine anyH_take (i := 6) (d := 34) (v := (.slice (some ⟨gq, 0, none⟩) cb capq)) rfl rfl (by kernel_rfl) (by kernel_rfl) (by kernel_rfl) (fun _ _ _ h => h) (Or.inl ⟨by kernel_rfl, fun w _ => by kernel_rfl⟩) T0 ?_
      refine anyH_take (i := 7) (d := 35) (v := .int .i64 (cb : Int)) rfl rfl (by kernel_rfl) (by kernel_rfl) (by kernel_rfl) (fun _ _ _ h => h) (Or.inl ⟨by kernel_rfl, fun w _ => by go_simp⟩) T0 ?_
      refine anyH_take (i := 8) (d := 36) (v := .pointer (some ⟨gt, 0 + cb * 32, none⟩)) rfl rfl (by kernel_rfl) (by kernel_rfl) (by kernel_rfl) (fun _ _ _ h => h) (yields_index (by kernel_rfl) rfl (n := cb + 1) (cap := capt) (by kernel_rfl) (ki := .i64) (by kernel_rfl) Tryd.underlying78 size_32 (Nat.lt_succ_self cb)) T0 ?_
      refine anyH_take (i := 9) (d := 37) (v := .agg (cellsOf' u8c S2)) rfl rfl (by kernel_rfl) (by kernel_rfl) (by kernel_rfl) (fun _ _ _ h => h) (yieldsIf_load_mid (by kernel_rfl) 23 (.tmp 36) rfl gt (0 + cb * 32) (by kernel_rfl) (S2.map u8c) _ (fun w h => h.2) Tryd.underlying23 rfl zS2) T0 ?_
      refine anyH_take (i := 10) (d := 38) (v := .bool (!ps)) rfl rfl (by kernel_rfl) (by kernel_rfl) (by kernel_rfl) (fun _ _ _ h => h) (yields_neA (by kernel_rfl) rfl (X := cellsOf' u8c S1) (Y := cellsOf' u8c S2) (by kernel_rfl) (by kernel_rfl) guard_h EA.out) T0 ?_
      refine wpAnyH_done (by kernel_rfl) ?_ _
      simp only [Act.put, List.setIfInBounds_toArray, List.set_cons_succ, List.set_cons_zero]
      have HGd : Hid (w6.drew.heap[rb]? = some (.cells (cellsOf' u8c zeroN) 59 (0, 0))) := Lib.hid HG6.out
      rcases ps with _ | _
      · have HE : Hid (descN wd a b = (zeroN, false)) := Lib.hid (desc_off (.inr (by rw [HSE.out.1, HSE.out.2]; exact of_decide_eq_false hps)))
        clear hps T0
        go_wp2_with (first
          | (with_reducible refine wpList_store_row rfl 59 _ _ rfl rb (cellsOf' u8c zeroN) (by kernel_rfl) (by kernel_rfl) 59 _ HGd.out (by rw [HS0.out]; exact size_st) (by rw [HS0.out]) (co_one u8c_one) ?_))
        refine bodyPost_ret (results_step rfl _ _ rb _ rfl (st_row (setRow_heap _ _ _ _ _ _ HGd.out) zero_len) rfl) rfl ⟨by rw [HE.out]; rfl, below_setRow HB6.out.drew (Nat.le_refl _) _⟩
      · have HNE : Hid (¬ (a = b ∨ sumN wd a ≠ sumN wd b)) := Lib.hid (by
          rw [HSE.out.1, HSE.out.2]
          rintro (h | h)
          · exact hne h
          · exact h (of_decide_eq_true hps))
        have mca : m ≤ ca := by have := LE.out; omega
        have mcb : m ≤ cb := by have := LE.out; omega
        have b6 : Below w6.heap.size w6 w6.drew := (Below.refl _ _).drew
        clear hps T0 hne
        go_wp2_with fail
        go_loopw [12, 13] (fun i j wr => ∃ k : Nat, k ≤ m ∧ i = .int .i64 ((ca : Int) - 1 - (k : Int)) ∧ j = .int .i64 ((cb : Int) - 1 - (k : Int)) ∧ (∀ n, n < k → unlikeN wd a b n = false) ∧ Below w6.heap.size w6 wr) (fun i _ _ => (intOf i + 1).toNat)
        case atStart => exact ⟨0, by omega, by simp, by simp, fun k hk => absurd hk (by omega), b6⟩
        case round =>
          obtain ⟨k, hk, rfl, rfl, hlike, qk⟩ := hrel
          clear b6
          have HL := Lib.hid hlike
          have HQK := Lib.hid qk
          have GR := Lib.hid ((qk.block rb z6).trans HG6.out)
          have BR := Lib.hid (HB6.out.trans (qk.mono (Nat.le_of_lt z6)))
          by_cases hlt : k < m
          · obtain ⟨ia, hia⟩ : ∃ ia, ca - (k + 1) = ia := ⟨_, rfl⟩
            obtain ⟨ib, hib⟩ : ∃ ib, cb - (k + 1) = ib := ⟨_, rfl⟩
            obtain ⟨sa, hsa⟩ : ∃ s, stB wd a k = s := ⟨_, rfl⟩
            obtain ⟨sb, hsb⟩ : ∃ s, stB wd b k = s := ⟨_, rfl⟩
            obtain ⟨ka, hka⟩ : ∃ s, bkB a k = s := ⟨_, rfl⟩
            obtain ⟨kb, hkb⟩ : ∃ s, bkB b k = s := ⟨_, rfl⟩
            have t1 := below_range qk gsl (R3.out ia (by omega))
            have t2 := below_range qk gtl (R4.out ib (by omega))
            have t3 := below_range qk gpl (R1.out ia (by omega))
            have t4 := below_range qk gql (R2.out ib (by omega))
            rw [show stateN wd (textN a) ia = sa by rw [← hsa]; unfold stB; rw [HCM.out.1, hia]] at t1
            rw [show stateN wd (textN b) ib = sb by rw [← hsb]; unfold stB; rw [HCM.out.2.1, hib]] at t2
            rw [show chunk (textN a) ia = ka by rw [← hka]; unfold bkB; rw [HCM.out.1, hia]] at t3
            rw [show chunk (textN b) ib = kb by rw [← hkb]; unfold bkB; rw [HCM.out.2.1, hib]] at t4
            have lsa : sa.length = 32 := by rw [← hsa]; exact st_len' _ _ _
            have lsb : sb.length = 32 := by rw [← hsb]; exact st_len' _ _ _
            have lka : ka.length = 64 := by rw [← hka]; exact bk_len (by rw [HCM.out.1]; omega)
            have lkb : kb.length = 64 := by rw [← hkb]; exact bk_len (by rw [HCM.out.2.1]; omega)
            have eia : (ca : Int) - 1 - (k : Int) = (ia : Int) := by omega
            have eib : (cb : Int) - 1 - (k : Int) = (ib : Int) := by omega
            have ial : ia < ca := by omega
            have ibl : ib < cb := by omega
            have iai : (ia : Int) ≤ 100002 := by omega
            have ibi : (ib : Int) ≤ 100002 := by omega
            have HEi := Lib.hid (show (ia : Int) - 1 = (ca : Int) - 1 - ((k + 1 : Nat) : Int) ∧ (ib : Int) - 1 = (cb : Int) - 1 - ((k + 1 : Nat) : Int) from ⟨by omega, by omega⟩)
            have HSK := Lib.hid (And.intro hsa (And.intro hsb (And.intro hka hkb)))
            have HLK := Lib.hid (And.intro lsa (And.intro lsb (And.intro lka lkb)))
            have zSa : (Tryd.prog.info? 23).map (·.size) = some (sa.map u8c).length := by rw [List.length_map, lsa]; exact size_32
            have zSb : (Tryd.prog.info? 23).map (·.size) = some (sb.map u8c).length := by rw [List.length_map, lsb]; exact size_32
            have zKa : (Tryd.prog.info? 24).map (·.size) = some (ka.map u8c).length := by rw [List.length_map, lka]; exact size_64
            have zKb : (Tryd.prog.info? 24).map (·.size) = some (kb.map u8c).length := by rw [List.length_map, lkb]; exact size_64
            have sl : Hid ((sa ++ (sb ++ (ka ++ kb))).length = 192) := Lib.hid (by simp only [List.length_append, lsa, lsb, lka, lkb])
            have cs : Hid ((cellsOf' u8c (sa ++ (sb ++ (ka ++ kb)))).size = 192) := Lib.hid (by rw [co_size, sl.out])
            have T0 : wr.drew.rangeAt gs (0 + ia * 32) (sa.map u8c) ∧ wr.drew.rangeAt gt (0 + ib * 32) (sb.map u8c) ∧ wr.drew.rangeAt gp (0 + ia * 64) (ka.map u8c) ∧ wr.drew.rangeAt gq (0 + ib * 64) (kb.map u8c) := by
              simp only [Nat.zero_add]
              exact ⟨(World.rangeAt_drew _ _ _ _).2 t1, (World.rangeAt_drew _ _ _ _).2 t2, (World.rangeAt_drew _ _ _ _).2 t3, (World.rangeAt_drew _ _ _ _).2 t4⟩
            have T1 : wr.drew.drew.rangeAt gs (0 + ia * 32) (sa.map u8c) ∧ wr.drew.drew.rangeAt gt (0 + ib * 32) (sb.map u8c) ∧ wr.drew.drew.rangeAt gp (0 + ia * 64) (ka.map u8c) ∧ wr.drew.drew.rangeAt gq (0 + ib * 64) (kb.map u8c) := ⟨(World.rangeAt_drew _ _ _ _).2 T0.1, (World.rangeAt_drew _ _ _ _).2 T0.2.1, (World.rangeAt_drew _ _ _ _).2 T0.2.2.1, (World.rangeAt_drew _ _ _ _).2 T0.2.2.2⟩
            obtain ⟨p1, hp1⟩ : ∃ p, decide (sa = sb) = p := ⟨_, rfl⟩
            obtain ⟨p2, hp2⟩ : ∃ p, decide (ka = kb) = p := ⟨_, rfl⟩
            have E1 : Hid (∀ w, (Op.equalIn 10000 23 (.agg (cellsOf' u8c sa)) (.agg (cellsOf' u8c sb))).run Tryd.prog w = .ok p1 w) := Lib.hid fun w => by rw [run_eql_h w lsa lsb, hp1]
            have E2 : Hid (∀ w, (Op.equalIn 10000 24 (.agg (cellsOf' u8c ka)) (.agg (cellsOf' u8c kb))).run Tryd.prog w = .ok p2 w) := Lib.hid fun w => by rw [run_eql_b w lka lkb, hp2]
            have HU : Hid (unlikeN wd a b k = !(p1 && p2)) := Lib.hid (by unfold unlikeN; rw [hsa, hsb, hka, hkb, ← hp1, ← hp2, decide_not, Bool.decide_and])
            rw [eia, eib]
            clear hsa hsb hka hkb lsa lsb lka lkb hia hib t1 t2 t3 t4 hlike qk eia eib hp1 hp2
            rcases p1 with _ | _
            · have HE0 : Hid (unlikeN wd a b k = true) := Lib.hid HU.out
              have HE : Hid (descN wd a b = (sa ++ (sb ++ (ka ++ kb)), true)) := Lib.hid (by rw [desc_hit HNE.out (by rw [HCM.out.2.2]; exact hlt) HE0.out HL.out]; unfold stepN; rw [HSK.out.1, HSK.out.2.1, HSK.out.2.2.1, HSK.out.2.2.2])
              go_wp2_with fail
              refine wp_region_held (S := fun w => w.rangeAt gs (0 + ia * 32) (sa.map u8c) ∧ w.rangeAt gt (0 + ib * 32) (sb.map u8c) ∧ w.rangeAt gp (0 + ia * 64) (ka.map u8c) ∧ w.rangeAt gq (0 + ib * 64) (kb.map u8c)) (by kernel_rfl) ?_
              change wpAnyH _ _ _ _ _ _ _ _ (World.drew _)
              refine anyH_take (i := 0) (d := 56) (v := (.slice (some ⟨gs, 0, none⟩) (ca + 1) caps)) rfl rfl (by kernel_rfl) (by kernel_rfl) (by kernel_rfl) (fun _ _ _ h => h) (Or.inl ⟨by kernel_rfl, fun w _ => by kernel_rfl⟩) T0 ?_
              refine anyH_take (i := 1) (d := 57) (v := .int .i64 (ia : Int)) rfl rfl (by kernel_rfl) (by kernel_rfl) (by kernel_rfl) (fun _ _ _ h => h) (Or.inl ⟨by kernel_rfl, fun w _ => by kernel_rfl⟩) T0 ?_
              refine anyH_take (i := 2) (d := 58) (v := .pointer (some ⟨gs, 0 + ia * 32, none⟩)) rfl rfl (by kernel_rfl) (by kernel_rfl) (by kernel_rfl) (fun _ _ _ h => h) (yields_index (by kernel_rfl) rfl (n := ca + 1) (cap := caps) (by kernel_rfl) (ki := .i64) (by kernel_rfl) Tryd.underlying78 size_32 (by omega)) T0 ?_
              refine anyH_take (i := 3) (d := 59) (v := .agg (cellsOf' u8c sa)) rfl rfl (by kernel_rfl) (by kernel_rfl) (by kernel_rfl) (fun _ _ _ h => h) (yieldsIf_load_mid (by kernel_rfl) 23 (.tmp 58) rfl gs (0 + ia * 32) (by kernel_rfl) (sa.map u8c) _ (fun w h => h.1) Tryd.underlying23 rfl zSa) T0 ?_
              refine anyH_take (i := 4) (d := 60) (v := (.slice (some ⟨gt, 0, none⟩) (cb + 1) capt)) rfl rfl (by kernel_rfl) (by kernel_rfl) (by kernel_rfl) (fun _ _ _ h => h) (Or.inl ⟨by kernel_rfl, fun w _ => by kernel_rfl⟩) T0 ?_
              refine anyH_take (i := 5) (d := 61) (v := .int .i64 (ib : Int)) rfl rfl (by kernel_rfl) (by kernel_rfl) (by kernel_rfl) (fun _ _ _ h => h) (Or.inl ⟨by kernel_rfl, fun w _ => by kernel_rfl⟩) T0 ?_
              refine anyH_take (i := 6) (d := 62) (v := .pointer (some ⟨gt, 0 + ib * 32, none⟩)) rfl rfl (by kernel_rfl) (by kernel_rfl) (by kernel_rfl) (fun _ _ _ h => h) (yields_index (by kernel_rfl) rfl (n := cb + 1) (cap := capt) (by kernel_rfl) (ki := .i64) (by kernel_rfl) Tryd.underlying78 size_32 (by omega)) T0 ?_
              refine anyH_take (i := 7) (d := 63) (v := .agg (cellsOf' u8c sb)) rfl rfl (by kernel_rfl) (by kernel_rfl) (by kernel_rfl) (fun _ _ _ h => h) (yieldsIf_load_mid (by kernel_rfl) 23 (.tmp 62) rfl gt (0 + ib * 32) (by kernel_rfl) (sb.map u8c) _ (fun w h => h.2.1) Tryd.underlying23 rfl zSb) T0 ?_
              refine anyH_take (i := 8) (d := 64) (v := .bool (!false)) rfl rfl (by kernel_rfl) (by kernel_rfl) (by kernel_rfl) (fun _ _ _ h => h) (yields_neA (by kernel_rfl) rfl (X := cellsOf' u8c sa) (Y := cellsOf' u8c sb) (by kernel_rfl) (by kernel_rfl) guard_h E1.out) T0 ?_
              refine anyH_take (i := 9) (d := 65) (v := .bool true) rfl rfl (by kernel_rfl) (by kernel_rfl) (by kernel_rfl) (fun _ _ _ h => h) (Or.inl ⟨by kernel_rfl, fun w _ => by kernel_rfl⟩) T0 ?_
              refine anyH_take (i := 10) (d := 66) (v := undef) rfl rfl (by kernel_rfl) (by kernel_rfl) (by kernel_rfl) (fun _ _ _ h => h) (Or.inr ⟨by kernel_rfl, rfl⟩) T0 ?_
              refine anyH_take (i := 11) (d := 67) (v := undef) rfl rfl (by kernel_rfl) (by kernel_rfl) (by kernel_rfl) (fun _ _ _ h => h) (Or.inr ⟨by kernel_rfl, rfl⟩) T0 ?_
              refine anyH_take (i := 12) (d := 68) (v := undef) rfl rfl (by kernel_rfl) (by kernel_rfl) (by kernel_rfl) (fun _ _ _ h => h) (Or.inr ⟨by kernel_rfl, rfl⟩) T0 ?_
              refine anyH_take (i := 13) (d := 69) (v := undef) rfl rfl (by kernel_rfl) (by kernel_rfl) (by kernel_rfl) (fun _ _ _ h => h) (Or.inr ⟨by kernel_rfl, rfl⟩) T0 ?_
              refine anyH_take (i := 14) (d := 70) (v := undef) rfl rfl (by kernel_rfl) (by kernel_rfl) (by kernel_rfl) (fun _ _ _ h => h) (Or.inr ⟨by kernel_rfl, rfl⟩) T0 ?_
              refine anyH_take (i := 15) (d := 71) (v := undef) rfl rfl (by kernel_rfl) (by kernel_rfl) (by kernel_rfl) (fun _ _ _ h => h) (Or.inr ⟨by kernel_rfl, rfl⟩) T0 ?_
              refine anyH_take (i := 16) (d := 72) (v := undef) rfl rfl (by kernel_rfl) (by kernel_rfl) (by kernel_rfl) (fun _ _ _ h => h) (Or.inr ⟨by kernel_rfl, rfl⟩) T0 ?_
              refine anyH_take (i := 17) (d := 73) (v := undef) rfl rfl (by kernel_rfl) (by kernel_rfl) (by kernel_rfl) (fun _ _ _ h => h) (Or.inr ⟨by kernel_rfl, rfl⟩) T0 ?_
              refine anyH_take (i := 18) (d := 74) (v := undef) rfl rfl (by kernel_rfl) (by kernel_rfl) (by kernel_rfl) (fun _ _ _ h => h) (Or.inr ⟨by kernel_rfl, rfl⟩) T0 ?_
              refine anyH_take (i := 19) (d := 75) (v := .bool true) rfl rfl (by kernel_rfl) (by kernel_rfl) (by kernel_rfl) (fun _ _ _ h => h) (Or.inl ⟨by kernel_rfl, fun w _ => by kernel_rfl⟩) T0 ?_
              refine wpAnyH_done (by kernel_rfl) ?_ _
              simp only [Act.put, List.setIfInBounds_toArray, List.set_cons_succ, List.set_cons_zero]
              clear T0
              go_wp2_with fail
              refine wp_region_held (S := fun w => w.rangeAt gs (0 + ia * 32) (sa.map u8c) ∧ w.rangeAt gt (0 + ib * 32) (sb.map u8c) ∧ w.rangeAt gp (0 + ia * 64) (ka.map u8c) ∧ w.rangeAt gq (0 + ib * 64) (kb.map u8c)) (by kernel_rfl) ?_
              change wpAnyH _ _ _ _ _ _ _ _ (World.drew _)
              refine anyH_take (i := 0) (d := 76) (v := (.slice (some ⟨gs, 0, none⟩) (ca + 1) caps)) rfl rfl (by kernel_rfl) (by kernel_rfl) (by kernel_rfl) (fun _ _ _ h => h) (Or.inl ⟨by kernel_rfl, fun w _ => by kernel_rfl⟩) T1 ?_
              refine anyH_take (i := 1) (d := 77) (v := .int .i64 (ia : Int)) rfl rfl (by kernel_rfl) (by kernel_rfl) (by kernel_rfl) (fun _ _ _ h => h) (Or.inl ⟨by kernel_rfl, fun w _ => by kernel_rfl⟩) T1 ?_
              refine anyH_take (i := 2) (d := 78) (v := .pointer (some ⟨gs, 0 + ia * 32, none⟩)) rfl rfl (by kernel_rfl) (by kernel_rfl) (by kernel_rfl) (fun _ _ _ h => h) (yields_index (by kernel_rfl) rfl (n := ca + 1) (cap := caps) (by kernel_rfl) (ki := .i64) (by kernel_rfl) Tryd.underlying78 size_32 (by omega)) T1 ?_
              refine anyH_take (i := 3) (d := 79) (v := .agg (cellsOf' u8c sa)) rfl rfl (by kernel_rfl) (by kernel_rfl) (by kernel_rfl) (fun _ _ _ h => h) (yieldsIf_load_mid (by kernel_rfl) 23 (.tmp 78) rfl gs (0 + ia * 32) (by kernel_rfl) (sa.map u8c) _ (fun w h => h.1) Tryd.underlying23 rfl zSa) T1 ?_
              refine anyH_take (i := 4) (d := 80) (v := (.slice (some ⟨gt, 0, none⟩) (cb + 1) capt)) rfl rfl (by kernel_rfl) (by kernel_rfl) (by kernel_rfl) (fun _ _ _ h => h) (Or.inl ⟨by kernel_rfl, fun w _ => by kernel_rfl⟩) T1 ?_
              refine anyH_take (i := 5) (d := 81) (v := .int .i64 (ib : Int)) rfl rfl (by kernel_rfl) (by kernel_rfl) (by kernel_rfl) (fun _ _ _ h => h) (Or.inl ⟨by kernel_rfl, fun w _ => by kernel_rfl⟩) T1 ?_
              refine anyH_take (i := 6) (d := 82) (v := .pointer (some ⟨gt, 0 + ib * 32, none⟩)) rfl rfl (by kernel_rfl) (by kernel_rfl) (by kernel_rfl) (fun _ _ _ h => h) (yields_index (by kernel_rfl) rfl (n := cb + 1) (cap := capt) (by kernel_rfl) (ki := .i64) (by kernel_rfl) Tryd.underlying78 size_32 (by omega)) T1 ?_
              refine anyH_take (i := 7) (d := 83) (v := .agg (cellsOf' u8c sb)) rfl rfl (by kernel_rfl) (by kernel_rfl) (by kernel_rfl) (fun _ _ _ h => h) (yieldsIf_load_mid (by kernel_rfl) 23 (.tmp 82) rfl gt (0 + ib * 32) (by kernel_rfl) (sb.map u8c) _ (fun w h => h.2.1) Tryd.underlying23 rfl zSb) T1 ?_
              refine anyH_take (i := 8) (d := 84) (v := (.slice (some ⟨gp, 0, none⟩) ca capp)) rfl rfl (by kernel_rfl) (by kernel_rfl) (by kernel_rfl) (fun _ _ _ h => h) (Or.inl ⟨by kernel_rfl, fun w _ => by kernel_rfl⟩) T1 ?_
              refine anyH_take (i := 9) (d := 85) (v := .int .i64 (ia : Int)) rfl rfl (by kernel_rfl) (by kernel_rfl) (by kernel_rfl) (fun _ _ _ h => h) (Or.inl ⟨by kernel_rfl, fun w _ => by kernel_rfl⟩) T1 ?_
              refine anyH_take (i := 10) (d := 86) (v := .pointer (some ⟨gp, 0 + ia * 64, none⟩)) rfl rfl (by kernel_rfl) (by kernel_rfl) (by kernel_rfl) (fun _ _ _ h => h) (yields_index (by kernel_rfl) rfl (n := ca) (cap := capp) (by kernel_rfl) (ki := .i64) (by kernel_rfl) Tryd.underlying80 size_64 (by omega)) T1 ?_
              refine anyH_take (i := 11) (d := 87) (v := .agg (cellsOf' u8c ka)) rfl rfl (by kernel_rfl) (by kernel_rfl) (by kernel_rfl) (fun _ _ _ h => h) (yieldsIf_load_mid (by kernel_rfl) 24 (.tmp 86) rfl gp (0 + ia * 64) (by kernel_rfl) (ka.map u8c) _ (fun w h => h.2.2.1) Tryd.underlying24 rfl zKa) T1 ?_
              refine anyH_take (i := 12) (d := 88) (v := (.slice (some ⟨gq, 0, none⟩) cb capq)) rfl rfl (by kernel_rfl) (by kernel_rfl) (by kernel_rfl) (fun _ _ _ h => h) (Or.inl ⟨by kernel_rfl, fun w _ => by kernel_rfl⟩) T1 ?_
              refine anyH_take (i := 13) (d := 89) (v := .int .i64 (ib : Int)) rfl rfl (by kernel_rfl) (by kernel_rfl) (by kernel_rfl) (fun _ _ _ h => h) (Or.inl ⟨by kernel_rfl, fun w _ => by kernel_rfl⟩) T1 ?_
              refine anyH_take (i := 14) (d := 90) (v := .pointer (some ⟨gq, 0 + ib * 64, none⟩)) rfl rfl (by kernel_rfl) (by kernel_rfl) (by kernel_rfl) (fun _ _ _ h => h) (yields_index (by kernel_rfl) rfl (n := cb) (cap := capq) (by kernel_rfl) (ki := .i64) (by kernel_rfl) Tryd.underlying80 size_64 (by omega)) T1 ?_
              refine anyH_take (i := 15) (d := 91) (v := .agg (cellsOf' u8c kb)) rfl rfl (by kernel_rfl) (by kernel_rfl) (by kernel_rfl) (fun _ _ _ h => h) (yieldsIf_load_mid (by kernel_rfl) 24 (.tmp 90) rfl gq (0 + ib * 64) (by kernel_rfl) (kb.map u8c) _ (fun w h => h.2.2.2) Tryd.underlying24 rfl zKb) T1 ?_
              refine anyH_take (i := 16) (d := 92) (v := .agg (cellsOf' u8c (sa ++ (sb ++ (ka ++ kb))))) rfl rfl (by kernel_rfl) (by kernel_rfl) (by kernel_rfl) (fun _ _ _ h => h) (yields_build_st2 (by kernel_rfl) rfl (by kernel_rfl) (by kernel_rfl) (by kernel_rfl) (by kernel_rfl) HLK.out.1 HLK.out.2.1 HLK.out.2.2.1 HLK.out.2.2.2) T1 ?_
              refine anyH_one (i := 17) (by kernel_rfl) rfl ?_
              refine wpList_store_rowN rfl rfl 59 (.tmp 6) (.tmp 92) rfl rb (cellsOf' u8c (sa ++ (sb ++ (ka ++ kb)))) (by kernel_rfl) (by kernel_rfl) 59 _ GR.out (by rw [cs.out]; exact size_st) (by rw [cs.out, HS0.out]) (co_one u8c_one) ?_
              have G8 := setRow_heap wr.drew.drew rb _ (cellsOf' u8c (sa ++ (sb ++ (ka ++ kb)))) _ _ GR.out
              have B8 := below_setRow BR.out.drew.drew (Nat.le_refl rb) (cellsOf' u8c (sa ++ (sb ++ (ka ++ kb))))
              have T2 : (wr.drew.drew.setRow rb (cellsOf' u8c (sa ++ (sb ++ (ka ++ kb))))).rangeAt gs (0 + ia * 32) (sa.map u8c) ∧ (wr.drew.drew.setRow rb (cellsOf' u8c (sa ++ (sb ++ (ka ++ kb))))).rangeAt gt (0 + ib * 32) (sb.map u8c) ∧ (wr.drew.drew.setRow rb (cellsOf' u8c (sa ++ (sb ++ (ka ++ kb))))).rangeAt gp (0 + ia * 64) (ka.map u8c) ∧ (wr.drew.drew.setRow rb (cellsOf' u8c (sa ++ (sb ++ (ka ++ kb))))).rangeAt gq (0 + ib * 64) (kb.map u8c) := ⟨range_other T1.1 NR.out.1, range_other T1.2.1 NR.out.2.1, range_other T1.2.2.1 NR.out.2.2.1, range_other T1.2.2.2 NR.out.2.2.2⟩
              generalize wr.drew.drew.setRow rb (cellsOf' u8c (sa ++ (sb ++ (ka ++ kb)))) = w8 at *
              go_wp2_with fail
              refine ⟨T2, ?_⟩
              refine anyH_take (i := 18) (d := 7) (v := .bool true) rfl rfl (by kernel_rfl) (by kernel_rfl) (by kernel_rfl) (fun _ _ _ h => h) (Or.inl ⟨by kernel_rfl, fun w _ => by kernel_rfl⟩) T2 ?_
              refine wpAnyH_done (by kernel_rfl) ?_ _
              simp only [Act.put, List.setIfInBounds_toArray, List.set_cons_succ, List.set_cons_zero]
              go_wp2_with fail
              refine bodyPost_ret (results_step rfl _ _ rb _ rfl (st_row G8 sl.out) rfl) rfl ⟨by rw [HE.out]; rfl, B8⟩
            · rcases p2 with _ | _
              · have HE0 : Hid (unlikeN wd a b k = true) := Lib.hid HU.out
                have HE : Hid (descN wd a b = (sa ++ (sb ++ (ka ++ kb)), true)) := Lib.hid (by rw [desc_hit HNE.out (by rw [HCM.out.2.2]; exact hlt) HE0.out HL.out]; unfold stepN; rw [HSK.out.1, HSK.out.2.1, HSK.out.2.2.1, HSK.out.2.2.2])
                go_wp2_with fail
                refine wp_region_held (S := fun w => w.rangeAt gs (0 + ia * 32) (sa.map u8c) ∧ w.rangeAt gt (0 + ib * 32) (sb.map u8c) ∧ w.rangeAt gp (0 + ia * 64) (ka.map u8c) ∧ w.rangeAt gq (0 + ib * 64) (kb.map u8c)) (by kernel_rfl) ?_
                change wpAnyH _ _ _ _ _ _ _ _ (World.drew _)
                refine anyH_take (i := 0) (d := 56) (v := (.slice (some ⟨gs, 0, none⟩) (ca + 1) caps)) rfl rfl (by kernel_rfl) (by kernel_rfl) (by kernel_rfl) (fun _ _ _ h => h) (Or.inl ⟨by kernel_rfl, fun w _ => by kernel_rfl⟩) T0 ?_
                refine anyH_take (i := 1) (d := 57) (v := .int .i64 (ia : Int)) rfl rfl (by kernel_rfl) (by kernel_rfl) (by kernel_rfl) (fun _ _ _ h => h) (Or.inl ⟨by kernel_rfl, fun w _ => by kernel_rfl⟩) T0 ?_
                refine anyH_take (i := 2) (d := 58) (v := .pointer (some ⟨gs, 0 + ia * 32, none⟩)) rfl rfl (by kernel_rfl) (by kernel_rfl) (by kernel_rfl) (fun _ _ _ h => h) (yields_index (by kernel_rfl) rfl (n := ca + 1) (cap := caps) (by kernel_rfl) (ki := .i64) (by kernel_rfl) Tryd.underlying78 size_32 (by omega)) T0 ?_
                refine anyH_take (i := 3) (d := 59) (v := .agg (cellsOf' u8c sa)) rfl rfl (by kernel_rfl) (by kernel_rfl) (by kernel_rfl) (fun _ _ _ h => h) (yieldsIf_load_mid (by kernel_rfl) 23 (.tmp 58) rfl gs (0 + ia * 32) (by kernel_rfl) (sa.map u8c) _ (fun w h => h.1) Tryd.underlying23 rfl zSa) T0 ?_
                refine anyH_take (i := 4) (d := 60) (v := (.slice (some ⟨gt, 0, none⟩) (cb + 1) capt)) rfl rfl (by kernel_rfl) (by kernel_rfl) (by kernel_rfl) (fun _ _ _ h => h) (Or.inl ⟨by kernel_rfl, fun w _ => by kernel_rfl⟩) T0 ?_
                refine anyH_take (i := 5) (d := 61) (v := .int .i64 (ib : Int)) rfl rfl (by kernel_rfl) (by kernel_rfl) (by kernel_rfl) (fun _ _ _ h => h) (Or.inl ⟨by kernel_rfl, fun w _ => by kernel_rfl⟩) T0 ?_
                refine anyH_take (i := 6) (d := 62) (v := .pointer (some ⟨gt, 0 + ib * 32, none⟩)) rfl rfl (by kernel_rfl) (by kernel_rfl) (by kernel_rfl) (fun _ _ _ h => h) (yields_index (by kernel_rfl) rfl (n := cb + 1) (cap := capt) (by kernel_rfl) (ki := .i64) (by kernel_rfl) Tryd.underlying78 size_32 (by omega)) T0 ?_
                refine anyH_take (i := 7) (d := 63) (v := .agg (cellsOf' u8c sb)) rfl rfl (by kernel_rfl) (by kernel_rfl) (by kernel_rfl) (fun _ _ _ h => h) (yieldsIf_load_mid (by kernel_rfl) 23 (.tmp 62) rfl gt (0 + ib * 32) (by kernel_rfl) (sb.map u8c) _ (fun w h => h.2.1) Tryd.underlying23 rfl zSb) T0 ?_
                refine anyH_take (i := 8) (d := 64) (v := .bool (!true)) rfl rfl (by kernel_rfl) (by kernel_rfl) (by kernel_rfl) (fun _ _ _ h => h) (yields_neA (by kernel_rfl) rfl (X := cellsOf' u8c sa) (Y := cellsOf' u8c sb) (by kernel_rfl) (by kernel_rfl) guard_h E1.out) T0 ?_
                refine anyH_take (i := 9) (d := 65) (v := .bool false) rfl rfl (by kernel_rfl) (by kernel_rfl) (by kernel_rfl) (fun _ _ _ h => h) (Or.inl ⟨by kernel_rfl, fun w _ => by kernel_rfl⟩) T0 ?_
                refine anyH_take (i := 10) (d := 66) (v := (.slice (some ⟨gp, 0, none⟩) ca capp)) rfl rfl (by kernel_rfl) (by kernel_rfl) (by kernel_rfl) (fun _ _ _ h => h) (Or.inl ⟨by kernel_rfl, fun w _ => by kernel_rfl⟩) T0 ?_
                refine anyH_take (i := 11) (d := 67) (v := .int .i64 (ia : Int)) rfl rfl (by kernel_rfl) (by kernel_rfl) (by kernel_rfl) (fun _ _ _ h => h) (Or.inl ⟨by kernel_rfl, fun w _ => by kernel_rfl⟩) T0 ?_
                refine anyH_take (i := 12) (d := 68) (v := .pointer (some ⟨gp, 0 + ia * 64, none⟩)) rfl rfl (by kernel_rfl) (by kernel_rfl) (by kernel_rfl) (fun _ _ _ h => h) (yields_index (by kernel_rfl) rfl (n := ca) (cap := capp) (by kernel_rfl) (ki := .i64) (by kernel_rfl) Tryd.underlying80 size_64 (by omega)) T0 ?_
                refine anyH_take (i := 13) (d := 69) (v := .agg (cellsOf' u8c ka)) rfl rfl (by kernel_rfl) (by kernel_rfl) (by kernel_rfl) (fun _ _ _ h => h) (yieldsIf_load_mid (by kernel_rfl) 24 (.tmp 68) rfl gp (0 + ia * 64) (by kernel_rfl) (ka.map u8c) _ (fun w h => h.2.2.1) Tryd.underlying24 rfl zKa) T0 ?_
                refine anyH_take (i := 14) (d := 70) (v := (.slice (some ⟨gq, 0, none⟩) cb capq)) rfl rfl (by kernel_rfl) (by kernel_rfl) (by kernel_rfl) (fun _ _ _ h => h) (Or.inl ⟨by kernel_rfl, fun w _ => by kernel_rfl⟩) T0 ?_
                refine anyH_take (i := 15) (d := 71) (v := .int .i64 (ib : Int)) rfl rfl (by kernel_rfl) (by kernel_rfl) (by kernel_rfl) (fun _ _ _ h => h) (Or.inl ⟨by kernel_rfl, fun w _ => by kernel_rfl⟩) T0 ?_
                refine anyH_take (i := 16) (d := 72) (v := .pointer (some ⟨gq, 0 + ib * 64, none⟩)) rfl rfl (by kernel_rfl) (by kernel_rfl) (by kernel_rfl) (fun _ _ _ h => h) (yields_index (by kernel_rfl) rfl (n := cb) (cap := capq) (by kernel_rfl) (ki := .i64) (by kernel_rfl) Tryd.underlying80 size_64 (by omega)) T0 ?_
                refine anyH_take (i := 17) (d := 73) (v := .agg (cellsOf' u8c kb)) rfl rfl (by kernel_rfl) (by kernel_rfl) (by kernel_rfl) (fun _ _ _ h => h) (yieldsIf_load_mid (by kernel_rfl) 24 (.tmp 72) rfl gq (0 + ib * 64) (by kernel_rfl) (kb.map u8c) _ (fun w h => h.2.2.2) Tryd.underlying24 rfl zKb) T0 ?_
                refine anyH_take (i := 18) (d := 74) (v := .bool (!false)) rfl rfl (by kernel_rfl) (by kernel_rfl) (by kernel_rfl) (fun _ _ _ h => h) (yields_neA (by kernel_rfl) rfl (X := cellsOf' u8c ka) (Y := cellsOf' u8c kb) (by kernel_rfl) (by kernel_rfl) guard_b E2.out) T0 ?_
                refine anyH_take (i := 19) (d := 75) (v := .bool true) rfl rfl (by kernel_rfl) (by kernel_rfl) (by kernel_rfl) (fun _ _ _ h => h) (Or.inl ⟨by kernel_rfl, fun w _ => by kernel_rfl⟩) T0 ?_
                refine wpAnyH_done (by kernel_rfl) ?_ _
                simp only [Act.put, List.setIfInBounds_toArray, List.set_cons_succ, List.set_cons_zero]
                clear T0
                go_wp2_with fail
                refine wp_region_held (S := fun w => w.rangeAt gs (0 + ia * 32) (sa.map u8c) ∧ w.rangeAt gt (0 + ib * 32) (sb.map u8c) ∧ w.rangeAt gp (0 + ia * 64) (ka.map u8c) ∧ w.rangeAt gq (0 + ib * 64) (kb.map u8c)) (by kernel_rfl) ?_
                change wpAnyH _ _ _ _ _ _ _ _ (World.drew _)
                refine anyH_take (i := 0) (d := 76) (v := (.slice (some ⟨gs, 0, none⟩) (ca + 1) caps)) rfl rfl (by kernel_rfl) (by kernel_rfl) (by kernel_rfl) (fun _ _ _ h => h) (Or.inl ⟨by kernel_rfl, fun w _ => by kernel_rfl⟩) T1 ?_
                refine anyH_take (i := 1) (d := 77) (v := .int .i64 (ia : Int)) rfl rfl (by kernel_rfl) (by kernel_rfl) (by kernel_rfl) (fun _ _ _ h => h) (Or.inl ⟨by kernel_rfl, fun w _ => by kernel_rfl⟩) T1 ?_
                refine anyH_take (i := 2) (d := 78) (v := .pointer (some ⟨gs, 0 + ia * 32, none⟩)) rfl rfl (by kernel_rfl) (by kernel_rfl) (by kernel_rfl) (fun _ _ _ h => h) (yields_index (by kernel_rfl) rfl (n := ca + 1) (cap := caps) (by kernel_rfl) (ki := .i64) (by kernel_rfl) Tryd.underlying78 size_32 (by omega)) T1 ?_
                refine anyH_take (i := 3) (d := 79) (v := .agg (cellsOf' u8c sa)) rfl rfl (by kernel_rfl) (by kernel_rfl) (by kernel_rfl) (fun _ _ _ h => h) (yieldsIf_load_mid (by kernel_rfl) 23 (.tmp 78) rfl gs (0 + ia * 32) (by kernel_rfl) (sa.map u8c) _ (fun w h => h.1) Tryd.underlying23 rfl zSa) T1 ?_
                refine anyH_take (i := 4) (d := 80) (v := (.slice (some ⟨gt, 0, none⟩) (cb + 1) capt)) rfl rfl (by kernel_rfl) (by kernel_rfl) (by kernel_rfl) (fun _ _ _ h => h) (Or.inl ⟨by kernel_rfl, fun w _ => by kernel_rfl⟩) T1 ?_
                refine anyH_take (i := 5) (d := 81) (v := .int .i64 (ib : Int)) rfl rfl (by kernel_rfl) (by kernel_rfl) (by kernel_rfl) (fun _ _ _ h => h) (Or.inl ⟨by kernel_rfl, fun w _ => by kernel_rfl⟩) T1 ?_
                refine anyH_take (i := 6) (d := 82) (v := .pointer (some ⟨gt, 0 + ib * 32, none⟩)) rfl rfl (by kernel_rfl) (by kernel_rfl) (by kernel_rfl) (fun _ _ _ h => h) (yields_index (by kernel_rfl) rfl (n := cb + 1) (cap := capt) (by kernel_rfl) (ki := .i64) (by kernel_rfl) Tryd.underlying78 size_32 (by omega)) T1 ?_
                refine anyH_take (i := 7) (d := 83) (v := .agg (cellsOf' u8c sb)) rfl rfl (by kernel_rfl) (by kernel_rfl) (by kernel_rfl) (fun _ _ _ h => h) (yieldsIf_load_mid (by kernel_rfl) 23 (.tmp 82) rfl gt (0 + ib * 32) (by kernel_rfl) (sb.map u8c) _ (fun w h => h.2.1) Tryd.underlying23 rfl zSb) T1 ?_
                refine anyH_take (i := 8) (d := 84) (v := (.slice (some ⟨gp, 0, none⟩) ca capp)) rfl rfl (by kernel_rfl) (by kernel_rfl) (by kernel_rfl) (fun _ _ _ h => h) (Or.inl ⟨by kernel_rfl, fun w _ => by kernel_rfl⟩) T1 ?_
                refine anyH_take (i := 9) (d := 85) (v := .int .i64 (ia : Int)) rfl rfl (by kernel_rfl) (by kernel_rfl) (by kernel_rfl) (fun _ _ _ h => h) (Or.inl ⟨by kernel_rfl, fun w _ => by kernel_rfl⟩) T1 ?_
                refine anyH_take (i := 10) (d := 86) (v := .pointer (some ⟨gp, 0 + ia * 64, none⟩)) rfl rfl (by kernel_rfl) (by kernel_rfl) (by kernel_rfl) (fun _ _ _ h => h) (yields_index (by kernel_rfl) rfl (n := ca) (cap := capp) (by kernel_rfl) (ki := .i64) (by kernel_rfl) Tryd.underlying80 size_64 (by omega)) T1 ?_
                refine anyH_take (i := 11) (d := 87) (v := .agg (cellsOf' u8c ka)) rfl rfl (by kernel_rfl) (by kernel_rfl) (by kernel_rfl) (fun _ _ _ h => h) (yieldsIf_load_mid (by kernel_rfl) 24 (.tmp 86) rfl gp (0 + ia * 64) (by kernel_rfl) (ka.map u8c) _ (fun w h => h.2.2.1) Tryd.underlying24 rfl zKa) T1 ?_
                refine anyH_take (i := 12) (d := 88) (v := (.slice (some ⟨gq, 0, none⟩) cb capq)) rfl rfl (by kernel_rfl) (by kernel_rfl) (by kernel_rfl) (fun _ _ _ h => h) (Or.inl ⟨by kernel_rfl, fun w _ => by kernel_rfl⟩) T1 ?_
                refine anyH_take (i := 13) (d := 89) (v := .int .i64 (ib : Int)) rfl rfl (by kernel_rfl) (by kernel_rfl) (by kernel_rfl) (fun _ _ _ h => h) (Or.inl ⟨by kernel_rfl, fun w _ => by kernel_rfl⟩) T1 ?_
                refine anyH_take (i := 14) (d := 90) (v := .pointer (some ⟨gq, 0 + ib * 64, none⟩)) rfl rfl (by kernel_rfl) (by kernel_rfl) (by kernel_rfl) (fun _ _ _ h => h) (yields_index (by kernel_rfl) rfl (n := cb) (cap := capq) (by kernel_rfl) (ki := .i64) (by kernel_rfl) Tryd.underlying80 size_64 (by omega)) T1 ?_
                refine anyH_take (i := 15) (d := 91) (v := .agg (cellsOf' u8c kb)) rfl rfl (by kernel_rfl) (by kernel_rfl) (by kernel_rfl) (fun _ _ _ h => h) (yieldsIf_load_mid (by kernel_rfl) 24 (.tmp 90) rfl gq (0 + ib * 64) (by kernel_rfl) (kb.map u8c) _ (fun w h => h.2.2.2) Tryd.underlying24 rfl zKb) T1 ?_
                refine anyH_take (i := 16) (d := 92) (v := .agg (cellsOf' u8c (sa ++ (sb ++ (ka ++ kb))))) rfl rfl (by kernel_rfl) (by kernel_rfl) (by kernel_rfl) (fun _ _ _ h => h) (yields_build_st2 (by kernel_rfl) rfl (by kernel_rfl) (by kernel_rfl) (by kernel_rfl) (by kernel_rfl) HLK.out.1 HLK.out.2.1 HLK.out.2.2.1 HLK.out.2.2.2) T1 ?_
                refine anyH_one (i := 17) (by kernel_rfl) rfl ?_
                refine wpList_store_rowN rfl rfl 59 (.tmp 6) (.tmp 92) rfl rb (cellsOf' u8c (sa ++ (sb ++ (ka ++ kb)))) (by kernel_rfl) (by kernel_rfl) 59 _ GR.out (by rw [cs.out]; exact size_st) (by rw [cs.out, HS0.out]) (co_one u8c_one) ?_
                have G8 := setRow_heap wr.drew.drew rb _ (cellsOf' u8c (sa ++ (sb ++ (ka ++ kb)))) _ _ GR.out
                have B8 := below_setRow BR.out.drew.drew (Nat.le_refl rb) (cellsOf' u8c (sa ++ (sb ++ (ka ++ kb))))
                have T2 : (wr.drew.drew.setRow rb (cellsOf' u8c (sa ++ (sb ++ (ka ++ kb))))).rangeAt gs (0 + ia * 32) (sa.map u8c) ∧ (wr.drew.drew.setRow rb (cellsOf' u8c (sa ++ (sb ++ (ka ++ kb))))).rangeAt gt (0 + ib * 32) (sb.map u8c) ∧ (wr.drew.drew.setRow rb (cellsOf' u8c (sa ++ (sb ++ (ka ++ kb))))).rangeAt gp (0 + ia * 64) (ka.map u8c) ∧ (wr.drew.drew.setRow rb (cellsOf' u8c (sa ++ (sb ++ (ka ++ kb))))).rangeAt gq (0 + ib * 64) (kb.map u8c) := ⟨range_other T1.1 NR.out.1, range_other T1.2.1 NR.out.2.1, range_other T1.2.2.1 NR.out.2.2.1, range_other T1.2.2.2 NR.out.2.2.2⟩
                generalize wr.drew.drew.setRow rb (cellsOf' u8c (sa ++ (sb ++ (ka ++ kb)))) = w8 at *
                go_wp2_with fail
                refine ⟨T2, ?_⟩
                refine anyH_take (i := 18) (d := 7) (v := .bool true) rfl rfl (by kernel_rfl) (by kernel_rfl) (by kernel_rfl) (fun _ _ _ h => h) (Or.inl ⟨by kernel_rfl, fun w _ => by kernel_rfl⟩) T2 ?_
                refine wpAnyH_done (by kernel_rfl) ?_ _
                simp only [Act.put, List.setIfInBounds_toArray, List.set_cons_succ, List.set_cons_zero]
                go_wp2_with fail
                refine bodyPost_ret (results_step rfl _ _ rb _ rfl (st_row G8 sl.out) rfl) rfl ⟨by rw [HE.out]; rfl, B8⟩
              · have HE0 : Hid (unlikeN wd a b k = false) := Lib.hid HU.out
                go_wp2_with fail
                refine wp_region_held (S := fun w => w.rangeAt gs (0 + ia * 32) (sa.map u8c) ∧ w.rangeAt gt (0 + ib * 32) (sb.map u8c) ∧ w.rangeAt gp (0 + ia * 64) (ka.map u8c) ∧ w.rangeAt gq (0 + ib * 64) (kb.map u8c)) (by kernel_rfl) ?_
                change wpAnyH _ _ _ _ _ _ _ _ (World.drew _)
                refine anyH_take (i := 0) (d := 56) (v := (.slice (some ⟨gs, 0, none⟩) (ca + 1) caps)) rfl rfl (by kernel_rfl) (by kernel_rfl) (by kernel_rfl) (fun _ _ _ h => h) (Or.inl ⟨by kernel_rfl, fun w _ => by kernel_rfl⟩) T0 ?_
                refine anyH_take (i := 1) (d := 57) (v := .int .i64 (ia : Int)) rfl rfl (by kernel_rfl) (by kernel_rfl) (by kernel_rfl) (fun _ _ _ h => h) (Or.inl ⟨by kernel_rfl, fun w _ => by kernel_rfl⟩) T0 ?_
                refine anyH_take (i := 2) (d := 58) (v := .pointer (some ⟨gs, 0 + ia * 32, none⟩)) rfl rfl (by kernel_rfl) (by kernel_rfl) (by kernel_rfl) (fun _ _ _ h => h) (yields_index (by kernel_rfl) rfl (n := ca + 1) (cap := caps) (by kernel_rfl) (ki := .i64) (by kernel_rfl) Tryd.underlying78 size_32 (by omega)) T0 ?_
                refine anyH_take (i := 3) (d := 59) (v := .agg (cellsOf' u8c sa)) rfl rfl (by kernel_rfl) (by kernel_rfl) (by kernel_rfl) (fun _ _ _ h => h) (yieldsIf_load_mid (by kernel_rfl) 23 (.tmp 58) rfl gs (0 + ia * 32) (by kernel_rfl) (sa.map u8c) _ (fun w h => h.1) Tryd.underlying23 rfl zSa) T0 ?_
                refine anyH_take (i := 4) (d := 60) (v := (.slice (some ⟨gt, 0, none⟩) (cb + 1) capt)) rfl rfl (by kernel_rfl) (by kernel_rfl) (by kernel_rfl) (fun _ _ _ h => h) (Or.inl ⟨by kernel_rfl, fun w _ => by kernel_rfl⟩) T0 ?_
                refine anyH_take (i := 5) (d := 61) (v := .int .i64 (ib : Int)) rfl rfl (by kernel_rfl) (by kernel_rfl) (by kernel_rfl) (fun _ _ _ h => h) (Or.inl ⟨by kernel_rfl, fun w _ => by kernel_rfl⟩) T0 ?_
                refine anyH_take (i := 6) (d := 62) (v := .pointer (some ⟨gt, 0 + ib * 32, none⟩)) rfl rfl (by kernel_rfl) (by kernel_rfl) (by kernel_rfl) (fun _ _ _ h => h) (yields_index (by kernel_rfl) rfl (n := cb + 1) (cap := capt) (by kernel_rfl) (ki := .i64) (by kernel_rfl) Tryd.underlying78 size_32 (by omega)) T0 ?_
                refine anyH_take (i := 7) (d := 63) (v := .agg (cellsOf' u8c sb)) rfl rfl (by kernel_rfl) (by kernel_rfl) (by kernel_rfl) (fun _ _ _ h => h) (yieldsIf_load_mid (by kernel_rfl) 23 (.tmp 62) rfl gt (0 + ib * 32) (by kernel_rfl) (sb.map u8c) _ (fun w h => h.2.1) Tryd.underlying23 rfl zSb) T0 ?_
                refine anyH_take (i := 8) (d := 64) (v := .bool (!true)) rfl rfl (by kernel_rfl) (by kernel_rfl) (by kernel_rfl) (fun _ _ _ h => h) (yields_neA (by kernel_rfl) rfl (X := cellsOf' u8c sa) (Y := cellsOf' u8c sb) (by kernel_rfl) (by kernel_rfl) guard_h E1.out) T0 ?_
                refine anyH_take (i := 9) (d := 65) (v := .bool false) rfl rfl (by kernel_rfl) (by kernel_rfl) (by kernel_rfl) (fun _ _ _ h => h) (Or.inl ⟨by kernel_rfl, fun w _ => by kernel_rfl⟩) T0 ?_
                refine anyH_take (i := 10) (d := 66) (v := (.slice (some ⟨gp, 0, none⟩) ca capp)) rfl rfl (by kernel_rfl) (by kernel_rfl) (by kernel_rfl) (fun _ _ _ h => h) (Or.inl ⟨by kernel_rfl, fun w _ => by kernel_rfl⟩) T0 ?_
                refine anyH_take (i := 11) (d := 67) (v := .int .i64 (ia : Int)) rfl rfl (by kernel_rfl) (by kernel_rfl) (by kernel_rfl) (fun _ _ _ h => h) (Or.inl ⟨by kernel_rfl, fun w _ => by kernel_rfl⟩) T0 ?_
                refine anyH_take (i := 12) (d := 68) (v := .pointer (some ⟨gp, 0 + ia * 64, none⟩)) rfl rfl (by kernel_rfl) (by kernel_rfl) (by kernel_rfl) (fun _ _ _ h => h) (yields_index (by kernel_rfl) rfl (n := ca) (cap := capp) (by kernel_rfl) (ki := .i64) (by kernel_rfl) Tryd.underlying80 size_64 (by omega)) T0 ?_
                refine anyH_take (i := 13) (d := 69) (v := .agg (cellsOf' u8c ka)) rfl rfl (by kernel_rfl) (by kernel_rfl) (by kernel_rfl) (fun _ _ _ h => h) (yieldsIf_load_mid (by kernel_rfl) 24 (.tmp 68) rfl gp (0 + ia * 64) (by kernel_rfl) (ka.map u8c) _ (fun w h => h.2.2.1) Tryd.underlying24 rfl zKa) T0 ?_
                refine anyH_take (i := 14) (d := 70) (v := (.slice (some ⟨gq, 0, none⟩) cb capq)) rfl rfl (by kernel_rfl) (by kernel_rfl) (by kernel_rfl) (fun _ _ _ h => h) (Or.inl ⟨by kernel_rfl, fun w _ => by kernel_rfl⟩) T0 ?_
                refine anyH_take (i := 15) (d := 71) (v := .int .i64 (ib : Int)) rfl rfl (by kernel_rfl) (by kernel_rfl) (by kernel_rfl) (fun _ _ _ h => h) (Or.inl ⟨by kernel_rfl, fun w _ => by kernel_rfl⟩) T0 ?_
                refine anyH_take (i := 16) (d := 72) (v := .pointer (some ⟨gq, 0 + ib * 64, none⟩)) rfl rfl (by kernel_rfl) (by kernel_rfl) (by kernel_rfl) (fun _ _ _ h => h) (yields_index (by kernel_rfl) rfl (n := cb) (cap := capq) (by kernel_rfl) (ki := .i64) (by kernel_rfl) Tryd.underlying80 size_64 (by omega)) T0 ?_
                refine anyH_take (i := 17) (d := 73) (v := .agg (cellsOf' u8c kb)) rfl rfl (by kernel_rfl) (by kernel_rfl) (by kernel_rfl) (fun _ _ _ h => h) (yieldsIf_load_mid (by kernel_rfl) 24 (.tmp 72) rfl gq (0 + ib * 64) (by kernel_rfl) (kb.map u8c) _ (fun w h => h.2.2.2) Tryd.underlying24 rfl zKb) T0 ?_
                refine anyH_take (i := 18) (d := 74) (v := .bool (!true)) rfl rfl (by kernel_rfl) (by kernel_rfl) (by kernel_rfl) (fun _ _ _ h => h) (yields_neA (by kernel_rfl) rfl (X := cellsOf' u8c ka) (Y := cellsOf' u8c kb) (by kernel_rfl) (by kernel_rfl) guard_b E2.out) T0 ?_
                refine anyH_take (i := 19) (d := 75) (v := .bool false) rfl rfl (by kernel_rfl) (by kernel_rfl) (by kernel_rfl) (fun _ _ _ h => h) (Or.inl ⟨by kernel_rfl, fun w _ => by kernel_rfl⟩) T0 ?_
                refine wpAnyH_done (by kernel_rfl) ?_ _
                simp only [Act.put, List.setIfInBounds_toArray, List.set_cons_succ, List.set_cons_zero]
                clear T0 T1
                have qz : Below w6.heap.size w6 wr.drew := HQK.out.drew
                go_wp2_with fail
                go_roundw
                case rel => exact ⟨k + 1, by omega, by rw [HEi.out.1], by rw [HEi.out.2], fun n hn => (by rcases Nat.lt_or_ge n k with h | h; exact HL.out n h; obtain rfl : n = k := (by omega); exact HE0.out), qz⟩
                case measure => simp [intOf]
          · obtain rfl : k = m := by omega
            have HE : Hid (descN wd a b = (zeroN, false)) := Lib.hid (desc_miss HNE.out (by rw [HCM.out.2.2]; exact HL.out))
            clear hlike qk
            by_cases hcc : ca ≤ cb
            · have ei : (ca : Int) - 1 - (k : Int) = -1 := by have := LE.out; omega
              rw [ei]
              go_wp2_with (first
                | (with_reducible refine wpList_store_row rfl 59 _ _ rfl rb (cellsOf' u8c zeroN) (by kernel_rfl) (by kernel_rfl) 59 _ GR.out (by rw [HS0.out]; exact size_st) (by rw [HS0.out]) (co_one u8c_one) ?_))
              refine bodyPost_ret (results_step rfl _ _ rb _ rfl (st_row (setRow_heap _ _ _ _ _ _ GR.out) zero_len) rfl) rfl ⟨by rw [HE.out]; rfl, below_setRow BR.out (Nat.le_refl _) _⟩
            · obtain ⟨d, hd⟩ : ∃ d : Nat, (ca : Int) - 1 - (k : Int) = (d : Int) := ⟨ca - 1 - k, by have := LE.out; omega⟩
              have ej : (cb : Int) - 1 - (k : Int) = -1 := by have := LE.out; omega
              rw [hd, ej]
              go_wp2_with (first
                | (with_reducible refine wpList_store_row rfl 59 _ _ rfl rb (cellsOf' u8c zeroN) (by kernel_rfl) (by kernel_rfl) 59 _ GR.out (by rw [HS0.out]; exact size_st) (by rw [HS0.out]) (co_one u8c_one) ?_))
              refine bodyPost_ret (results_step rfl _ _ rb _ rfl (st_row (setRow_heap _ _ _ _ _ _ GR.out) zero_len) rfl) rfl ⟨by rw [HE.out]; rfl, below_setRow BR.out (Nat.le_refl _) _⟩
  · have HE : Hid (descN wd a b = (zeroN, false)) := Lib.hid (desc_off (.inl (of_decide_eq_true hpe)))
    clear hpe
    go_wp2_with (first
      | (with_reducible refine wpList_store_row rfl 59 _ _ rfl rb (cellsOf' u8c zeroN) (by kernel_rfl) (by kernel_rfl) 59 _ HG2.out (by rw [HS0.out]; exact size_st) (by rw [HS0.out]) (co_one u8c_one) ?_))
    refine bodyPost_ret (results_step rfl _ _ rb _ rfl (st_row (setRow_heap _ _ _ _ _ _ HG2.out) zero_len) rfl) rfl ⟨by rw [HE.out]; rfl, below_setRow B2 (Nat.le_refl _) _⟩
end Go.Proofs.YtcifnfffoiiceaaDoor
