/-
  The walk of HashBlocks.
-/
import Derived.Test.YtcifnfffoiiceaaDoorDescends
namespace Go.Proofs.YtcifnfffoiiceaaDoor
open Go.RowKit
set_option linter.unusedVariables false
set_option pp.deepTerms true
set_option pp.maxSteps 1000000

theorem desc_len (wd : Int) (a b : List Nat) (ha : a.length ≤ 1000000) (hb : b.length ≤ 1000000) : (descN wd a b).1.length = 192 := by
  by_cases h : a = b ∨ sumN wd a ≠ sumN wd b
  · rw [desc_off h]; exact zero_len
  · obtain ⟨i, hi, e, _, _⟩ := desc_law ha hb h
    rw [e]
    unfold stepN
    have hca : i < countN a := by unfold leastN at hi; omega
    have hcb : i < countN b := by unfold leastN at hi; omega
    simp only [List.length_append, st_len', bk_len hca, bk_len hcb]
set_option maxRecDepth 16000 in
set_option maxHeartbeats 40000000 in
theorem walkHashBlocks (w : World) (D : DoorAt w) {wd : Int} {va vb : Value} {a b : List Nat} (w0 : (Lit.int .i64 wd).wf = true) (sA : SliceOf u8c w va a) (bA : Bytes a) (lA : a.length ≤ 140737488351232) (sB : SliceOf u8c w vb b) (bB : Bytes b) (lB : b.length ≤ 140737488351232) :
    Calls Tryd.prog 11 #[.int .i64 wd, va, vb] w fun e w' => e = .returned (.bool true) ∧ Below w.heap.size w w' := by
  have SA := Lib.hid (And.intro sA bA)
  have SB := Lib.hid (And.intro sB bB)
  have HD := Lib.hid D
  have hb1 := D.1
  obtain ⟨aA, cA, rfl, _⟩ := sA
  obtain ⟨aB, cB, rfl, _⟩ := sB
  clear D w0 lA lB bA bB
  by_cases hl : 3000 < a.length
  · have hli : decide ((3000 : Int) < (a.length : Int)) = true := decide_eq_true (by omega)
    go_enter Tryd.func11, Tryd.ntmps11
    go_wp2
    go_ret
    exact ⟨rfl, Below.refl _ _⟩
  · have hli : decide ((3000 : Int) < (a.length : Int)) = false := decide_eq_false (by omega)
    by_cases hk : 3000 < b.length
    · have hki : decide ((3000 : Int) < (b.length : Int)) = true := decide_eq_true (by omega)
      go_enter Tryd.func11, Tryd.ntmps11
      go_wp2
      go_ret
      exact ⟨rfl, Below.refl _ _⟩
    · have hki : decide ((3000 : Int) < (b.length : Int)) = false := decide_eq_false (by omega)
      have HL : Hid (a.length ≤ 3000 ∧ b.length ≤ 3000) := Lib.hid ⟨by omega, by omega⟩
      clear hl hk
      obtain ⟨Z, hZ⟩ : ∃ Z, w.heap.size = Z := ⟨_, rfl⟩
      have HZ := Lib.hid hZ
      have R1 := Lib.hid (row2_any w SA.out.1 (by have := HL.out; omega))
      rw [hZ] at hb1
      obtain ⟨X, ok, hdesc⟩ : ∃ X ok, descN wd a b = (X, ok) := ⟨_, _, rfl⟩
      have lX : X.length = 192 := by have := desc_len wd a b (by have := HL.out; omega) (by have := HL.out; omega); rw [hdesc] at this; exact this
      have HDE := Lib.hid hdesc
      have cX : (cellsOf' u8c X).size = 192 := by rw [co_size, lX]
      have ZC : Hid ((Tryd.zeroCells59).size = 192) := Lib.hid (by kernel_rfl)
      clear hZ hdesc
      go_enter Tryd.func11, Tryd.ntmps11
      go_wp2_with fail
      refine R1.out.mono ?_
      rintro e w1 ⟨v1, rfl, r1, q1⟩
      have b1 : Below Z w w1 := by rw [← HZ.out]; exact q1
      have z1 : Z ≤ w1.heap.size := by have := q1.size; have := HZ.out; omega
      have R2 := Lib.hid (row2_any w1 (SB.out.1.below (by rw [HZ.out]; exact b1)) (by have := HL.out; omega))
      have HR1 := Lib.hid r1
      clear r1 q1
      go_wp2_with fail
      refine R2.out.mono ?_
      rintro e w2 ⟨v2, rfl, r2, q2⟩
      have b2 := b1.trans (q2.mono z1)
      have z2 : Z ≤ w2.heap.size := Nat.le_trans z1 q2.size
      have DD := Descend_any (wd := wd) w2 (HD.out.low hb1 b2) (HR1.out.below q2).slice r2.slice (fun g hg => (((HR1.out.below q2).block g hg).2)) (fun g hg => (r2.block g hg).2) SA.out.2 SB.out.2 (by have := HL.out; omega) (by have := HL.out; omega)
      rw [HDE.out] at DD
      have HDD := Lib.hid DD
      clear DD r2 q2 R1 R2
      go_wp2_with fail
      refine HDD.out.mono ?_
      rintro e w3 ⟨rfl, q3⟩
      have b3 := b2.trans (q3.mono z2)
      have z3 : Z ≤ w3.heap.size := Nat.le_trans z2 q3.size
      clear q3 HDD
      go_wp2_with (first
        | (with_reducible refine wpList_store_rowN rfl rfl 59 (.tmp 7) (.tmp 26) rfl w3.heap.size (cellsOf' u8c X) (by kernel_rfl) (by kernel_rfl) 59 _ (heap_alloc_new _ _) (by rw [cX]; exact size_st) (by rw [cX, ZC.out]) (co_one u8c_one) ?_))
      obtain ⟨xb, hxb⟩ : ∃ x, w3.heap.size = x := ⟨_, rfl⟩
      generalize hw4 : World.setRow _ _ _ = w4
      have G4 : w4.heap[xb]? = some (.cells (cellsOf' u8c X) 59 (0, 0)) := by rw [← hw4, ← hxb]; exact setRow_heap _ _ _ _ _ _ (heap_alloc_new _ _)
      have B4 : Below Z w w4 := by rw [← hw4]; exact below_setRow (b3.alloc z3 _) z3 _
      have Z4 : w4.heap.size = xb + 1 := by rw [← hw4, ← hxb]; simp
      rw [hxb]
      have SM := same2_any w4 (SA.out.1.below (by rw [HZ.out]; exact B4)) (SB.out.1.below (by rw [HZ.out]; exact B4))
      obtain ⟨pe, hpe⟩ : ∃ p, decide (a = b) = p := ⟨_, rfl⟩
      rw [hpe] at SM
      have HSM := Lib.hid SM
      have z4 : Z ≤ w4.heap.size := by have := B4.size; have := HZ.out; omega
      have GX := Lib.hid G4
      have BX := Lib.hid B4
      have xl4 : xb < w4.heap.size := by omega
      clear SM hw4 G4 B4 b3 b2 b1 z1 z2 z3 hxb
      refine HSM.out.mono ?_
      rintro e w5 ⟨rfl, q5⟩
      have b5 := BX.out.trans (q5.mono z4)
      have G5 := (q5.block xb xl4).trans GX.out
      have xl5 : xb < w5.heap.size := Nat.lt_of_lt_of_le xl4 q5.size
      have z5 : Z ≤ w5.heap.size := Nat.le_trans z4 q5.size
      rcases pe with _ | _
      · have hne : a ≠ b := of_decide_eq_false hpe
        have R3 := Lib.hid (row2_any w5 (SA.out.1.below (by rw [HZ.out]; exact b5)) (by have := HL.out; omega))
        clear hpe HSM q5
        go_wp2_with fail
        refine R3.out.mono ?_
        rintro e w6 ⟨v6, rfl, r6, q6⟩
        have b6 := b5.trans (q6.mono z5)
        have G6 := (q6.block xb xl5).trans G5
        have xl6 : xb < w6.heap.size := Nat.lt_of_lt_of_le xl5 q6.size
        have z6 : Z ≤ w6.heap.size := Nat.le_trans z5 q6.size
        have SU1 := Lib.hid (sum_one' wd r6.slice (fun g hg => (r6.block g hg).2) SA.out.2 (by have := HL.out; omega) (HD.out.low hb1 b6))
        obtain ⟨g6, c6, rfl, _, _, _⟩ := r6.form
        clear R3 q6 r6 G5 b5
        go_wp2_with fail
        refine SU1.out.mono ?_
        rintro e w7 ⟨rfl, q7⟩
        have b7 := b6.trans (q7.mono z6)
        have G7 := (q7.block xb xl6).trans G6
        have xl7 : xb < w7.heap.size := Nat.lt_of_lt_of_le xl6 q7.size
        have z7 : Z ≤ w7.heap.size := Nat.le_trans z6 q7.size
        have R4 := Lib.hid (row2_any w7 (SB.out.1.below (by rw [HZ.out]; exact b7)) (by have := HL.out; omega))
        clear SU1 q7 G6 b6
        go_wp2_with fail
        refine R4.out.mono ?_
        rintro e w8 ⟨v8, rfl, r8, q8⟩
        have b8 := b7.trans (q8.mono z7)
        have G8 := (q8.block xb xl7).trans G7
        have xl8 : xb < w8.heap.size := Nat.lt_of_lt_of_le xl7 q8.size
        have z8 : Z ≤ w8.heap.size := Nat.le_trans z7 q8.size
        have SU2 := Lib.hid (sum_one' wd r8.slice (fun g hg => (r8.block g hg).2) SB.out.2 (by have := HL.out; omega) (HD.out.low hb1 b8))
        obtain ⟨g8, c8, rfl, _, _, _⟩ := r8.form
        clear R4 q8 r8 G7 b7
        go_wp2_with fail
        refine SU2.out.mono ?_
        rintro e w9 ⟨rfl, q9⟩
        have b9 := b8.trans (q9.mono z8)
        have G9 := (q9.block xb xl8).trans G8
        have xl9 : xb < w9.heap.size := Nat.lt_of_lt_of_le xl8 q9.size
        have z9 : Z ≤ w9.heap.size := Nat.le_trans z8 q9.size
        clear SU2 q9 G8 b8
        obtain ⟨ps, hps⟩ : ∃ p, decide (sumN wd a = sumN wd b) = p := ⟨_, rfl⟩
        have EA : Hid (∀ w, (Op.equalIn 10000 23 (.agg (cellsOf' u8c (sumN wd a))) (.agg (cellsOf' u8c (sumN wd b)))).run Tryd.prog w = .ok ps w) := Lib.hid fun w => by rw [run_eql_h w (sum_len _ _) (sum_len _ _), hps]
        have HG9 := Lib.hid G9
        have HB9 := Lib.hid b9
        clear G9 b9
        rcases ps with _ | _
        · have e0 := HDE.out.symm.trans (desc_off (.inr (of_decide_eq_false hps)))
          obtain ⟨rfl, rfl⟩ := Prod.mk.inj e0
          have AW := Lib.hid (awake2_any (HD.out.low hb1 HB9.out))
          clear e0 hps
          go_wp2_with (first
            | (with_reducible refine wpList_yields (S := fun _ => True) (v := .bool false) (yields_eqA (by kernel_rfl) rfl (X := cellsOf' u8c (sumN wd a)) (Y := cellsOf' u8c (sumN wd b)) (by kernel_rfl) (by kernel_rfl) guard_h EA.out) trivial ?_)
            | (with_reducible refine wpList_load_row rfl 59 (.tmp 7) rfl xb (by kernel_rfl) 59 _ (0, 0) _ HG9.out Tryd.underlying59 rfl (by rw [cX]; exact size_st) ?_)
            | (with_reducible refine wpList_yields (S := fun _ => True) (v := .bool true) (yields_eqA (by kernel_rfl) rfl (X := cellsOf' u8c zeroN) (Y := cellsOf' u8c zeroN) (by kernel_rfl) (by kernel_rfl) guard_st (fun w => run_eql_st w zero_len)) trivial ?_)
            | (go_at_call 14; refine AW.out.mono ?_; rintro e w10 ⟨rfl, q10⟩))
          go_ret
          exact ⟨rfl, by rw [HZ.out]; exact HB9.out.trans (q10.mono z9)⟩
        · have hno : ¬ (a = b ∨ sumN wd a ≠ sumN wd b) := fun h => h.elim hne (fun h => h (of_decide_eq_true hps))
          obtain ⟨i, hi, e0, hu, hcomp⟩ := desc_law (by have := HL.out; omega) (by have := HL.out; omega) hno
          have e1 := HDE.out.symm.trans e0
          unfold stepN at e1
          have lsa := st_len' wd a i
          have lsb := st_len' wd b i
          have lka := bk_len (l := a) (i := i) (by unfold leastN at hi; omega)
          have lkb := bk_len (l := b) (i := i) (by unfold leastN at hi; omega)
          have bsa := st_bytes' wd a i
          have bsb := st_bytes' wd b i
          have bka := bk_bytes (i := i) SA.out.2
          have bkb := bk_bytes (i := i) SB.out.2
          unfold unlikeN at hu
          generalize stB wd a i = sa at *
          generalize stB wd b i = sb at *
          generalize bkB a i = ka at *
          generalize bkB b i = kb at *
          obtain ⟨rfl, rfl⟩ := Prod.mk.inj e1
          have HLK := Lib.hid (And.intro lsa (And.intro lsb (And.intro lka lkb)))
          have HLB := Lib.hid (And.intro bsa (And.intro bsb (And.intro bka bkb)))
          have ECC : Hid (∀ w, (Op.equalIn 10000 23 (.agg (cellsOf' u8c (compressN wd sa ka))) (.agg (cellsOf' u8c (compressN wd sb kb)))).run Tryd.prog w = .ok true w) := Lib.hid fun w => by rw [run_eql_h w (compress_len _ _ _) (compress_len _ _ _), decide_eq_true hcomp]
          obtain ⟨p1, hp1⟩ : ∃ p, decide (sa = sb) = p := ⟨_, rfl⟩
          obtain ⟨p2, hp2⟩ : ∃ p, decide (ka = kb) = p := ⟨_, rfl⟩
          have hpp : p1 = false ∨ (p1 = true ∧ p2 = false) := by
            rw [← hp1, ← hp2]
            have h2 := of_decide_eq_true hu
            by_cases h : sa = sb
            · right
              exact ⟨decide_eq_true h, decide_eq_false fun h3 => h2 ⟨h, h3⟩⟩
            · exact .inl (decide_eq_false h)
          have E1 : Hid (∀ w, (Op.equalIn 10000 23 (.agg (cellsOf' u8c sa)) (.agg (cellsOf' u8c sb))).run Tryd.prog w = .ok p1 w) := Lib.hid fun w => by rw [run_eql_h w HLK.out.1 HLK.out.2.1, hp1]
          have E2 : Hid (∀ w, (Op.equalIn 10000 24 (.agg (cellsOf' u8c ka)) (.agg (cellsOf' u8c kb))).run Tryd.prog w = .ok p2 w) := Lib.hid fun w => by rw [run_eql_b w HLK.out.2.2.1 HLK.out.2.2.2, hp2]
          have zSa : (Tryd.prog.info? 23).map (·.size) = some (sa.map u8c).length := by rw [List.length_map, HLK.out.1]; exact size_32
          have zSb : (Tryd.prog.info? 23).map (·.size) = some (sb.map u8c).length := by rw [List.length_map, HLK.out.2.1]; exact size_32
          have zKa : (Tryd.prog.info? 24).map (·.size) = some (ka.map u8c).length := by rw [List.length_map, HLK.out.2.2.1]; exact size_64
          have zKb : (Tryd.prog.info? 24).map (·.size) = some (kb.map u8c).length := by rw [List.length_map, HLK.out.2.2.2]; exact size_64
          have RX := ranges_of HG9.out lsa lsb lka
          obtain ⟨rx1, rx2, rx3, rx4⟩ := id RX
          have RXA := Lib.hid rx1
          have RXB := Lib.hid rx2
          have RXC := Lib.hid rx3
          have RXD := Lib.hid rx4
          have HRX := Lib.hid RX
          clear rx1 rx2 rx3 rx4 RX
          have HQ8 := HB9
          have xl := xl9
          have z8' := z8
          clear z8
          have z8 := z9
          clear hps e0 e1 hi hu hcomp lsa lsb lka lkb bsa bsb bka bkb hno hp1 hp2
          rcases hpp with rfl | ⟨rfl, rfl⟩
          all_goals
            go_wp2_with (first
              | (with_reducible refine wpList_yields (S := fun _ => True) (v := .bool true) (yields_eqA (by kernel_rfl) rfl (X := cellsOf' u8c (sumN wd a)) (Y := cellsOf' u8c (sumN wd b)) (by kernel_rfl) (by kernel_rfl) guard_h EA.out) trivial ?_)
              | (with_reducible refine wpList_yields (S := fun w' => w' = w9) (v := .agg (sa.map u8c).toArray) ?hy rfl ?_; case hy => exact yieldsIf_load_mid (by kernel_rfl) 23 (.tmp 56) rfl xb 0 (by kernel_rfl) (sa.map u8c) _ (fun w h => by rw [h]; exact RXA.out) Tryd.underlying23 rfl zSa)
              | (with_reducible refine wpList_yields (S := fun w' => w' = w9) (v := .agg (sb.map u8c).toArray) ?hy rfl ?_; case hy => exact yieldsIf_load_mid (by kernel_rfl) 23 (.tmp 58) rfl xb 32 (by kernel_rfl) (sb.map u8c) _ (fun w h => by rw [h]; exact RXB.out) Tryd.underlying23 rfl zSb)
              | (with_reducible refine wpList_yields (S := fun w' => w' = w9) (v := .agg (ka.map u8c).toArray) ?hy rfl ?_; case hy => exact yieldsIf_load_mid (by kernel_rfl) 24 (.tmp 62) rfl xb 64 (by kernel_rfl) (ka.map u8c) _ (fun w h => by rw [h]; exact RXC.out) Tryd.underlying24 rfl zKa)
              | (with_reducible refine wpList_yields (S := fun w' => w' = w9) (v := .agg (kb.map u8c).toArray) ?hy rfl ?_; case hy => exact yieldsIf_load_mid (by kernel_rfl) 24 (.tmp 64) rfl xb 128 (by kernel_rfl) (kb.map u8c) _ (fun w h => by rw [h]; exact RXD.out) Tryd.underlying24 rfl zKb)
              | (with_reducible refine wpList_yields (S := fun _ => True) (v := .bool _) (yields_neA (by kernel_rfl) rfl (X := cellsOf' u8c sa) (Y := cellsOf' u8c sb) (by kernel_rfl) (by kernel_rfl) guard_h E1.out) trivial ?_)
              | (with_reducible refine wpList_yields (S := fun _ => True) (v := .bool _) (yields_neA (by kernel_rfl) rfl (X := cellsOf' u8c ka) (Y := cellsOf' u8c kb) (by kernel_rfl) (by kernel_rfl) guard_b E2.out) trivial ?_))
            have T0 : Ranges4 xb sa sb ka kb w9.drew := ⟨(World.rangeAt_drew _ _ _ _).2 HRX.out.1, (World.rangeAt_drew _ _ _ _).2 HRX.out.2.1, (World.rangeAt_drew _ _ _ _).2 HRX.out.2.2.1, (World.rangeAt_drew _ _ _ _).2 HRX.out.2.2.2⟩
            refine wp_region_held (S := Ranges4 xb sa sb ka kb) (by kernel_rfl) ?_
            change wpAnyH _ _ _ _ _ _ _ _ (World.drew _)
            refine anyH_take (i := 0) (d := 68) (v := .bool true) rfl rfl (by kernel_rfl) (by kernel_rfl) (by kernel_rfl) (fun _ _ _ h => h) (Or.inl ⟨by kernel_rfl, fun w _ => by kernel_rfl⟩) T0 ?_
            refine anyH_take (i := 1) (d := 69) (v := .bool true) rfl rfl (by kernel_rfl) (by kernel_rfl) (by kernel_rfl) (fun _ _ _ h => h) (Or.inl ⟨by kernel_rfl, fun w _ => by kernel_rfl⟩) T0 ?_
            refine anyH_take (i := 2) (d := 70) (v := .int .i64 wd) rfl rfl (by kernel_rfl) (by kernel_rfl) (by kernel_rfl) (fun _ _ _ h => h) (Or.inl ⟨by kernel_rfl, fun w _ => by kernel_rfl⟩) T0 ?_
            refine anyH_take (i := 3) (d := 71) (v := .pointer (some ⟨xb, 0, none⟩)) rfl rfl (by kernel_rfl) (by kernel_rfl) (by kernel_rfl) (fun _ _ _ h => h) (Or.inl ⟨by kernel_rfl, fun w _ => by kernel_rfl⟩) T0 ?_
            refine anyH_take (i := 4) (d := 72) (v := .agg (cellsOf' u8c sa)) rfl rfl (by kernel_rfl) (by kernel_rfl) (by kernel_rfl) (fun _ _ _ h => h) (yieldsIf_load_mid (by kernel_rfl) 23 (.tmp 71) rfl xb 0 (by kernel_rfl) (sa.map u8c) _ (fun w h => h.1) Tryd.underlying23 rfl zSa) T0 ?_
            refine anyH_take (i := 5) (d := 73) (v := .pointer (some ⟨xb, 64, none⟩)) rfl rfl (by kernel_rfl) (by kernel_rfl) (by kernel_rfl) (fun _ _ _ h => h) (Or.inl ⟨by kernel_rfl, fun w _ => by kernel_rfl⟩) T0 ?_
            refine anyH_take (i := 6) (d := 74) (v := .agg (cellsOf' u8c ka)) rfl rfl (by kernel_rfl) (by kernel_rfl) (by kernel_rfl) (fun _ _ _ h => h) (yieldsIf_load_mid (by kernel_rfl) 24 (.tmp 73) rfl xb 64 (by kernel_rfl) (ka.map u8c) _ (fun w h => h.2.2.1) Tryd.underlying24 rfl zKa) T0 ?_
            refine anyH_take (i := 8) (d := 76) (v := .int .i64 wd) rfl rfl (by kernel_rfl) (by kernel_rfl) (by kernel_rfl) (fun _ _ _ h => h) (Or.inl ⟨by kernel_rfl, fun w _ => by kernel_rfl⟩) T0 ?_
            refine anyH_take (i := 9) (d := 77) (v := .pointer (some ⟨xb, 32, none⟩)) rfl rfl (by kernel_rfl) (by kernel_rfl) (by kernel_rfl) (fun _ _ _ h => h) (Or.inl ⟨by kernel_rfl, fun w _ => by kernel_rfl⟩) T0 ?_
            refine anyH_take (i := 10) (d := 78) (v := .agg (cellsOf' u8c sb)) rfl rfl (by kernel_rfl) (by kernel_rfl) (by kernel_rfl) (fun _ _ _ h => h) (yieldsIf_load_mid (by kernel_rfl) 23 (.tmp 77) rfl xb 32 (by kernel_rfl) (sb.map u8c) _ (fun w h => h.2.1) Tryd.underlying23 rfl zSb) T0 ?_
            refine anyH_take (i := 11) (d := 79) (v := .pointer (some ⟨xb, 128, none⟩)) rfl rfl (by kernel_rfl) (by kernel_rfl) (by kernel_rfl) (fun _ _ _ h => h) (Or.inl ⟨by kernel_rfl, fun w _ => by kernel_rfl⟩) T0 ?_
            refine anyH_take (i := 12) (d := 80) (v := .agg (cellsOf' u8c kb)) rfl rfl (by kernel_rfl) (by kernel_rfl) (by kernel_rfl) (fun _ _ _ h => h) (yieldsIf_load_mid (by kernel_rfl) 24 (.tmp 79) rfl xb 128 (by kernel_rfl) (kb.map u8c) _ (fun w h => h.2.2.2) Tryd.underlying24 rfl zKb) T0 ?_
            refine anyH_enter1 (i := 7) (d := 75) (by kernel_rfl) rfl rfl (by kernel_rfl) (Compress_any (wd := wd) HLK.out.1 HLK.out.2.2.1 HLB.out.1 HLB.out.2.2.1 _ (HD.out.low hb1 HQ8.out.drew)) (by kernel_rfl) ?_
            intro y1 p1
            have T1 := ranges4 p1 xl T0
            have b1 := HQ8.out.drew.trans (p1.mono z8)
            refine ⟨T1, ?_⟩
            refine anyH_enter1 (i := 13) (d := 81) (by kernel_rfl) rfl rfl (by kernel_rfl) (Compress_any (wd := wd) HLK.out.2.1 HLK.out.2.2.2 HLB.out.2.1 HLB.out.2.2.2 _ (HD.out.low hb1 b1)) (by kernel_rfl) ?_
            intro y2 p2
            have xl1 : xb < y1.heap.size := Nat.lt_of_lt_of_le xl p1.size
            have T2 := ranges4 p2 xl1 T1
            have b2 := b1.trans (p2.mono (Nat.le_trans z8 p1.size))
            refine ⟨T2, ?_⟩
            refine anyH_take (i := 14) (d := 82) (v := .bool true) rfl rfl (by kernel_rfl) (by kernel_rfl) (by kernel_rfl) (fun _ _ _ h => h) (yields_eqA (by kernel_rfl) rfl (X := cellsOf' u8c (compressN wd sa ka)) (Y := cellsOf' u8c (compressN wd sb kb)) (by kernel_rfl) (by kernel_rfl) guard_h ECC.out) T2 ?_
            refine anyH_take (i := 15) (d := 83) (v := .bool true) rfl rfl (by kernel_rfl) (by kernel_rfl) (by kernel_rfl) (fun _ _ _ h => h) (Or.inl ⟨by kernel_rfl, fun w _ => by kernel_rfl⟩) T2 ?_
            refine anyH_take (i := 16) (d := 84) (v := .bool true) rfl rfl (by kernel_rfl) (by kernel_rfl) (by kernel_rfl) (fun _ _ _ h => h) (Or.inl ⟨by kernel_rfl, fun w _ => by kernel_rfl⟩) T2 ?_
            refine anyH_enter1 (i := 17) (d := 85) (by kernel_rfl) rfl rfl (by kernel_rfl) (awake2_any (HD.out.low hb1 b2)) (by kernel_rfl) ?_
            intro y3 p3
            have xl2 : xb < y2.heap.size := Nat.lt_of_lt_of_le xl1 p2.size
            have T3 := ranges4 p3 xl2 T2
            have b3 := b2.trans (p3.mono (Nat.le_trans z8 (Nat.le_trans p1.size p2.size)))
            refine ⟨T3, ?_⟩
            refine anyH_take (i := 18) (d := 86) (v := .bool true) rfl rfl (by kernel_rfl) (by kernel_rfl) (by kernel_rfl) (fun _ _ _ h => h) (Or.inl ⟨by kernel_rfl, fun w _ => by kernel_rfl⟩) T3 ?_
            refine anyH_take (i := 19) (d := 6) (v := .bool true) rfl rfl (by kernel_rfl) (by kernel_rfl) (by kernel_rfl) (fun _ _ _ h => h) (Or.inl ⟨by kernel_rfl, fun w _ => by kernel_rfl⟩) T3 ?_
            refine wpAnyH_done (by kernel_rfl) ?_ _
            go_wp2_with fail
            go_ret
            exact ⟨by kernel_rfl, by rw [HZ.out]; exact b3⟩
      · have e0 := HDE.out.symm.trans (desc_off (.inl (of_decide_eq_true hpe)))
        obtain ⟨rfl, rfl⟩ := Prod.mk.inj e0
        have AW := Lib.hid (awake2_any (HD.out.low hb1 b5))
        have HG5 := Lib.hid G5
        clear e0 hpe G5 HSM q5
        go_wp2_with (first
          | (with_reducible refine wpList_load_row rfl 59 (.tmp 7) rfl xb (by kernel_rfl) 59 _ (0, 0) _ HG5.out Tryd.underlying59 rfl (by rw [cX]; exact size_st) ?_)
          | (with_reducible refine wpList_yields (S := fun _ => True) (v := .bool true) (yields_eqA (by kernel_rfl) rfl (X := cellsOf' u8c zeroN) (Y := cellsOf' u8c zeroN) (by kernel_rfl) (by kernel_rfl) guard_st (fun w => run_eql_st w zero_len)) trivial ?_)
          | (go_at_call 14; refine AW.out.mono ?_; rintro e w10 ⟨rfl, q10⟩))
        go_ret
        exact ⟨rfl, by rw [HZ.out]; exact b5.trans (q10.mono z5)⟩
end Go.Proofs.YtcifnfffoiiceaaDoor
