/-
  The walk of the reference's step of the hash.
-/
import Derived.Test.YtcifnfffoiiceaaDoorBytesL
import Derived.Deep.RegionLaw
namespace Go.Proofs.YtcifnfffoiiceaaDoor
open Go.RowKit
set_option linter.unusedVariables false
set_option pp.deepTerms true
set_option pp.maxSteps 1000000

set_option maxRecDepth 8000 in
set_option maxHeartbeats 4000000 in
theorem refCompress_any {wd : Int} {S K : List Nat} (hS : S.length = 32) (hK : K.length = 64) (bS : Bytes S) (bK : Bytes K) (W : World) :
    Calls Tryd.prog 13 #[.int .i64 wd, .agg (cellsOf' u8c S), .agg (cellsOf' u8c K)] W fun e w' => e = .returned (.agg (cellsOf' u8c (compressN wd S K))) ∧ Below W.heap.size W w' := by
  have TB := Lib.hid table_any
  have WB := Lib.hid (fun w v hv => words_any (l := K) (v := v) (n := 16) hK (by decide) bK w hv)
  have WS := Lib.hid (fun w v hv => words_any (l := S) (v := v) (n := 8) hS (by decide) bS w hv)
  have hA : (cellsOf' u8c S).size = 32 := by rw [co_size, hS]
  have hB : (cellsOf' u8c K).size = 64 := by rw [co_size, hK]
  obtain ⟨A, eA⟩ : ∃ A, cellsOf' u8c S = A := ⟨_, rfl⟩
  obtain ⟨B, eB⟩ : ∃ B, cellsOf' u8c K = B := ⟨_, rfl⟩
  have EA := Lib.hid eA
  have EB := Lib.hid eB
  rw [eA] at hA ⊢
  rw [eB] at hB ⊢
  have HS := Lib.hid hS
  have HK := Lib.hid hK
  clear eA eB hS hK
  go_enter Tryd.func13, Tryd.ntmps13
  go_wp2_with fail
  obtain ⟨f1, f2, f3, fs, fb⟩ := alloc3 W (.cells A 23 (0, 0)) (.cells B 24 (0, 0)) (.cells (cellsOf' u8c (List.replicate 32 0)) 23 (0, 0))
  refine (TB.out _).mono ?_
  rintro e w1 ⟨vt, rfl, tt, q1⟩
  change Below (((W.alloc (.cells A 23 (0, 0))).alloc (.cells B 24 (0, 0))).alloc (.cells (cellsOf' u8c (List.replicate 32 0)) 23 (0, 0))).heap.size (((W.alloc (.cells A 23 (0, 0))).alloc (.cells B 24 (0, 0))).alloc (.cells (cellsOf' u8c (List.replicate 32 0)) 23 (0, 0))) w1 at q1
  rw [fs] at q1
  have b1 : Below W.heap.size W w1 := fb.trans (q1.mono (by omega))
  have z1 : W.heap.size + 3 ≤ w1.heap.size := by have := q1.size; omega
  have g1 := (q1.block _ (by omega)).trans f1
  have g2 := (q1.block _ (by omega)).trans f2
  have g3 := (q1.block _ (by omega)).trans f3
  rw [← EB.out] at g2
  rw [← EA.out] at g1
  have sB : SliceOf u8c w1 (.slice (some ⟨W.heap.size + 1, 0, none⟩) 64 64) K := by
    have := co_slice g2 (by rw [HK.out]; decide)
    rwa [HK.out] at this
  have G1 := Lib.hid g1
  have G2 := Lib.hid g2
  have G3 := Lib.hid g3
  clear f1 f2 f3 fs fb q1 g1 g2 g3
  generalize hWb : W.heap.size = b at *
  have HW := Lib.hid hWb
  clear hWb
  go_wp2_with fail
  refine (WB.out _ _ sB).mono ?_
  rintro e w2 ⟨vs, rfl, own2, q2⟩
  have ML := Lib.hid (words_len (l := K) (n := 16) HK.out)
  have MW := Lib.hid (words_words (l := K) bK (n := 16) HK.out)
  have CM := Lib.hid (rfl : compressN wd S K = compressN wd S K)
  obtain ⟨M, hM⟩ : ∃ M, wordsN K = M := ⟨_, rfl⟩
  have HM := Lib.hid hM
  rw [hM] at own2 ML MW
  generalize hZ : w1.heap.size = Z at *
  have HZ := Lib.hid hZ
  have sB' := sB
  clear hZ hM sB' WB sB
  go_wp2_with fail
  go_loopw [8, 9] (fun v i wr => ∃ k : Nat, k ≤ 48 ∧ i = .int .i64 ((16 + k : Nat) : Int) ∧ wr.ownsRow Z 44 1 v (16 + k) ((schedN k M).map u64c) ∧ Below Z w1 wr) (fun _ i _ => 64 - (intOf i).toNat)
  case atStart => exact ⟨0, by omega, rfl, by rw [sched_zero]; exact own2, q2⟩
  case round =>
    obtain ⟨k, hk, rfl, own, hbr⟩ := hrel
    clear own2 q2
    by_cases hlt : k < 48
    · have hl := sched_len k M
      have hw := sched_words (n := k) MW.out
      have NX := Lib.hid (sched_next k M)
      rw [ML.out] at hl
      obtain ⟨m, hm⟩ : ∃ m, 16 + k = m := ⟨_, rfl⟩
      rw [hm] at hl own ⊢
      obtain ⟨l, hle⟩ : ∃ l, schedN k M = l := ⟨_, rfl⟩
      rw [hle] at own hl hw
      have HLE := Lib.hid hle
      obtain ⟨x2, h2, l2⟩ := at_some (l := l) (j := m - 2) (by omega) hw
      obtain ⟨x7, h7, l7⟩ := at_some (l := l) (j := m - 7) (by omega) hw
      obtain ⟨x15, h15, l15⟩ := at_some (l := l) (j := m - 15) (by omega) hw
      obtain ⟨x16, h16, l16⟩ := at_some (l := l) (j := m - 16) (by omega) hw
      have NE := Lib.hid (next_at hl h2 h7 h15 h16)
      obtain ⟨g, cap, rfl, gz, gs, gc⟩ := own_form own (by omega)
      have c2 := own_u64 own h2
      have c7 := own_u64 own h7
      have c15 := own_u64 own h15
      have c16 := own_u64 own h16
      clear h2 h7 h15 h16 hle hw hl
      have mi : (m : Int) < 64 := by omega
      have mj : (16 : Int) ≤ (m : Int) := by omega
      have e2 : (m : Int) - 2 = ((m - 2 : Nat) : Int) := by omega
      have e7 : (m : Int) - 7 = ((m - 7 : Nat) : Int) := by omega
      have e15 : (m : Int) - 15 = ((m - 15 : Nat) : Int) := by omega
      have e16 : (m : Int) - 16 = ((m - 16 : Nat) : Int) := by omega
      have a2 : ((m - 2 : Nat) : Int) < (m : Int) := by omega
      have a7 : ((m - 7 : Nat) : Int) < (m : Int) := by omega
      have a15 : ((m - 15 : Nat) : Int) < (m : Int) := by omega
      have a16 : ((m - 16 : Nat) : Int) < (m : Int) := by omega
      obtain ⟨m2, hm2⟩ : ∃ q, m - 2 = q := ⟨_, rfl⟩
      obtain ⟨m7, hm7⟩ : ∃ q, m - 7 = q := ⟨_, rfl⟩
      obtain ⟨m15, hm15⟩ : ∃ q, m - 15 = q := ⟨_, rfl⟩
      obtain ⟨m16, hm16⟩ : ∃ q, m - 16 = q := ⟨_, rfl⟩
      rw [hm2] at c2 e2 a2
      rw [hm7] at c7 e7 a7
      rw [hm15] at c15 e15 a15
      rw [hm16] at c16 e16 a16
      clear hm2 hm7 hm15 hm16
      have v2 : IntKind.i64.wrap (m2 : Int) = (m2 : Int) := wrap_small (by omega)
      have v7 : IntKind.i64.wrap (m7 : Int) = (m7 : Int) := wrap_small (by omega)
      have v15 : IntKind.i64.wrap (m15 : Int) = (m15 : Int) := wrap_small (by omega)
      have v16 : IntKind.i64.wrap (m16 : Int) = (m16 : Int) := wrap_small (by omega)
      have R17 := fun w => refRotr_any l2 (n := 17) (by decide) w
      have R19 := fun w => refRotr_any l2 (n := 19) (by decide) w
      have H10 := fun w => refShr_any l2 (n := 10) (by decide) w
      have XA := fun w => refXor_any (rotN_lt l2 (n := 17) (by decide)) (rotN_lt l2 (n := 19) (by decide)) (shr_lt (n := 10) l2) w
      have YA := xorN_lt (rotN_lt l2 (n := 17) (by decide)) (rotN_lt l2 (n := 19) (by decide)) (shr_lt (n := 10) l2)
      have R7 := fun w => refRotr_any l15 (n := 7) (by decide) w
      have R18 := fun w => refRotr_any l15 (n := 18) (by decide) w
      have H3 := fun w => refShr_any l15 (n := 3) (by decide) w
      have XB := fun w => refXor_any (rotN_lt l15 (n := 7) (by decide)) (rotN_lt l15 (n := 18) (by decide)) (shr_lt (n := 3) l15) w
      have YB := xorN_lt (rotN_lt l15 (n := 7) (by decide)) (rotN_lt l15 (n := 18) (by decide)) (shr_lt (n := 3) l15)
      generalize rotN x2 17 = r17 at *
      generalize rotN x2 19 = r19 at *
      generalize x2 / 2 ^ 10 = s10 at *
      generalize xorN r17 r19 s10 = sA at *
      generalize rotN x15 7 = r7 at *
      generalize rotN x15 18 = r18 at *
      generalize x15 / 2 ^ 3 = s3 at *
      generalize xorN r7 r18 s3 = sB at *
      have C1 := Lib.hid (And.intro R17 (And.intro R19 (And.intro H10 XA)))
      have C2 := Lib.hid (And.intro R7 (And.intro R18 (And.intro H3 XB)))
      clear R17 R19 H10 XA R7 R18 H3 XB l2 l15
      have LT := Lib.hid (And.intro YA (And.intro l7 (And.intro YB l16)))
      clear YA YB l7 l16
      go_wp2_with fail
      go_quiet (first
        | (go_at_call 51; first | (with_reducible exact Calls.quiet_of (C1.out.1 _)) | (with_reducible exact Calls.quiet_of (C1.out.2.1 _)))
        | (go_at_call 52; with_reducible exact Calls.quiet_of_same (C1.out.2.2.1 _))
        | (go_at_call 50; with_reducible exact Calls.quiet_of_same (C1.out.2.2.2 _)))
      have d7 : (wr.drewN nq).cell? ⟨g, m7, none⟩ = some (.int .u64 (x7 : Int)) := c7
      have d15 : (wr.drewN nq).cell? ⟨g, m15, none⟩ = some (.int .u64 (x15 : Int)) := c15
      have d16 : (wr.drewN nq).cell? ⟨g, m16, none⟩ = some (.int .u64 (x16 : Int)) := c16
      have dwn : (wr.drewN nq).ownsRow Z 44 1 (.slice (some ⟨g, 0, none⟩) m cap) m (l.map u64c) := own
      have dbr : Below Z w1 (wr.drewN nq) := hbr.trans ⟨rfl, rfl, rfl, Nat.le_refl _, fun _ _ => rfl⟩
      clear c2 c7 c15 c16 own hbr gs a2 e2 v2
      generalize wr.drewN nq = we at *
      go_wp2_with fail
      go_quiet (first
        | (go_at_call 51; first | (with_reducible exact Calls.quiet_of (C2.out.1 _)) | (with_reducible exact Calls.quiet_of (C2.out.2.1 _)))
        | (go_at_call 52; with_reducible exact Calls.quiet_of_same (C2.out.2.2.1 _))
        | (go_at_call 50; with_reducible exact Calls.quiet_of_same (C2.out.2.2.2 _)))
      clear C1 C2
      have E7 : (we.drewN nq).cell? ⟨g, m7, none⟩ = some (.int .u64 (x7 : Int)) := d7
      have E16 : (we.drewN nq).cell? ⟨g, m16, none⟩ = some (.int .u64 (x16 : Int)) := d16
      have Ewn : (we.drewN nq).ownsRow Z 44 1 (.slice (some ⟨g, 0, none⟩) m cap) m (l.map u64c) := dwn
      have Ebr : Below Z w1 (we.drewN nq) := dbr.trans ⟨rfl, rfl, rfl, Nat.le_refl _, fun _ _ => rfl⟩
      clear d7 d15 d16 dwn dbr a15 e15 v15
      generalize we.drewN nq = wf at *
      have S0 := Lib.hid (And.intro E7 E16)
      have zf : Z ≤ wf.heap.size := by have := Ebr.size; have := HZ.out; omega
      have YW := Lib.hid (next_int LT.out)
      obtain ⟨yA, y7, yB, y16⟩ := LT.out
      have jA : (sA : Int) ≤ 4294967295 := by omega
      have j7 : (x7 : Int) ≤ 4294967295 := by omega
      have jB : (sB : Int) ≤ 4294967295 := by omega
      have j16 : (x16 : Int) ≤ 4294967295 := by omega
      clear yA y7 yB y16
      go_wp2_with fail
      go_region_law (refine step_u64 (.tmp 68) (.tmp 85) (by rfl) (by rfl) Z (.slice (some ⟨g, 0, none⟩) m cap) m _ (by rfl) (Ewn.alloc _) _ (by rfl) (heap_alloc_new _ _) (by omega) (by (try simp) <;> omega) ?_; intro g1 cap1 w9 own1 hg1; have BG : Below Z wf w9 := grown_new zf hg1 (fun k hk => (Ewn.lt k hk).1))
      all_goals
        have own2 : w9.ownsRow Z 44 1 (.slice (some ⟨g1, 0, none⟩) (m + 1) cap1) (m + 1) ((schedN (k + 1) M).map u64c) := by
          rw [NX.out, HLE.out, NE.out]
          rw [YW.out] at own1
          exact own1
        have hb9 : Below Z w1 w9 := Ebr.trans BG
        clear own1 hg1 BG Ebr Ewn S0
        have em : m + 1 = 16 + (k + 1) := by omega
        have EM := Lib.hid em
        clear em
        go_wp2_with fail
        go_roundw
        case rel => exact ⟨k + 1, by omega, by rw [← EM.out]; go_num, by rw [← EM.out]; exact own2, hb9⟩
        case measure => simp [intOf]; omega
    · obtain rfl : k = 48 := by omega
      have SL := sched_len 48 M
      have SW := sched_words (n := 48) MW.out
      rw [ML.out] at SL
      obtain ⟨L, hL⟩ : ∃ L, schedN 48 M = L := ⟨_, rfl⟩
      have HL := Lib.hid hL
      rw [hL] at own SL SW
      have vL : SliceOf u64c wr u8 L := SliceOf.of_own own rfl
      have g1 := (hbr.block b (by have := HZ.out; omega)).trans G1.out
      have sS : SliceOf u8c wr (.slice (some ⟨b, 0, none⟩) 32 32) S := by
        have := co_slice g1 (by rw [HS.out]; decide)
        rwa [HS.out] at this
      have tr := tt.below' HZ.out hbr
      go_wp2_with fail
      refine (WS.out _ _ sS).mono ?_
      rintro e w3 ⟨vw, rfl, own3, q3⟩
      have VL := Lib.hid (words_len (l := S) (n := 8) HS.out)
      have VW := Lib.hid (words_words (l := S) bS (n := 8) HS.out)
      obtain ⟨V, hV⟩ : ∃ V, wordsN S = V := ⟨_, rfl⟩
      have HV := Lib.hid hV
      rw [hV] at own3 VL VW
      have sV : SliceOf u64c w3 vw V := SliceOf.of_own own3 rfl
      have hB0 : (w3.alloc (.cells #[] 44 (0, 0))).ownsRow w3.heap.size 44 1 (.slice (some ⟨w3.heap.size, 0, none⟩) 0 0) 0 [] := own_made0u (Nat.le_refl _)
      have c3 : Below w3.heap.size w3 (w3.alloc (.cells #[] 44 (0, 0))) := (Below.refl _ _).alloc (Nat.le_refl _) _
      have V8 := VL.out
      clear g1 hlt hk own hL hV own3 sS
      go_wp2_with (at_builtin; refine app_u64 (.tmp 89) (.tmp 90) rfl rfl w3.heap.size _ 0 [] rfl hB0 _ V rfl (sV.below c3) (by omega) (by simp) ?_; intro v4 w4 own4 hg4; have q4 : Below w3.heap.size w3 w4 := c3.grown hg4 (by simp) (fun k hk => (hB0.lt k hk).1))
      have s4 : SliceOf u64c w4 v4 V := SliceOf.of_own own4 (by simp)
      have T4 : SliceOf u64c w4 vt tableK := (tr.below q3).below q4
      have L4 : SliceOf u64c w4 u8 L := (vL.below q3).below q4
      have V4 : SliceOf u64c w4 vw V := sV.below q4
      have z3 : Z ≤ wr.heap.size := by have := hbr.size; have := HZ.out; omega
      have B4 : Below Z w1 w4 := (hbr.trans (q3.mono z3)).trans (q4.mono (Nat.le_trans z3 q3.size))
      have s4' : SliceOf u64c w4 v4 (listOf (roundsN tableK L 0 (stOf V))) := by rw [rounds_zero, list_of_st V8]; exact s4
      have OK := Lib.hid (fun k => rounds_ok tableK L (st_ok V8 VW.out) k)
      have W4 := Lib.hid (And.intro V4 B4)
      clear tr vL sV c3 q3 q4 hg4 own4 hB0 s4 V4 B4 tt hbr z3
      generalize hY : w4.heap.size = Y
      have HY := Lib.hid hY
      have bY : Below Y w4 w4 := Below.refl _ _
      clear hY
      go_loopw [13, 14] (fun v i wr => ∃ k : Nat, k ≤ 64 ∧ i = .int .i64 (k : Int) ∧ SliceOf u64c wr v (listOf (roundsN tableK L k (stOf V))) ∧ Below Y w4 wr) (fun _ i _ => 64 - (intOf i).toNat)
      case atStart => exact ⟨0, by omega, rfl, s4', bY⟩
      case round =>
        obtain ⟨k, hk, rfl, sv, hbr⟩ := hrel
        clear s4' bY
        by_cases hlt : k < 64
        · obtain ⟨t, ht, lt⟩ := at_some (l := tableK) (j := k) (by rw [table_len]; exact hlt) table_words
          obtain ⟨x, hx, lx⟩ := at_some (l := L) (j := k) (by rw [SL]; exact hlt) SW
          have RE := Lib.hid (round_eq tableK L k (stOf V) ht hx)
          obtain ⟨oa, ob, oc, od, oe, of_, og, oh⟩ := OK.out k
          obtain ⟨s, hs⟩ : ∃ s, roundsN tableK L k (stOf V) = s := ⟨_, rfl⟩
          rw [hs] at sv RE oa ob oc od oe of_ og oh
          obtain ⟨g, o, cap, rfl, c1, c2, cg⟩ := slice_at sv (n := 8) rfl (by decide)
          obtain ⟨gt, ot, ct, rfl, t1, t2, ctt⟩ := slice_at (T4.below' HY.out hbr) (n := 64) table_len (by decide)
          obtain ⟨gl, ol, cl, rfl, l1, l2, cll⟩ := slice_at (L4.below' HY.out hbr) (n := 64) SL (by decide)
          have CC : Cells10 wr g o s gt (ot + k) t gl (ol + k) x := ⟨cg 0 s.a rfl, cg 1 s.b rfl, cg 2 s.c rfl, cg 3 s.d rfl, cg 4 s.e rfl, cg 5 s.f rfl, cg 6 s.g rfl, cg 7 s.h rfl, ctt k t ht, cll k x hx⟩
          have ki : (k : Int) < 64 := by omega
          have kw : IntKind.i64.wrap (k : Int) = (k : Int) := wrap_small (by omega)
          have R6 := fun w => refRotr_any oe (n := 6) (by decide) w
          have R11 := fun w => refRotr_any oe (n := 11) (by decide) w
          have R25 := fun w => refRotr_any oe (n := 25) (by decide) w
          have XE := fun w => refXor_any (rotN_lt oe (n := 6) (by decide)) (rotN_lt oe (n := 11) (by decide)) (rotN_lt oe (n := 25) (by decide)) w
          have R2 := fun w => refRotr_any oa (n := 2) (by decide) w
          have R13 := fun w => refRotr_any oa (n := 13) (by decide) w
          have R22 := fun w => refRotr_any oa (n := 22) (by decide) w
          have XA := fun w => refXor_any (rotN_lt oa (n := 2) (by decide)) (rotN_lt oa (n := 13) (by decide)) (rotN_lt oa (n := 22) (by decide)) w
          have CH := fun w => refCh_any oe of_ og w
          have MJ := fun w => refMaj_any oa ob oc w
          have l3 := b1N_lt oe
          have l4 := b0N_lt oa
          have l5 := chN_lt (y := s.f) (z := s.g) oe
          have l6 := majN_lt (z := s.c) oa ob
          have RL := fun (rb rc ra rm : Nat) h1 h2 h3 h4 => round_list t x s (rb := rb) (rc := rc) (ra := ra) (rm := rm) h1 h2 h3 h4
          have eb : b1N s.e = xorN (rotN s.e 6) (rotN s.e 11) (rotN s.e 25) := by unfold b1N; rfl
          have ea : b0N s.a = xorN (rotN s.a 2) (rotN s.a 13) (rotN s.a 22) := by unfold b0N; rfl
          have RL2 := Lib.hid (RL _ _ _ _ eb rfl ea rfl)
          rw [eb] at l3
          rw [ea] at l4
          generalize rotN s.e 6 = r6 at *
          generalize rotN s.e 11 = r11 at *
          generalize rotN s.e 25 = r25 at *
          generalize xorN r6 r11 r25 = rb at *
          generalize rotN s.a 2 = r2 at *
          generalize rotN s.a 13 = r13 at *
          generalize rotN s.a 22 = r22 at *
          generalize xorN r2 r13 r22 = ra at *
          generalize chN s.e s.f s.g = rc at *
          generalize majN s.a s.b s.c = rm at *
          have C1 := Lib.hid (And.intro R6 (And.intro R11 (And.intro R25 XE)))
          have C2 := Lib.hid (And.intro R2 (And.intro R13 (And.intro R22 XA)))
          have C3 := Lib.hid (And.intro CH MJ)
          have LTS := Lib.hid (And.intro oa (And.intro od (And.intro oh (And.intro l3 (And.intro l5 (And.intro lt (And.intro lx (And.intro l4 l6))))))))
          clear R6 R11 R25 XE R2 R13 R22 XA CH MJ oa ob oc od oe of_ og oh l3 l4 l5 l6 lt lx RL ea eb cg ctt cll ht hx sv hs T4 L4
          obtain ⟨A0, A1, A2, A3, A4, A5, A6, A7, AT, AX⟩ := id CC
          go_wp2_with fail
          go_quiet (first
            | (go_at_call 51; first | (with_reducible exact Calls.quiet_of (C1.out.1 _)) | (with_reducible exact Calls.quiet_of (C1.out.2.1 _)) | (with_reducible exact Calls.quiet_of (C1.out.2.2.1 _)))
            | (go_at_call 50; with_reducible exact Calls.quiet_of_same (C1.out.2.2.2 _)))
          have CC1 : Cells10 (wr.drewN nq) g o s gt (ot + k) t gl (ol + k) x := CC
          have br1 : Below Y w4 (wr.drewN nq) := hbr.trans ⟨rfl, rfl, rfl, Nat.le_refl _, fun _ _ => rfl⟩
          clear A0 A1 A2 A3 A4 A5 A6 A7 AT AX CC hbr
          have CC := CC1
          have hbr := br1
          clear CC1 br1
          generalize wr.drewN nq = wa1 at *
          obtain ⟨A0, A1, A2, A3, A4, A5, A6, A7, AT, AX⟩ := id CC
          go_wp2_with fail
          go_quiet ((go_at_call 53; with_reducible exact Calls.quiet_of_same (C3.out.1 _)))
          obtain ⟨oa, od, oh, l3, l5, lt, lx, l4, l6⟩ := LTS.out
          have N1 := next_int5 ⟨oh, l3, l5, lt, lx⟩
          have m1 : (s.h + rb + rc + t + x) % 4294967296 < 4294967296 := Nat.mod_lt _ (by decide)
          have N2 := next_int2 ⟨l4, l6⟩
          have m2 : (ra + rm) % 4294967296 < 4294967296 := Nat.mod_lt _ (by decide)
          have RL := RL2.out
          generalize (s.h + rb + rc + t + x) % 4294967296 = n1 at *
          generalize (ra + rm) % 4294967296 = n2 at *
          have N3 := next_int2 ⟨m1, m2⟩
          have N4 := next_int2 ⟨od, m1⟩
          generalize (n1 + n2) % 4294967296 = n3 at *
          generalize (s.d + n1) % 4294967296 = n4 at *
          have H2 := Lib.hid N2
          have H3 := Lib.hid N3
          have H4 := Lib.hid N4
          have HRL := Lib.hid RL
          rw [N1]
          clear N1 N2 N3 N4 RL RL2 oa od oh l3 l5 lt lx l4 l6 m1 m2 C1
          have CC2 : Cells10 (wa1.drewN nq) g o s gt (ot + k) t gl (ol + k) x := CC
          have br2 : Below Y w4 (wa1.drewN nq) := hbr.trans ⟨rfl, rfl, rfl, Nat.le_refl _, fun _ _ => rfl⟩
          clear A0 A1 A2 A3 A4 A5 A6 A7 AT AX CC hbr
          have CC := CC2
          have hbr := br2
          clear CC2 br2
          generalize wa1.drewN nq = wa2 at *
          obtain ⟨A0, A1, A2, A3, A4, A5, A6, A7, AT, AX⟩ := id CC
          go_wp2_with fail
          go_quiet (first
            | (go_at_call 51; first | (with_reducible exact Calls.quiet_of (C2.out.1 _)) | (with_reducible exact Calls.quiet_of (C2.out.2.1 _)) | (with_reducible exact Calls.quiet_of (C2.out.2.2.1 _)))
            | (go_at_call 50; with_reducible exact Calls.quiet_of_same (C2.out.2.2.2 _)))
          have CC3 : Cells10 (wa2.drewN nq) g o s gt (ot + k) t gl (ol + k) x := CC
          have br3 : Below Y w4 (wa2.drewN nq) := hbr.trans ⟨rfl, rfl, rfl, Nat.le_refl _, fun _ _ => rfl⟩
          clear A0 A1 A2 A3 A4 A5 A6 A7 AT AX CC hbr
          have CC := CC3
          have hbr := br3
          clear CC3 br3
          generalize wa2.drewN nq = wa3 at *
          obtain ⟨A0, A1, A2, A3, A4, A5, A6, A7, AT, AX⟩ := id CC
          go_wp2_with fail
          go_quiet ((go_at_call 54; with_reducible exact Calls.quiet_of_same (C3.out.2 _)))
          rw [H2.out]
          clear C2 C3 H2
          have CC4 : Cells10 (wa3.drewN nq) g o s gt (ot + k) t gl (ol + k) x := CC
          have br4 : Below Y w4 (wa3.drewN nq) := hbr.trans ⟨rfl, rfl, rfl, Nat.le_refl _, fun _ _ => rfl⟩
          clear A0 A1 A2 A3 A4 A5 A6 A7 AT AX CC hbr
          have CC := CC4
          have hbr := br4
          clear CC4 br4
          generalize wa3.drewN nq = wa4 at *
          obtain ⟨A0, A1, A2, A3, A4, A5, A6, A7, AT, AX⟩ := id CC
          have S0 := Lib.hid (And.intro A0 (And.intro A1 (And.intro A2 (And.intro A3 (And.intro A4 (And.intro A5 A6))))))
          clear CC AT AX A7
          go_wp2_with fail
          go_region_held3 (fun w' => w'.cell? ⟨g, o, none⟩ = some (.int .u64 (s.a : Int)) ∧ w'.cell? ⟨g, o + 1, none⟩ = some (.int .u64 (s.b : Int)) ∧ w'.cell? ⟨g, o + 2, none⟩ = some (.int .u64 (s.c : Int)) ∧ w'.cell? ⟨g, o + 3, none⟩ = some (.int .u64 (s.d : Int)) ∧
            w'.cell? ⟨g, o + 4, none⟩ = some (.int .u64 (s.e : Int)) ∧ w'.cell? ⟨g, o + 5, none⟩ = some (.int .u64 (s.f : Int)) ∧ w'.cell? ⟨g, o + 6, none⟩ = some (.int .u64 (s.g : Int))) (first | exact S0.out | exact keep7 _ S0.out | assumption) (first | fail)
          have zY : Y ≤ wa4.heap.size := by have := hbr.size; have := HY.out; omega
          all_goals
            rw [H3.out, H4.out]
            go_wp2_with fail
            go_roundw
            case rel =>
              refine ⟨k + 1, by omega, by go_num, ?_, ?_⟩
              · rw [RE.out, HRL.out]
                first | exact row8 (w := wa4) | exact row8
              · first | exact hbr.alloc zY _ | exact (hbr.alloc zY _).drew
            case measure => simp [intOf]; omega
        · obtain rfl : k = 64 := by omega
          have CE := Lib.hid (compress_eq wd S K)
          rw [HV.out, HM.out, HL.out] at CE
          obtain ⟨T, hT⟩ : ∃ T, listOf (roundsN tableK L 64 (stOf V)) = T := ⟨_, rfl⟩
          have T8 : T.length = 8 := by rw [← hT]; rfl
          rw [hT] at sv CE
          have TW : Words T := by
            rw [← hT]
            obtain ⟨oa, ob, oc, od, oe, of_, og, oh⟩ := OK.out 64
            intro y hy
            simp only [listOf, List.mem_cons, List.not_mem_nil, or_false] at hy
            rcases hy with rfl | rfl | rfl | rfl | rfl | rfl | rfl | rfl <;> assumption
          have VWo := VW.out
          have sV := (W4.out.1).below' HY.out hbr
          have z4 : Z ≤ Y := by have := W4.out.2.size; have := HZ.out; have := HY.out; omega
          have B5 : Below Z w1 wr := W4.out.2.trans (hbr.mono z4)
          clear hT hlt hk OK SL SW T4 L4 HL
          obtain ⟨gv, ov, cv, rfl, v1, v2, cgv⟩ := slice_at sV (n := 8) V8 (by decide)
          obtain ⟨gt, ot, ct, rfl, t1, t2, cgt⟩ := slice_at sv (n := 8) T8 (by decide)
          have gvl : gv < wr.heap.size := block_lt_of_cell (cgv 0 _ (List.getElem?_eq_getElem (by omega)))
          have gtl : gt < wr.heap.size := block_lt_of_cell (cgt 0 _ (List.getElem?_eq_getElem (by omega)))
          have HCV := Lib.hid cgv
          have HCT := Lib.hid cgt
          clear cgv cgt sv sV hbr W4 HY
          obtain ⟨w5, hw5⟩ : ∃ w, w = wr := ⟨_, rfl⟩
          subst hw5
          go_wp2_with fail
          generalize hW6 : World.alloc w5 _ = w6
          have h6 : w6.heap[w5.heap.size]? = some (.cells (cellsOf' u8c (mapL (partF (sumsN V T) 0 0))) 23 (0, 0)) := by rw [← hW6, heap_alloc_new, part_start, ← mapL_zero]; rfl
          have q6 : Below w5.heap.size w5 w6 := by rw [← hW6]; exact (Below.refl _ _).alloc (Nat.le_refl _) _
          have z6 : Z ≤ w5.heap.size := by have := B5.size; have := HZ.out; omega
          obtain ⟨D, hD⟩ : ∃ D, sumsN V T = D := ⟨_, rfl⟩
          have HD := Lib.hid hD
          rw [hD] at h6
          generalize hQ : w5.heap.size = Q at *
          clear hW6 hQ hD
          go_loopw [20] (fun i wx => ∃ n : Nat, n ≤ 8 ∧ i = .int .i64 (n : Int) ∧ wx.heap[Q]? = some (.cells (cellsOf' u8c (mapL (partF D n 0))) 23 (0, 0)) ∧ Below Q w5 wx) (fun i _ => 8 - (intOf i).toNat)
          case atStart => exact ⟨0, by omega, rfl, h6, q6⟩
          case round =>
            obtain ⟨n, hn, rfl, hx, qx⟩ := hrel
            obtain ⟨wx, hwx⟩ : ∃ w, w = wr := ⟨_, rfl⟩
            subst hwx
            clear h6 q6
            by_cases hlt : n < 8
            · obtain ⟨x, ax, lx⟩ := at_some (l := V) (j := n) (by omega) VWo
              obtain ⟨t, at_, lt⟩ := at_some (l := T) (j := n) (by omega) TW
              have cx := (qx.cell (p := ⟨gv, ov + n, none⟩) gvl).trans (HCV.out n x ax)
              have ct' := (qx.cell (p := ⟨gt, ot + n, none⟩) gtl).trans (HCT.out n t at_)
              have DX : D[n]? = some ((x + t) % 4294967296) := by rw [← HD.out]; exact sums_at hlt ax at_
              have N1 := Lib.hid (next_int2 ⟨lx, lt⟩)
              have lX : (x + t) % 4294967296 < 4294967296 := Nat.mod_lt _ (by decide)
              obtain ⟨X, hX⟩ : ∃ X, (x + t) % 4294967296 = X := ⟨_, rfl⟩
              rw [hX] at DX N1 lX
              have HDX := Lib.hid DX
              have HX := Lib.hid hx
              have ni : (n : Int) < 8 := by omega
              have nw : IntKind.i64.wrap (n : Int) = (n : Int) := wrap_small (by omega)
              unfold u64c at cx ct'
              clear DX hX ax at_ lx lt hx
              go_wp2_with fail
              go_quiet (fail)
              rw [N1.out]
              have HX2 : (wx.drewN nq).heap[Q]? = some (.cells (cellsOf' u8c (mapL (partF D n 0))) 23 (0, 0)) := HX.out
              have qx2 : Below Q w5 (wx.drewN nq) := qx.trans ⟨rfl, rfl, rfl, Nat.le_refl _, fun _ _ => rfl⟩
              clear qx cx ct' HX N1
              generalize wx.drewN nq = wy at *
              go_wp2_with fail
              go_loopw [21, 22] (fun y j wz => ∃ m : Nat, m ≤ 4 ∧ j = .int .i64 ((m : Int) - 1) ∧ y = .int .u64 ((X / 256 ^ (4 - m) : Nat) : Int) ∧ wz.heap[Q]? = some (.cells (cellsOf' u8c (mapL (partF D n (4 - m)))) 23 (0, 0)) ∧ Below Q w5 wz) (fun _ j _ => (intOf j + 1).toNat)
              case atStart => exact ⟨4, by omega, rfl, by rw [Nat.sub_self, Nat.pow_zero, Nat.div_one], HX2, qx2⟩
              case round =>
                obtain ⟨m, hm, rfl, rfl, hz, qz⟩ := hrel
                obtain ⟨wz, hwz⟩ : ∃ w, w = wr := ⟨_, rfl⟩
                subst hwz
                clear HX2 qx2
                by_cases hm0 : 0 < m
                · obtain ⟨c, rfl⟩ : ∃ c, m = c + 1 := ⟨m - 1, by omega⟩
                  have ej : ((c + 1 : Nat) : Int) - 1 = (c : Int) := by omega
                  rw [ej]
                  clear ej
                  have k3 : 4 - (c + 1) = 3 - c := by omega
                  have k4 : 4 - c = 3 - c + 1 := by omega
                  rw [k3] at hz ⊢
                  have NH := Lib.hid (next_half X (3 - c))
                  have PS := part_set (D := D) (i := n) (k := 3 - c) (x := X) (by omega) HDX.out
                  rw [show 3 - (3 - c) = c by omega] at PS
                  obtain ⟨p, hp⟩ : ∃ p, 4 * n + c = p := ⟨_, rfl⟩
                  rw [hp] at PS
                  have p32 : p < 32 := by omega
                  have hcell := co_cell hz (mapL_get _ p32)
                  have hfree := co_free (k := p) hz
                  have hst := co_store hz (k := p) (X / 256 ^ (3 - c) % 256)
                  rw [PS] at hst
                  have HST := Lib.hid hst
                  have HK4 := Lib.hid k4
                  have ly : X / 256 ^ (3 - c) < 4294967296 := Nat.lt_of_le_of_lt (Nat.div_le_self _ _) lX
                  have pi : 4 * (n : Int) + (c : Int) = (p : Int) := by omega
                  have pj : (p : Int) < 32 := by omega
                  unfold u8c at hcell
                  generalize X / 256 ^ (3 - c) = y at *
                  have yi : (y : Int) ≤ 4294967295 := by omega
                  clear PS hst hp k3 k4 hz
                  go_wp2
                  go_roundw
                  case rel => exact ⟨c, by omega, rfl, by rw [HK4.out, ← NH.out]; rfl, by rw [HK4.out]; exact HST.out, qz.setCell (Nat.le_refl _) _⟩
                  case measure => simp [intOf]
                · obtain rfl : m = 0 := by omega
                  rw [show 4 - 0 = 4 from rfl, part_next] at hz
                  have HZ2 := Lib.hid hz
                  clear hz
                  go_wp2
                  go_roundw
                  case rel => exact ⟨n + 1, by omega, by go_num, HZ2.out, qz⟩
                  case measure => simp [intOf]; omega
            · obtain rfl : n = 8 := by omega
              rw [part_end] at hx
              have D8 : D.length = 8 := by rw [← HD.out]; exact sums_length _ _
              rw [bytes_mapL D8] at hx
              have b32 : (bytesN D).length = 32 := by rw [← bytes_mapL D8]; exact mapL_length _
              have CO := Lib.hid (cutOff_any (w := wd) (l := bytesN D) b32)
              have hs : (cellsOf' u8c (bytesN D)).size = 32 := by rw [co_size, b32]
              have hc : (cellsOf' u8c (cutL wd (bytesN D))).size = 32 := by rw [co_size, cutL_length b32, b32]
              have G5 := (B5.trans (qx.mono z6)).block (b + 2) (by omega)
              have G6 := Lib.hid (G5.trans G3.out)
              rw [HD.out] at CE
              have B6 : Below b W wx := b1.trans ((B5.trans (qx.mono z6)).mono (by omega))
              have zx : Q < wx.heap.size := lt_of_heap hx
              have zb : b + 2 < wx.heap.size := by omega
              have zc : b ≤ wx.heap.size := by omega
              have HX := Lib.hid hx
              clear hx G5 qx hlt hn
              go_wp2_with (first | (refine wpList_load_row rfl 23 _ rfl Q rfl 23 _ (0, 0) _ HX.out Tryd.underlying23 rfl (by rw [hs]; exact size_32) ?_) | (go_at_call 55; refine (CO.out _).mono ?_; rintro e w9 ⟨rfl, q9⟩; have G9 := Lib.hid ((q9.block (b + 2) zb).trans G6.out)) | (refine wpList_store_row rfl 23 _ _ rfl (b + 2) _ rfl rfl 23 _ G9.out (by rw [hc]; exact size_32) (by rw [hc]; rfl) (co_one u8c_one) ?_))
              refine bodyPost_ret (results_cell_row rfl _ _ (b + 2) 23 _ (0, 0) _ rfl (setRow_heap _ _ _ _ _ _ G9.out) Tryd.underlying23 rfl (by rw [hc]; exact size_32)) rfl ⟨by rw [CE.out], below_setRow (by rw [HW.out]; exact B6.trans (q9.mono zc)) (by have := HW.out; omega) _⟩
end Go.Proofs.YtcifnfffoiiceaaDoor
