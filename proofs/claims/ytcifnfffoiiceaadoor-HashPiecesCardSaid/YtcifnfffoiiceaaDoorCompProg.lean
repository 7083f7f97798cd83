/-
  The walk of the program's step of the hash.
-/
import Derived.Test.YtcifnfffoiiceaaDoorSchedW
import Derived.Deep.RegionLaw
namespace Go.Proofs.YtcifnfffoiiceaaDoor
open Go.RowKit
set_option linter.unusedVariables false
set_option pp.deepTerms true
set_option pp.maxSteps 1000000

set_option maxRecDepth 8000 in
set_option maxHeartbeats 4000000 in
theorem Compress_any {wd : Int} {S K : List Nat} (hS : S.length = 32) (hK : K.length = 64) (bS : Bytes S) (bK : Bytes K) (W : World) (DA : DoorAt W) :
    Calls Tryd.prog 12 #[.int .i64 wd, .agg (cellsOf' u8c S), .agg (cellsOf' u8c K)] W fun e w' => e = .returned (.agg (cellsOf' u8c (compressN wd S K))) ∧ Below W.heap.size W w' := by
  have hA : (cellsOf' u8c S).size = 32 := by rw [co_size, hS]
  have hB : (cellsOf' u8c K).size = 64 := by rw [co_size, hK]
  obtain ⟨A, eA⟩ : ∃ A, cellsOf' u8c S = A := ⟨_, rfl⟩
  obtain ⟨B, eB⟩ : ∃ B, cellsOf' u8c K = B := ⟨_, rfl⟩
  have EA := Lib.hid eA
  have EB := Lib.hid eB
  rw [eA] at hA ⊢
  rw [eB] at hB ⊢
  have HS := Lib.hid hS
  have HK := Lib.hid hK
  clear eA eB hS hK
  go_enter Tryd.func12, Tryd.ntmps12
  go_wp2_with fail
  obtain ⟨f1, f2, f3, f4, fs, fb⟩ := alloc4 W (.cells A 23 (0, 0)) (.cells B 24 (0, 0)) (.cells (cellsOf' u8c (List.replicate 32 0)) 23 (0, 0)) (.cells (cellsOf' u32c (List.replicate 64 0)) 64 (0, 0))
  have hw0 : ∀ w0, w0 = (((W.alloc (.cells A 23 (0, 0))).alloc (.cells B 24 (0, 0))).alloc (.cells (cellsOf' u8c (List.replicate 32 0)) 23 (0, 0))).alloc (.cells (cellsOf' u32c (List.replicate 64 0)) 64 (0, 0)) → True := fun _ _ => trivial
  generalize hW0 : World.alloc (World.alloc (World.alloc (World.alloc W _) _) _) _ = w0
  change (((W.alloc (.cells A 23 (0, 0))).alloc (.cells B 24 (0, 0))).alloc (.cells (cellsOf' u8c (List.replicate 32 0)) 23 (0, 0))).alloc (.cells (cellsOf' u32c (List.replicate 64 0)) 64 (0, 0)) = w0 at hW0
  rw [hW0] at f1 f2 f3 f4 fs fb
  clear hW0 hw0
  rw [← EA.out] at f1
  rw [← EB.out] at f2
  have D0 := DA.below fb
  generalize hWb : W.heap.size = b at *
  have HW := Lib.hid hWb
  have G1 := Lib.hid f1
  have G2 := Lib.hid f2
  have G3 := Lib.hid f3
  have FS := Lib.hid fs
  have HD := Lib.hid D0
  have hb2 : 1 < b := by have := DA.1; omega
  clear hWb f1 f2 f3 fs DA D0
  have ML := words_len (l := K) (n := 16) HK.out
  have MW := words_words (l := K) bK (n := 16) HK.out
  have WB := Lib.hid (fun n (h : 4 * n + 4 ≤ K.length) => word_big (l := K) (n := n) h)
  obtain ⟨M, hM⟩ : ∃ M, wordsN K = M := ⟨_, rfl⟩
  have HM := Lib.hid hM
  rw [hM] at ML MW WB
  have F64 : (schedN 48 M).length = 64 := by rw [sched_len, ML]
  have FW := Lib.hid (sched_words (n := 48) MW)
  have SLo := Lib.hid (fun n hn => sched_low ML (n := n) hn)
  have SWd := Lib.hid (fun m x2 x7 x15 x16 => sched_word ML (m := m) (x2 := x2) (x7 := x7) (x15 := x15) (x16 := x16))
  obtain ⟨F, hF⟩ : ∃ F, schedN 48 M = F := ⟨_, rfl⟩
  have HF := Lib.hid hF
  rw [hF] at F64 FW SLo SWd
  clear hM hF MW
  rw [← padW_zero F] at f4
  have b0 : Below (b + 3) w0 w0 := Below.refl _ _
  go_loopw [29] (fun i wr => ∃ n : Nat, n ≤ 64 ∧ i = .int .i64 (n : Int) ∧ wr.heap[b + 3]? = some (.cells (cellsOf' u32c (padW F n)) 64 (0, 0)) ∧ Below (b + 3) w0 wr) (fun i _ => 64 - (intOf i).toNat)
  case atStart => exact ⟨0, by omega, rfl, f4, b0⟩
  case round =>
    obtain ⟨n, hn, rfl, hx, qx⟩ := hrel
    clear f4 b0
    by_cases h16 : n < 16
    · have g2 := (qx.block (b + 1) (by omega)).trans G2.out
      have sB : SliceOf u8c wr (.slice (some ⟨b + 1, 0, none⟩) 64 64) K := by
        have := co_slice g2 (by rw [HK.out]; decide)
        rwa [HK.out] at this
      rw [← HK.out] at sB
      have WD := word_any (k := n) wr sB bK (by rw [HK.out]; omega) (by rw [HK.out]; decide) (Nat.le_refl _)
      rw [HK.out] at WD
      have fx := (SLo.out n h16).trans (WB.out n (by rw [HK.out]; omega))
      obtain ⟨x, hxx⟩ : ∃ x, bigV ((K.drop (4 * n)).take 4) = x := ⟨_, rfl⟩
      rw [hxx] at WD fx
      have hcell := co_cell hx (List.getElem?_eq_getElem (by rw [padW_length F64 hn]; omega) : (padW F n)[n]? = some _)
      have hfree := co_free (k := n) hx
      have hst := co_store hx (k := n) x
      rw [padW_set F64 (by omega) fx] at hst
      have HST := Lib.hid hst
      unfold u32c at hcell
      have ni : (n : Int) < 16 := by omega
      clear hx hst g2 sB fx hxx
      go_wp2_with fail
      refine WD.mono ?_
      rintro e w' ⟨rfl, rfl⟩
      go_wp2
      go_roundw
      case rel => exact ⟨n + 1, by omega, by go_num, HST.out, qx.setCell (Nat.le_refl _) _⟩
      case measure => simp [intOf]; omega
    · by_cases hlt : n < 64
      · obtain ⟨x2, h2, l2⟩ := at_some (l := F) (j := n - 2) (by omega) FW.out
        obtain ⟨x7, h7, l7⟩ := at_some (l := F) (j := n - 7) (by omega) FW.out
        obtain ⟨x15, h15, l15⟩ := at_some (l := F) (j := n - 15) (by omega) FW.out
        obtain ⟨x16, hx16, l16⟩ := at_some (l := F) (j := n - 16) (by omega) FW.out
        have fx := SWd.out n x2 x7 x15 x16 (by omega) hlt h2 h7 h15 hx16
        have c2 := co_cell hx (padW_at F64 hn (by omega) h2)
        have c7 := co_cell hx (padW_at F64 hn (by omega) h7)
        have c15 := co_cell hx (padW_at F64 hn (by omega) h15)
        have c16 := co_cell hx (padW_at F64 hn (by omega) hx16)
        unfold u32c at c2 c7 c15 c16
        clear h2 h7 h15 hx16
        have mj : (16 : Int) ≤ (n : Int) := by omega
        have mi : (n : Int) < 64 := by omega
        have e2 : (n : Int) - 2 = ((n - 2 : Nat) : Int) := by omega
        have e7 : (n : Int) - 7 = ((n - 7 : Nat) : Int) := by omega
        have e15 : (n : Int) - 15 = ((n - 15 : Nat) : Int) := by omega
        have e16 : (n : Int) - 16 = ((n - 16 : Nat) : Int) := by omega
        have a2 : ((n - 2 : Nat) : Int) < 64 := by omega
        have a7 : ((n - 7 : Nat) : Int) < 64 := by omega
        have a15 : ((n - 15 : Nat) : Int) < 64 := by omega
        have a16 : ((n - 16 : Nat) : Int) < 64 := by omega
        obtain ⟨m2, hm2⟩ : ∃ q, n - 2 = q := ⟨_, rfl⟩
        obtain ⟨m7, hm7⟩ : ∃ q, n - 7 = q := ⟨_, rfl⟩
        obtain ⟨m15, hm15⟩ : ∃ q, n - 15 = q := ⟨_, rfl⟩
        obtain ⟨m16, hm16⟩ : ∃ q, n - 16 = q := ⟨_, rfl⟩
        rw [hm2] at c2 e2 a2
        rw [hm7] at c7 e7 a7
        rw [hm15] at c15 e15 a15
        rw [hm16] at c16 e16 a16
        clear hm2 hm7 hm15 hm16
        have v2 : IntKind.i64.wrap (m2 : Int) = (m2 : Int) := wrap_small (by omega)
        have v7 : IntKind.i64.wrap (m7 : Int) = (m7 : Int) := wrap_small (by omega)
        have v15 : IntKind.i64.wrap (m15 : Int) = (m15 : Int) := wrap_small (by omega)
        have v16 : IntKind.i64.wrap (m16 : Int) = (m16 : Int) := wrap_small (by omega)
        have R7 : ∀ w : World, Calls Tryd.prog 45 #[.int .u32 (x15 : Int), .int .i64 7] w fun e w' => e = .returned (.int .u32 ((rotN x15 7 : Nat) : Int)) ∧ w' = w := fun w => rotr_any l15 (n := 7) (by decide) (by decide) w
        have R18 : ∀ w : World, Calls Tryd.prog 45 #[.int .u32 (x15 : Int), .int .i64 18] w fun e w' => e = .returned (.int .u32 ((rotN x15 18 : Nat) : Int)) ∧ w' = w := fun w => rotr_any l15 (n := 18) (by decide) (by decide) w
        have R17 : ∀ w : World, Calls Tryd.prog 45 #[.int .u32 (x2 : Int), .int .i64 17] w fun e w' => e = .returned (.int .u32 ((rotN x2 17 : Nat) : Int)) ∧ w' = w := fun w => rotr_any l2 (n := 17) (by decide) (by decide) w
        have R19 : ∀ w : World, Calls Tryd.prog 45 #[.int .u32 (x2 : Int), .int .i64 19] w fun e w' => e = .returned (.int .u32 ((rotN x2 19 : Nat) : Int)) ∧ w' = w := fun w => rotr_any l2 (n := 19) (by decide) (by decide) w
        have XB := xor3 (rotN_lt l15 (n := 7) (by decide)) (rotN_lt l15 (n := 18) (by decide)) (shr_lt (n := 3) l15)
        have XA := xor3 (rotN_lt l2 (n := 17) (by decide)) (rotN_lt l2 (n := 19) (by decide)) (shr_lt (n := 10) l2)
        have D3 : (x15 : Int) / 8 = ((x15 / 2 ^ 3 : Nat) : Int) := by omega
        have D10 : (x2 : Int) / 1024 = ((x2 / 2 ^ 10 : Nat) : Int) := by omega
        have YB := xorN_lt (rotN_lt l15 (n := 7) (by decide)) (rotN_lt l15 (n := 18) (by decide)) (shr_lt (n := 3) l15)
        have YA := xorN_lt (rotN_lt l2 (n := 17) (by decide)) (rotN_lt l2 (n := 19) (by decide)) (shr_lt (n := 10) l2)
        generalize rotN x2 17 = r17 at *
        generalize rotN x2 19 = r19 at *
        generalize x2 / 2 ^ 10 = s10 at *
        generalize xorN r17 r19 s10 = sA at *
        generalize rotN x15 7 = r7 at *
        generalize rotN x15 18 = r18 at *
        generalize x15 / 2 ^ 3 = s3 at *
        generalize xorN r7 r18 s3 = sB at *
        obtain ⟨uB, B1, B2⟩ := XB
        obtain ⟨uA, A1, A2⟩ := XA
        have LT := Lib.hid (And.intro YA (And.intro l7 (And.intro YB l16)))
        have C1 := Lib.hid (And.intro R7 (And.intro R18 (And.intro R17 R19)))
        clear R7 R18 R17 R19 YA YB l7 l16 l2 l15
        go_wp2_with fail
        go_quiet (fail)
        have hxN : (wr.drewN nq).heap[b + 3]? = some (.cells (cellsOf' u32c (padW F n)) 64 (0, 0)) := hx
        have qxN : Below (b + 3) w0 (wr.drewN nq) := qx.trans ⟨rfl, rfl, rfl, Nat.le_refl _, fun _ _ => rfl⟩
        have cc7 : (wr.drewN nq).cell? ⟨b + 3, m7, none⟩ = some (.int .u32 (x7 : Int)) := c7
        have cc16 : (wr.drewN nq).cell? ⟨b + 3, m16, none⟩ = some (.int .u32 (x16 : Int)) := c16
        clear hx qx c2 c7 c15 c16 a2 a15 e2 e15 v2 v15
        generalize wr.drewN nq = wx at *
        go_wp2_with (first
          | (go_at_call 45; (first | (with_reducible refine (C1.out.1 _).mono ?_) | (with_reducible refine (C1.out.2.1 _).mono ?_) | (with_reducible refine (C1.out.2.2.1 _).mono ?_) | (with_reducible refine (C1.out.2.2.2 _).mono ?_)); rintro e w' ⟨rfl, rfl⟩))
        have N1 := next_mod32 sA x7 sB x16
        obtain ⟨X, hX⟩ : ∃ X, (sA + x7 + sB + x16) % 4294967296 = X := ⟨_, rfl⟩
        rw [hX] at fx N1
        have N1 := Lib.hid N1
        have hst := co_store hxN (k := n) X
        rw [padW_set F64 hlt fx] at hst
        have HST := Lib.hid hst
        have hcell := co_cell hxN (List.getElem?_eq_getElem (by rw [padW_length F64 hn]; omega) : (padW F n)[n]? = some _)
        have hfree := co_free (k := n) hxN
        unfold u32c at hcell
        clear hst fx hxN hX LT C1
        go_wp2_with fail
        go_region
        all_goals
          (try rw [N1.out])
          go_wp2_with fail
          go_roundw
          case rel => exact ⟨n + 1, by omega, by go_num, HST.out, by first | exact (qxN.setCell (Nat.le_refl _) _).drew | exact qxN.setCell (Nat.le_refl _) _⟩
          case measure => simp [intOf]; omega
      · obtain rfl : n = 64 := by omega
        rw [padW_full F64] at hx
        rw [show ((64 : Nat) : Int) = 64 from rfl]
        have VL := words_len (l := S) (n := 8) HS.out
        have VW := Lib.hid (words_words (l := S) bS (n := 8) HS.out)
        have WC := Lib.hid (fun n (h : 4 * n + 4 ≤ S.length) => word_big (l := S) (n := n) h)
        obtain ⟨V, hV⟩ : ∃ V, wordsN S = V := ⟨_, rfl⟩
        have HV := Lib.hid hV
        rw [hV] at VL VW WC
        obtain ⟨w5, hw5⟩ : ∃ w, w = wr := ⟨_, rfl⟩
        subst hw5
        have HX := Lib.hid hx
        have QX := Lib.hid qx
        have hQ0 : b + 4 ≤ w5.heap.size := by have := qx.size; have := FS.out; omega
        clear hx qx hV SWd SLo WB hlt h16 hn
        go_wp2_with fail
        generalize hW6 : World.alloc w5 _ = w6
        have h6 : w6.heap[w5.heap.size]? = some (.cells (cellsOf' u32c (padV 8 V 0)) 68 (0, 0)) := by rw [← hW6, heap_alloc_new, padV_zero]; rfl
        have q6 : Below w5.heap.size w5 w6 := by rw [← hW6]; exact (Below.refl _ _).alloc (Nat.le_refl _) _
        have z6 : w6.heap.size = w5.heap.size + 1 := by rw [← hW6]; simp
        generalize hQ : w5.heap.size = Q at *
        clear hW6 hQ
        go_loopw [79] (fun i wx => ∃ n : Nat, n ≤ 8 ∧ i = .int .i64 (n : Int) ∧ wx.heap[Q]? = some (.cells (cellsOf' u32c (padV 8 V n)) 68 (0, 0)) ∧ Below Q w5 wx) (fun i _ => 8 - (intOf i).toNat)
        case atStart => exact ⟨0, by omega, rfl, h6, q6⟩
        case round =>
          obtain ⟨n, hn, rfl, hx, qx⟩ := hrel
          clear h6 q6
          by_cases h8 : n < 8
          · have g2 := (qx.block b (by omega)).trans ((QX.out.block b (by omega)).trans G1.out)
            have sB : SliceOf u8c wr (.slice (some ⟨b, 0, none⟩) 32 32) S := by
              have := co_slice g2 (by rw [HS.out]; decide)
              rwa [HS.out] at this
            rw [← HS.out] at sB
            have WD := word_any (k := n) wr sB bS (by rw [HS.out]; omega) (by rw [HS.out]; decide) (Nat.le_refl _)
            rw [HS.out] at WD
            have fx := WC.out n (by rw [HS.out]; omega)
            obtain ⟨x, hxx⟩ : ∃ x, bigV ((S.drop (4 * n)).take 4) = x := ⟨_, rfl⟩
            rw [hxx] at WD fx
            have hcell := co_cell hx (List.getElem?_eq_getElem (by rw [padV_length VL hn]; omega) : (padV 8 V n)[n]? = some _)
            have hfree := co_free (k := n) hx
            have hst := co_store hx (k := n) x
            rw [padV_set VL h8 fx] at hst
            have HST := Lib.hid hst
            unfold u32c at hcell
            have ni : (n : Int) < 8 := by omega
            clear hx hst g2 sB fx hxx
            go_wp2_with fail
            refine WD.mono ?_
            rintro e w' ⟨rfl, rfl⟩
            go_wp2
            go_roundw
            case rel => exact ⟨n + 1, by omega, by go_num, HST.out, qx.setCell (Nat.le_refl _) _⟩
            case measure => simp [intOf]; omega
          · obtain rfl : n = 8 := by omega
            rw [padV_full VL] at hx
            rw [show ((8 : Nat) : Int) = 8 from rfl]
            have hv8 := Lib.hid (by rw [co_size, VL] : (cellsOf' u32c V).size = 8)
            have hVL := Lib.hid VL
            obtain ⟨w7, hw7⟩ : ∃ w, w = wr := ⟨_, rfl⟩
            subst hw7
            have HQ := Lib.hid hx
            clear hn h8 WC VL
            go_wp2_with (first | (refine wpList_load_row rfl 68 _ rfl Q rfl 68 _ (0, 0) _ HQ.out Tryd.underlying68 rfl (by rw [hv8.out]; exact size_w8) ?_) | (refine wpList_store_row rfl 68 _ _ rfl _ _ rfl rfl 68 _ (heap_alloc_new _ _) (by rw [hv8.out]; exact size_w8) (by rw [hv8.out]; rfl) (co_one u32c_one) ?_))
            generalize hW8 : World.setRow (World.alloc w7 _) _ _ = w8
            have h8 : w8.heap[w7.heap.size]? = some (.cells (cellsOf' u32c (listOf (roundsN tableK F 0 (stOf V)))) 68 (0, 0)) := by rw [← hW8, setRow_alloc, heap_alloc_new, rounds_zero, list_of_st hVL.out]
            have q8 : Below w7.heap.size w7 w8 := by rw [← hW8, setRow_alloc]; exact (Below.refl _ _).alloc (Nat.le_refl _) _
            have QR : Q < w7.heap.size := lt_of_heap HQ.out
            have T7 : DoorAt w7 := (HD.out.low (by omega) QX.out).low (by omega) qx
            have X7 : w7.heap[b + 3]? = some (.cells (cellsOf' u32c F) 64 (0, 0)) := (qx.block _ (by omega)).trans HX.out
            have OK := Lib.hid (fun k => rounds_ok tableK F (st_ok hVL.out VW.out) k)
            have QQ := Lib.hid qx
            have HT7 := Lib.hid T7
            have HX7 := Lib.hid X7
            generalize hR : w7.heap.size = R at *
            have HR := Lib.hid hR
            clear hW8 hR T7 X7 qx
            go_loopw [89] (fun i wx => ∃ k : Nat, k ≤ 64 ∧ i = .int .i64 (k : Int) ∧ wx.heap[R]? = some (.cells (cellsOf' u32c (listOf (roundsN tableK F k (stOf V)))) 68 (0, 0)) ∧ Below R w7 wx) (fun i _ => 64 - (intOf i).toNat)
            case atStart => exact ⟨0, by omega, rfl, h8, q8⟩
            case round =>
              obtain ⟨k, hk, rfl, hx, qx⟩ := hrel
              clear h8 q8
              by_cases hlt : k < 64
              · obtain ⟨t, ht, lt⟩ := at_some (l := tableK) (j := k) (by rw [table_len]; exact hlt) table_words
                obtain ⟨x, hxk, lx⟩ := at_some (l := F) (j := k) (by rw [F64]; exact hlt) FW.out
                have RE := Lib.hid (round_eq tableK F k (stOf V) ht hxk)
                obtain ⟨oa, ob, oc, od, oe, of_, og, oh⟩ := OK.out k
                obtain ⟨s, hs⟩ : ∃ s, roundsN tableK F k (stOf V) = s := ⟨_, rfl⟩
                rw [hs] at hx RE oa ob oc od oe of_ og oh
                have CC : RoundCells wr R s (b + 3) k t x := ⟨co_cell hx rfl, co_cell hx rfl, co_cell hx rfl, co_cell hx rfl, co_cell hx rfl, co_cell hx rfl, co_cell hx rfl, co_cell hx rfl, (HT7.out.low (by omega) qx).2.1 k t ht, co_cell ((qx.block _ (by omega)).trans HX7.out) hxk⟩
                have HX8 := Lib.hid hx
                have ki : (k : Int) < 64 := by omega
                have kw : IntKind.i64.wrap (k : Int) = (k : Int) := wrap_small (by omega)
                clear hx hxk ht
                have R6 : ∀ w : World, Calls Tryd.prog 45 #[.int .u32 (s.e : Int), .int .i64 6] w fun e w' => e = .returned (.int .u32 ((rotN s.e 6 : Nat) : Int)) ∧ w' = w := fun w => rotr_any oe (n := 6) (by decide) (by decide) w
                have R11 : ∀ w : World, Calls Tryd.prog 45 #[.int .u32 (s.e : Int), .int .i64 11] w fun e w' => e = .returned (.int .u32 ((rotN s.e 11 : Nat) : Int)) ∧ w' = w := fun w => rotr_any oe (n := 11) (by decide) (by decide) w
                have R25 : ∀ w : World, Calls Tryd.prog 45 #[.int .u32 (s.e : Int), .int .i64 25] w fun e w' => e = .returned (.int .u32 ((rotN s.e 25 : Nat) : Int)) ∧ w' = w := fun w => rotr_any oe (n := 25) (by decide) (by decide) w
                have R2 : ∀ w : World, Calls Tryd.prog 45 #[.int .u32 (s.a : Int), .int .i64 2] w fun e w' => e = .returned (.int .u32 ((rotN s.a 2 : Nat) : Int)) ∧ w' = w := fun w => rotr_any oa (n := 2) (by decide) (by decide) w
                have R13 : ∀ w : World, Calls Tryd.prog 45 #[.int .u32 (s.a : Int), .int .i64 13] w fun e w' => e = .returned (.int .u32 ((rotN s.a 13 : Nat) : Int)) ∧ w' = w := fun w => rotr_any oa (n := 13) (by decide) (by decide) w
                have R22 : ∀ w : World, Calls Tryd.prog 45 #[.int .u32 (s.a : Int), .int .i64 22] w fun e w' => e = .returned (.int .u32 ((rotN s.a 22 : Nat) : Int)) ∧ w' = w := fun w => rotr_any oa (n := 22) (by decide) (by decide) w
                have XE := xor3 (rotN_lt oe (n := 6) (by decide)) (rotN_lt oe (n := 11) (by decide)) (rotN_lt oe (n := 25) (by decide))
                have XA := xor3 (rotN_lt oa (n := 2) (by decide)) (rotN_lt oa (n := 13) (by decide)) (rotN_lt oa (n := 22) (by decide))
                have CH := ch3 oe of_ og
                have MJ := maj3 oa ob oc
                have eb : b1N s.e = xorN (rotN s.e 6) (rotN s.e 11) (rotN s.e 25) := by unfold b1N; rfl
                have ea : b0N s.a = xorN (rotN s.a 2) (rotN s.a 13) (rotN s.a 22) := by unfold b0N; rfl
                have RL := round_list t x s eb rfl ea rfl
                generalize rotN s.e 6 = r6 at *
                generalize rotN s.e 11 = r11 at *
                generalize rotN s.e 25 = r25 at *
                generalize xorN r6 r11 r25 = rb at *
                generalize rotN s.a 2 = r2 at *
                generalize rotN s.a 13 = r13 at *
                generalize rotN s.a 22 = r22 at *
                generalize xorN r2 r13 r22 = ra at *
                generalize chN s.e s.f s.g = rc at *
                generalize majN s.a s.b s.c = rm at *
                have N1 := next_mod5b s.h rb rc t x
                generalize (s.h + rb + rc + t + x) % 4294967296 = n1 at *
                have N3 := next_mod3 n1 ra rm
                generalize (ra + rm) % 4294967296 = n2 at *
                have N4 := next_mod2 s.d n1
                generalize (n1 + n2) % 4294967296 = n3 at *
                generalize (s.d + n1) % 4294967296 = n4 at *
                have C1 := Lib.hid (And.intro R6 (And.intro R11 R25))
                have C2 := Lib.hid (And.intro R2 (And.intro R13 R22))
                have HRL := Lib.hid RL
                have H1 := Lib.hid N1
                have H3 := Lib.hid N3
                have H4 := Lib.hid N4
                have HMJ := Lib.hid MJ
                have HXA := Lib.hid XA
                obtain ⟨uE, E1, E2⟩ := XE
                obtain ⟨y1, y2, y3, Y1, Y2, Y3, Y4⟩ := CH
                clear R6 R11 R25 XA R2 R13 R22 MJ oa ob oc od oe of_ og oh lt lx RL N1 N3 N4 ea eb hs
                obtain ⟨A0, A1, A2, A3, A4, A5, A6, A7, AT, AX⟩ := id CC
                go_wp2_with fail
                go_quiet (fail)
                have CC1 : RoundCells (wr.drewN nq) R s (b + 3) k t x := CC
                have br1 : Below R w7 (wr.drewN nq) := below_drew qx _
                have HX9 : Hid ((wr.drewN nq).heap[R]? = some (.cells (cellsOf' u32c (listOf s)) 68 (0, 0))) := Lib.hid HX8.out
                clear A0 A1 A2 A3 A4 A5 A6 A7 AT AX CC qx HX8
                generalize wr.drewN nq = wa at *
                obtain ⟨A0, A1, A2, A3, A4, A5, A6, A7, AT, AX⟩ := id CC1
                go_wp2_with fail
                go_quiet ((go_at_call 45; first | (with_reducible exact Calls.quiet_of_same (C1.out.1 _)) | (with_reducible exact Calls.quiet_of_same (C1.out.2.1 _)) | (with_reducible exact Calls.quiet_of_same (C1.out.2.2 _))))
                rw [H1.out]
                have CC2 : RoundCells (wa.drewN nq) R s (b + 3) k t x := CC1
                have br2 : Below R w7 (wa.drewN nq) := below_drew br1 _
                have HXa : Hid ((wa.drewN nq).heap[R]? = some (.cells (cellsOf' u32c (listOf s)) 68 (0, 0))) := Lib.hid HX9.out
                clear A0 A1 A2 A3 A4 A5 A6 A7 AT AX CC1 br1 HX9 C1 E1 E2 Y1 Y2 Y3 Y4
                generalize wa.drewN nq = wb at *
                have A3 := CC2.2.2.2.1
                obtain ⟨uA, E1, E2⟩ := HXA.out
                obtain ⟨z1, z2, z3, z4, Z1, Z2, Z3, Z4, Z5⟩ := HMJ.out
                clear CC2 HXA HMJ kw
                go_wp2_with (first | (go_at_call 45; (first | (with_reducible refine (C2.out.1 _).mono ?_) | (with_reducible refine (C2.out.2.1 _).mono ?_) | (with_reducible refine (C2.out.2.2 _).mono ?_)); rintro e w' ⟨rfl, rfl⟩) | (refine wpList_store_row rfl 68 _ _ rfl R (cellsOf' u32c [n3, s.a, s.b, s.c, n4, s.e, s.f, s.g]) rfl (by change Value.agg #[Value.int .u32 (((n1 : Int) + ((ra : Int) + (rm : Int))) % 4294967296), .int .u32 (s.a : Int), .int .u32 (s.b : Int), .int .u32 (s.c : Int), .int .u32 (((s.d : Int) + (n1 : Int)) % 4294967296), .int .u32 (s.e : Int), .int .u32 (s.f : Int), .int .u32 (s.g : Int)] = _; rw [H3.out, H4.out]; rfl) 68 _ HXa.out (info8 _ _ _ _ _ _ _ _) (hold8 _ _ _ _ _ _ _ _ _) (one8 _ _ _ _ _ _ _ _) ?_))
                go_roundw
                case rel =>
                  refine ⟨k + 1, by omega, by go_num, ?_, below_setRow br2 (Nat.le_refl _) _⟩
                  rw [RE.out, HRL.out]
                  exact setRow_heap _ _ _ _ _ _ HXa.out
                case measure => simp [intOf]; omega
              · obtain rfl : k = 64 := by omega
                rw [show ((64 : Nat) : Int) = 64 from rfl]
                have CE := compress_eq wd S K
                rw [HV.out, HM.out, HF.out] at CE
                obtain ⟨T, hT⟩ : ∃ T, listOf (roundsN tableK F 64 (stOf V)) = T := ⟨_, rfl⟩
                have T8 : T.length = 8 := by rw [← hT]; rfl
                have TW : Words T := by
                  rw [← hT]
                  obtain ⟨oa, ob, oc, od, oe, of_, og, oh⟩ := OK.out 64
                  intro y hy
                  simp only [listOf, List.mem_cons, List.not_mem_nil, or_false] at hy
                  rcases hy with rfl | rfl | rfl | rfl | rfl | rfl | rfl | rfl <;> assumption
                rw [hT] at hx CE
                have VL8 := hVL.out
                have VWo := VW.out
                obtain ⟨D, hD⟩ : ∃ D, sumsN V T = D := ⟨_, rfl⟩
                rw [hD] at CE
                have SA := Lib.hid (fun (n v t : Nat) (h1 : n < 8) (h2 : V[n]? = some v) (h3 : T[n]? = some t) => sums_at h1 h2 h3)
                have D8 : D.length = 8 := by rw [← hD]; exact sums_length _ _
                rw [hD] at SA
                obtain ⟨w9, hw9⟩ : ∃ w, w = wr := ⟨_, rfl⟩
                subst hw9
                have T9 := Lib.hid hx
                have Q9 := Lib.hid ((qx.block Q QR).trans HQ.out)
                have G9 := Lib.hid ((qx.block (b + 2) (by omega)).trans ((QQ.out.block (b + 2) (by omega)).trans ((QX.out.block (b + 2) (by omega)).trans G3.out)))
                have B9 : Below b W w9 := fb.trans ((QX.out.mono (by omega)).trans ((QQ.out.mono (by omega)).trans (qx.mono (by omega))))
                have RU : R < w9.heap.size := lt_of_heap hx
                have HCE := Lib.hid CE
                clear hT hD hx qx hk hlt OK RU CE F64 FW HX7 HT7
                have RU : R < w9.heap.size := lt_of_heap T9.out
                go_wp2_with fail
                generalize hW : World.alloc w9 _ = w10
                have h10 : w10.heap[w9.heap.size]? = some (.cells (cellsOf' u8c (mapL (partF D 0 0))) 23 (0, 0)) := by rw [← hW, heap_alloc_new, part_start, ← mapL_zero]; rfl
                have q10 : Below w9.heap.size w9 w10 := by rw [← hW]; exact (Below.refl _ _).alloc (Nat.le_refl _) _
                generalize hU : w9.heap.size = U at *
                clear hW
                go_loopw [167] (fun i wx => ∃ n : Nat, n ≤ 8 ∧ i = .int .i64 (n : Int) ∧ wx.heap[U]? = some (.cells (cellsOf' u8c (mapL (partF D n 0))) 23 (0, 0)) ∧ Below U w9 wx) (fun i _ => 8 - (intOf i).toNat)
                case atStart => exact ⟨0, by omega, rfl, h10, q10⟩
                case round =>
                  obtain ⟨n, hn, rfl, hx, qx⟩ := hrel
                  clear h10 q10
                  by_cases hlt : n < 8
                  · obtain ⟨v, av, lv⟩ := at_some (l := V) (j := n) (by omega) VWo
                    obtain ⟨t, at_, lt⟩ := at_some (l := T) (j := n) (by omega) TW
                    have cv := co_cell ((qx.block Q (by omega)).trans Q9.out) av
                    have ct := co_cell ((qx.block R RU).trans T9.out) at_
                    have DX := SA.out n v t hlt av at_
                    have N1 := next_wrap2 v t lv lt
                    have lX : (v + t) % 4294967296 < 4294967296 := Nat.mod_lt _ (by decide)
                    obtain ⟨X, hX⟩ : ∃ X, (v + t) % 4294967296 = X := ⟨_, rfl⟩
                    rw [hX] at DX N1 lX
                    have BF0 : ∀ w : World, Calls Tryd.prog 46 #[.int .u64 (IntKind.u64.wrap (IntKind.u32.wrap ((v : Int) + (t : Int)))), .int .i64 4] w fun e w' => ∃ v, e = .returned (.tuple #[v, .int .i64 0]) ∧ w'.ownsRow w.heap.size 5 1 v 4 (u8s (bigL X 4)) ∧ Below w.heap.size w w' := fun w => by rw [N1]; exact Big_fits (x := X) (by omega) (m := 4) (by decide) (by show X < 4294967296; exact lX) w
                    have BF := Lib.hid BF0
                    clear BF0 N1
                    have ni : (n : Int) < 8 := by omega
                    have lXi : (X : Int) ≤ 4294967295 := by omega
                    have nw : IntKind.i64.wrap (n : Int) = (n : Int) := wrap_small (by omega)
                    have HDX := Lib.hid DX
                    have HX10 := Lib.hid hx
                    have S0 := Lib.hid (And.intro cv ct)
                    unfold u32c at cv ct
                    have UX : U < wr.heap.size := lt_of_heap hx
                    clear hX av at_ lv lt DX hx
                    go_wp2_with fail
                    go_region_held3 (fun w' => w'.cell? ⟨Q, n, none⟩ = some (.int .u32 (v : Int)) ∧ w'.cell? ⟨R, n, none⟩ = some (.int .u32 (t : Int))) (first | exact S0.out | assumption) (first | (go_at_call 46; (with_reducible refine (BF.out _).mono ?_); rintro e wE ⟨vE, rfl, hownE, qE⟩; have sE : wE.cell? ⟨Q, n, none⟩ = some (.int .u32 (v : Int)) ∧ wE.cell? ⟨R, n, none⟩ = some (.int .u32 (t : Int)) := ⟨(qE.cell (by show Q < wr.heap.size; omega)).trans cv, (qE.cell (by show R < wr.heap.size; omega)).trans ct⟩))
                    all_goals
                      have eB : Below wr.heap.size wr wE := by first | exact ((Below.refl _ _).drew).trans (qE.mono (Nat.le_refl _)) | exact qE
                      have HXE : Hid (wE.heap[U]? = some (.cells (cellsOf' u8c (mapL (partF D n 0))) 23 (0, 0))) := Lib.hid ((eB.block U UX).trans HX10.out)
                      have sVE : SliceOf u8c wE vE (bigL X 4) := SliceOf.of_own hownE rfl
                      have qU : Below U w9 wE := qx.trans (eB.mono (Nat.le_of_lt UX))
                      obtain ⟨gE, oE, cE, rfl, e1, e2, cgE⟩ := slice_at sVE (n := 4) (bigL_length _ _) (by decide)
                      have PC := Lib.hid (part_copy hlt HDX.out)
                      have HCE' : Hid (∀ (j : Nat) (v : Value), (u8s (bigL X 4))[j]? = some v → wE.cell? ((⟨gE, oE, none⟩ : Addr).add j) = some v) := Lib.hid (copy_cells cgE)
                      obtain ⟨p, hp⟩ : ∃ p, 4 * n = p := ⟨_, rfl⟩
                      rw [hp] at PC
                      have p28 : p ≤ 28 := by omega
                      have pi : 4 * (n : Int) = (p : Int) := by omega
                      have p32 : (p : Int) ≤ 32 := by omega
                      have pne : ¬ (32 : Int) = (p : Int) := by omega
                      have pn2 : ¬ 32 = p := by omega
                      have pm : Nat.min 4 (32 - p) = 4 := Nat.min_eq_left (by omega)
                      have e1i : (4 : Int) ≤ (cE : Int) := by omega
                      have HPM := Lib.hid pm
                      clear nw pm sE sVE hownE qE eB cgE cv ct S0 qx hp
                      go_wp2_with (refine wpList_copy_splice rfl (.tmp 184) (.tmp 185) 29 29 rfl 5 Tryd.underlying29 size_u8' (some ⟨U, p, none⟩) (some ⟨gE, oE, none⟩) (32 - p) (32 - p) 4 cE rfl rfl U p ((mapL (partF D n 0)).map u8c) 23 HXE.out (u8s (bigL X 4)) (by rw [HPM.out]; simp [u8s, bigL_length]) (fun _ => ⟨rfl, _, rfl, HCE'.out⟩) (by simp [u8s, bigL_length, mapL]; omega) u8s_one U w9 qU (Nat.le_refl _) ?_; intro w11 hg11 hb11)
                      have HPE := Lib.hid (PC.out)
                      rw [PC.out] at hg11
                      go_roundw
                      case rel => exact ⟨n + 1, by omega, by go_num, hg11.out, hb11⟩
                      case measure => simp [intOf]; omega
                  · obtain rfl : n = 8 := by omega
                    rw [part_end, bytes_mapL D8] at hx
                    have b32 : (bytesN D).length = 32 := by rw [← bytes_mapL D8]; exact mapL_length _
                    have CO := Lib.hid (cut_any (w := wd) (l := bytesN D) b32)
                    have hs : (cellsOf' u8c (bytesN D)).size = 32 := by rw [co_size, b32]
                    have hc : (cellsOf' u8c (cutL wd (bytesN D))).size = 32 := by rw [co_size, cutL_length b32, b32]
                    have G10 := Lib.hid ((qx.block (b + 2) (by omega)).trans G9.out)
                    have B10 : Below b W wr := B9.trans (qx.mono (by omega))
                    have zx : U < wr.heap.size := lt_of_heap hx
                    have zb : b + 2 < wr.heap.size := by omega
                    have zc : b ≤ wr.heap.size := by omega
                    have HXU := Lib.hid hx
                    clear hx qx hlt hn
                    go_wp2_with (first | (refine wpList_load_row rfl 23 _ rfl U rfl 23 _ (0, 0) _ HXU.out Tryd.underlying23 rfl (by rw [hs]; exact size_32) ?_) | (go_at_call 47; refine (CO.out _).mono ?_; rintro e w12 ⟨rfl, q12⟩; have G12 := Lib.hid ((q12.block (b + 2) zb).trans G10.out)) | (refine wpList_store_row rfl 23 _ _ rfl (b + 2) _ rfl rfl 23 _ G12.out (by rw [hc]; exact size_32) (by rw [hc]; rfl) (co_one u8c_one) ?_))
                    refine bodyPost_ret (results_cell_row rfl _ _ (b + 2) 23 _ (0, 0) _ rfl (setRow_heap _ _ _ _ _ _ G12.out) Tryd.underlying23 rfl (by rw [hc]; exact size_32)) rfl ⟨by rw [HCE.out], below_setRow (by rw [HW.out]; exact B10.trans (q12.mono zc)) (by have := HW.out; omega) _⟩
end Go.Proofs.YtcifnfffoiiceaaDoor
