/-
  massiflaw4.CutSpans: the walk.
-/
import Derived.Test.YtpbahbigimnboaaDoorFour4
import Derived.Deep.RegionHeld3
import Derived.Deep.AppendLies
import Derived.Deep.RegionLaw
namespace Go.Proofs.YtpbahbigimnboaaDoor
open Go.RowKit
set_option linter.unusedVariables false

set_option maxHeartbeats 4000000 in
set_option maxRecDepth 20000 in
theorem walkCutSpans (a0 a1 a2 a3 : Int) (w0 : (Lit.int .u64 a0).wf = true) (w1 : (Lit.int .u64 a1).wf = true) (w2 : (Lit.int .u64 a2).wf = true) (w3 : (Lit.int .u64 a3).wf = true) (w : World) (T : TabAt w) :
    Calls Tryd.prog 3 #[.int .u64 a0, .int .u64 a1, .int .u64 a2, .int .u64 a3] w fun e w' => e = .returned (.bool true) ∧ Below w.heap.size w w' := by
  obtain ⟨fr, rfl, hfr⟩ := nat_of_u64 w0
  obtain ⟨tt, rfl, htt⟩ := nat_of_u64 w1
  obtain ⟨n, rfl, hn⟩ := nat_of_u64 w2
  obtain ⟨kk, rfl, hk⟩ := nat_of_u64 w3
  obtain ⟨P, PK, RPK, hP⟩ := span_both (a := fr) (b := tt) hfr
  obtain ⟨L, PA, RPA, hL⟩ := joins_both (n := n) (k := kk) hn hk
  obtain ⟨i0, hi0, hz0, hz1, hz2⟩ := info_parts info_spot
  have TT := Lib.hid T
  clear w0 w1 w2 w3 hfr htt hn hk T
  go_enter Tryd.func3, Tryd.ntmps3
  go_wp2_with fail
  refine (RPK _).mono ?_
  rintro e w1 ⟨vW, rfl, ownW, q1⟩
  go_wp2_with fail
  refine (RPA _).mono ?_
  rintro e w2 ⟨vQ, rfl, ownQ, q2⟩
  have ownW2 := own_below ownW q2
  have r2 : Below w.heap.size w w2 := q1.trans (q2.mono q1.size)
  go_wp2_with fail
  refine (PK _ (TT.out.below r2)).mono ?_
  rintro e w3 ⟨vA, rfl, ownA, q3⟩
  go_wp2_with fail
  refine (PK _ ((TT.out.below r2).below q3)).mono ?_
  rintro e w4 ⟨vB, rfl, ownB, q4⟩
  go_wp2_with fail
  refine (PA _ (((TT.out.below r2).below q3).below q4)).mono ?_
  rintro e w5 ⟨vC, rfl, ownC, q5⟩
  go_wp2_with fail
  refine (PA _ ((((TT.out.below r2).below q3).below q4).below q5)).mono ?_
  rintro e w6 ⟨vD, rfl, ownD, q6⟩
  have bA := fun j hj => ownA.lt j hj
  have bB := fun j hj => ownB.lt j hj
  have bC := fun j hj => ownC.lt j hj
  have bD := fun j hj => ownD.lt j hj
  have b46 := q5.trans (q6.mono q5.size)
  have b36 := q4.trans (b46.mono q4.size)
  have b26 := q3.trans (b36.mono q3.size)
  have A7 := own_below ownA b36
  have B7 := own_below ownB b46
  have C7 := own_below ownC q6
  have D7 := ownD
  have W7 := own_below ownW2 b26
  have Q7 := own_below ownQ b26
  have z3 := q3.size
  have z4 := q4.size
  have z5 := q5.size
  have z6 := q6.size
  clear ownA ownB ownC ownD q1 q2 q3 q4 q5 q6 b46 b36 ownW
  go_wp2_with fail
  refine (same_any _ (SpotsOf.of_own A7) (SpotsOf.of_own W7)).mono ?_
  rintro e w8 ⟨rfl, q8⟩
  rw [decide_eq_true (rfl : P = P)]
  go_wp2_with fail
  refine (same_any _ (SpotsOf.of_own (own_below B7 q8)) (SpotsOf.of_own (own_below W7 q8))).mono ?_
  rintro e w9 ⟨rfl, q9⟩
  rw [decide_eq_true (rfl : P = P)]
  have b79 := q8.trans (q9.mono q8.size)
  go_wp2_with fail
  refine (same_any _ (SpotsOf.of_own (own_below C7 b79)) (SpotsOf.of_own (own_below Q7 b79))).mono ?_
  rintro e w10 ⟨rfl, q10⟩
  rw [decide_eq_true (rfl : L = L)]
  have b710 := b79.trans (q10.mono b79.size)
  go_wp2_with fail
  refine (same_any _ (SpotsOf.of_own (own_below D7 b710)) (SpotsOf.of_own (own_below Q7 b710))).mono ?_
  rintro e w11 ⟨rfl, q11⟩
  rw [decide_eq_true (rfl : L = L)]
  have b711 := b710.trans (q11.mono b710.size)
  have A11 := own_below A7 b711
  have B11 := own_below B7 b711
  have C11 := own_below C7 b711
  have D11 := own_below D7 b711
  have b2 : Below w2.heap.size w2 w11 := b26.trans (b711.mono b26.size)
  have z11 := b711.size
  clear A7 B7 C7 D7 W7 Q7 b79 b710 b711 q8 q9 q10 q11 b26
  obtain ⟨aA, cA, rfl, _⟩ := own_shape A11
  obtain ⟨aB, cB, rfl, _⟩ := own_shape B11
  obtain ⟨aC, cC, rfl, _⟩ := own_shape C11
  obtain ⟨aD, cD, rfl, _⟩ := own_shape D11
  go_wp2_with fail
  have D : Dis (pick4 (.slice aA P.length cA) (.slice aB P.length cB) (.slice aC L.length cC) (.slice aD L.length cD)) w11.heap.size := dis_of bA bB bC bD z4 z5 z6 z11
  generalize hW : World.alloc w11 _ = w12
  have I0 : Inv1 w2.heap.size w11.heap.size (pick4 (.slice aA P.length cA) (.slice aB P.length cB) (.slice aC L.length cC) (.slice aD L.length cD)) (pickN P.length L.length) 0 0 w12 := by
    rw [← hW]
    refine ⟨fun j hj => ?_, fun j hj => ?_, b2.size, by simp⟩
    · match j, hj with
      | 0, _ => exact ⟨_, (own_mono A11 (Nat.le_refl _)).alloc _, fun k _ h => by omega⟩
      | 1, _ => exact ⟨_, (own_mono B11 z3).alloc _, fun k _ h => by omega⟩
      | 2, _ => exact ⟨_, (own_mono C11 (by omega)).alloc _, fun k _ h => by omega⟩
      | 3, _ => exact ⟨_, (own_mono D11 (by omega)).alloc _, fun k _ h => by omega⟩
    · rw [cell_of_row _ _ _ _ _ _ (heap_alloc_new _ _)]
      match j, hj with
      | 0, _ => rfl
      | 1, _ => rfl
      | 2, _ => rfl
      | 3, _ => rfl
  have b12 : Below w2.heap.size w2 w12 := by rw [← hW]; exact b2.alloc b2.size _
  have hN : ∀ j, pickN P.length L.length j ≤ 131 := by intro j; unfold pickN; split <;> omega
  clear hW A11 B11 C11 D11 bA bB bC bD b2
  generalize pick4 (.slice aA P.length cA) (.slice aB P.length cB) (.slice aC L.length cC) (.slice aD L.length cD) = V at *
  generalize pickN P.length L.length = N at *
  generalize hZ : w2.heap.size = Z at *
  generalize w11.heap.size = gl at *
  have DD := Lib.hid D
  have HN := Lib.hid hN
  clear D hN z3 z4 z5 z6 z11
  go_loopw [16] (fun x wr => ∃ j : Nat, j ≤ 4 ∧ x = .int .i64 (j : Int) ∧ Inv1 Z gl V N j 0 wr ∧ Below Z w2 wr) (fun x _ => 4 - (intOf x).toNat)
  case atStart => exact ⟨0, by omega, rfl, I0, b12⟩
  case round =>
    obtain ⟨j, hj, rfl, I, bw⟩ := hrel
    by_cases hlt : j < 4
    · have ji : (j : Int) < 4 := by omega
      go_wp2
      go_loopw [17] (fun y wr => ∃ k : Nat, k ≤ N j ∧ y = .int .i64 (k : Int) ∧ Inv1 Z gl V N j k wr ∧ Below Z w2 wr) (fun y _ => N j - (intOf y).toNat)
      case atStart => exact ⟨0, by omega, rfl, I, bw⟩
      case round =>
        obtain ⟨k, hk, rfl, I', bw'⟩ := hrel
        obtain ⟨xs, hown, _⟩ := I'.1 j hlt
        obtain ⟨a, cap, e, hs⟩ := own_shape hown
        have cl := I'.2.1 j hlt
        rw [e] at cl
        have gls := I'.2.2.2
        have n64 := HN.out j
        by_cases hk2 : k < N j
        · obtain ⟨g, rfl, hg0, hg, hc, cells⟩ := hs (by omega)
          have ki : (k : Int) < (N j : Int) := by omega
          rw [e] at hown
          have hxl : xs.length = N j * 2 := hown.1
          obtain ⟨u, hu⟩ : ∃ u, wr.cell? ⟨g, k * 2, none⟩ = some u := ⟨_, cells (k * 2) _ (List.getElem?_eq_getElem (by omega))⟩
          obtain ⟨u2, hu2⟩ : ∃ u, wr.cell? ⟨g, k * 2 + 1, none⟩ = some u := ⟨_, cells (k * 2 + 1) _ (List.getElem?_eq_getElem (by omega))⟩
          have fz := hown.frozenAt (k * 2)
          have fz2 := hown.frozenAt (k * 2 + 1)
          have NX := Lib.hid (fun u => inv1_store I' hlt hk2 e DD.out u)
          clear cells hown I I' bw hs hxl
          go_wp2
          go_roundw
          case rel => exact ⟨k + 1, by omega, by go_num, NX.out _, (bw'.setCell hg0 _).setCell hg0 _⟩
          case measure => simp [intOf]; omega
        · obtain rfl : k = N j := by omega
          have NX := Lib.hid (inv1_next I')
          clear I I' hown hs
          go_wp2
          go_roundw
          case rel => exact ⟨j + 1, by omega, by go_num, NX.out, bw'⟩
          case measure => simp [intOf]; omega
    · obtain rfl : j = 4 := by omega
      have IE := Lib.hid I
      clear I I0 b12
      go_wp2
      generalize hW3 : World.alloc wr _ = wS
      have gls := IE.out.2.2
      have J0 : Inv2 Z gl wr.heap.size V N 0 wS := inv2_start IE.out DD.out hW3.symm rfl rfl
      have bS : Below Z w2 wS := by rw [← hW3]; exact bw.alloc (by omega) _
      clear hW3 IE bw gls
      generalize wr.heap.size = ga at *
      go_loopw [19] (fun x wr => ∃ j : Nat, j ≤ 4 ∧ x = .int .i64 (j : Int) ∧ Inv2 Z gl ga V N j wr ∧ Below Z w2 wr) (fun x _ => 4 - (intOf x).toNat)
      case atStart => exact ⟨0, by omega, rfl, J0, bS⟩
      case round =>
        obtain ⟨j, hj, rfl, J, bw⟩ := hrel
        by_cases hlt : j < 4
        · have ji : (j : Int) < 4 := by omega
          obtain ⟨xs, hown, hm⟩ := inv2_row J hlt
          have hxl : xs.length = N j * 2 := hown.1
          obtain ⟨a, cap, e, hs⟩ := own_shape hown
          obtain ⟨V', eV, D', _, _, cl, _, _, _, z1, z2, z3, z4, z5⟩ := id J
          have RG0 : (V j).ownBlock ≠ some gl := by rw [← eV j hlt (Nat.le_refl _)]; exact D'.2 j hlt
          clear eV D'
          have cj := cl j hlt
          rw [e] at cj
          have n64 := HN.out j
          have JJ := Lib.hid J
          have own' := hown
          rw [e] at own'
          have EE := Lib.hid e
          clear J J0 bS hs cl hown e
          go_wp2
          generalize hBX : World.alloc wr _ = wx
          have bx0 : wx.cell? ⟨wr.heap.size, 0, none⟩ = some (.int .u8 0) := by rw [← hBX, cell_of_row _ _ _ _ _ _ (heap_alloc_new _ _)]; rfl
          have bx1 : wx.cell? ⟨wr.heap.size, 1, none⟩ = some (.int .u64 (201 + (j : Int))) := by rw [← hBX, cell_of_row _ _ _ _ _ _ (heap_alloc_new _ _)]; rfl
          have bxl : wr.heap.size < wx.heap.size := by rw [← hBX]; simp
          have cjx : wx.cell? ⟨gl, j, none⟩ = some (.slice a (N j) cap) := by rw [← cj, ← hBX]; exact World.cell?_of_block (heap_alloc_old _ _ z2)
          have ownx : wx.ownsRow Z 28 2 (.slice a (N j) cap) (N j) xs := by rw [← hBX]; exact own'.alloc _
          have GX := Lib.hid (show wr.grownBy wx (Value.slice a (N j) cap).ownBlock by rw [← hBX]; exact World.grownBy_alloc _ _ _)
          have glx : gl < wx.heap.size := by omega
          have zx : Z ≤ wx.heap.size := by omega
          clear hBX cj
          have RN : ∀ c, (Value.slice a (N j) cap).ownBlock = some c → c < wx.heap.size := fun c hc => (ownx.lt c hc).2
          have RX : some wr.heap.size ≠ (Value.slice a (N j) cap).ownBlock := fun h => by
            have := (own'.lt _ h.symm).2
            omega
          have RG : some gl ≠ (Value.slice a (N j) cap).ownBlock := fun h => RG0 (by rw [EE.out]; exact h.symm)
          have S0 := Lib.hid (And.intro bx0 (And.intro bx1 cjx))
          have HB1 : wr.heap.size ≠ ga := by omega
          have wle := Nat.le_of_lt bxl
          clear own' RG0
          go_region_held3 (fun w' => w'.cell? ⟨wr.heap.size, 0, none⟩ = some (.int .u8 0) ∧ w'.cell? ⟨wr.heap.size, 1, none⟩ = some (.int .u64 (201 + (j : Int))) ∧ w'.cell? ⟨gl, j, none⟩ = some (.slice a (N j) cap)) (first | exact S0.out | assumption | exact keepA (by assumption) | exact keepG G2x RX RX RG S0.out | exact keepG G1x RX RX RG S0.out | exact keepS HB1 HB1 z5 (by assumption))
            (first
              | (refine step_mark (.tmp 103) (.tmp 105) (by rfl) (by rfl) Z (.slice a (N j) cap) (N j) xs (by rfl) (by first | exact ownx.alloc _ | exact (ownx.alloc _).alloc _) _ (by rfl) (by first | exact heap_alloc_new _ _ | exact heap_alloc2_new _ _ _ | exact heap_alloc2_old _ _ _) (by omega) (by (try simp) <;> omega) ?_; intro g1 cap1 w1 own1 hg1 hat1; have G1x := ((by first | exact grownDrew (grownAlloc (World.grownBy.refl _ _) _) | exact grownDrew (grownAlloc (grownAlloc (World.grownBy.refl _ _) _) _) : wx.grownBy _ _).trans hg1); have L1 := lies_one (wr := wx) (w1 := w1) (n := N j + 1) (cap := cap1) hat1 (by (try simp) <;> omega))
              | (refine step_mark (.tmp 106) (.tmp 108) (by rfl) (by rfl) Z (.slice (some ⟨g1, 0, none⟩) (N j + 1) cap1) (N j + 1) _ (by rfl) (by first | exact own1 | exact own1.alloc _) _ (by rfl) (by first | exact heap_alloc_new _ _ | exact (hg1.block _ (by (try simp) <;> omega) (fun e => by have := RN _ e.symm; omega)).trans (by first | exact heap_alloc2_new _ _ _ | exact heap_alloc2_old _ _ _)) (by omega) (by have := G1x.size; (try simp) <;> omega) ?_; intro g2 cap2 w9 own2 hg2 hat2; have G2x := (by first | exact grown_two G1x L1 hg2 | exact grown_two (grownAlloc G1x _) L1 hg2 : wx.grownBy w9 _); have L2 := lies_two (wr := wx) (w1 := w9) (m := N j + 1 + 1) (cap2 := cap2) L1 hat2 (by have := G1x.size; (try simp) <;> omega); have FIN := long_fin JJ.out hlt hm hxl EE.out GX.out wle G2x L2 own2; obtain ⟨⟨⟨u, hu⟩, fz, gs, gz⟩, NXT⟩ := FIN; have NX := Lib.hid NXT; clear NXT))
          all_goals
            have bN : Below Z w2 (w9.setCell ⟨ga, j, none⟩ (.slice (some ⟨g2, 0, none⟩) (N j + 1 + 1) cap2)) := (bw.grown (GX.out.trans G2x) (Nat.le_trans z1 (Nat.le_of_lt z2)) (fun c hc => (ownx.lt c hc).1)).setCell z3 _
            clear own1 hg1 hat1 G1x L1 own2 hg2 hat2 G2x L2 hu fz gs ownx
            go_wp2
            go_roundw
            case rel =>
              repeat apply Exists.intro
              exact ⟨⟨j + 1, by omega, by go_num, NX.out, bN⟩, rfl⟩
            case measure => simp [intOf]; omega
        · obtain rfl : j = 4 := by omega
          obtain ⟨V2, _, _, _, rows, _, ca, _⟩ := J
          have ROWS := Lib.hid rows
          have CA := Lib.hid ca
          clear rows ca J0 bS
          go_wp2
          go_loopw [21] (fun x wr' => ∃ j : Nat, j ≤ 4 ∧ x = .int .i64 (j : Int) ∧ wr' = wr) (fun x _ => 4 - (intOf x).toNat)
          case atStart => exact ⟨0, by omega, rfl, rfl⟩
          case round =>
            obtain ⟨j, hj, rfl, rfl⟩ := hrel
            by_cases hlt : j < 4
            · have ji : (j : Int) < 4 := by omega
              obtain ⟨xs, hown, hm⟩ := ROWS.out j hlt
              have cj := CA.out j hlt hlt
              rw [if_pos hlt] at hown hm
              obtain ⟨a, cap, e, hs⟩ := own_shape hown
              obtain ⟨g, rfl, hg0, hg, hc, cells⟩ := hs (by omega)
              rw [e] at cj
              have n64 := HN.out j
              have CC := Lib.hid (show ∀ k, k < N j + 2 → wr.cell? ⟨g, k * 2 + 1, none⟩ = some (mark j) from fun k hk => cells _ _ (hm k hk))
              clear hs hown hm cells e
              go_wp2
              go_loopw [22] (fun y wr' => ∃ k : Nat, k ≤ N j + 2 ∧ y = .int .i64 (k : Int) ∧ wr' = wr) (fun y _ => N j + 2 - (intOf y).toNat)
              case atStart => exact ⟨0, by omega, rfl, rfl⟩
              case round =>
                obtain ⟨k, hk, rfl, rfl⟩ := hrel
                by_cases hk2 : k < N j + 2
                · have ck := CC.out k hk2
                  unfold mark at ck
                  have ki : (k : Int) < ((N j + 2 : Nat) : Int) := by omega
                  go_wp2
                  go_roundw
                  case rel => exact ⟨k + 1, by omega, by go_num, by trivial⟩
                  case measure => simp [intOf]; omega
                · obtain rfl : k = N j + 2 := by omega
                  go_wp2
                  go_roundw
                  case rel => exact ⟨j + 1, by omega, by go_num, by trivial⟩
                  case measure => simp [intOf]; omega
            · obtain rfl : j = 4 := by omega
              rw [← hZ] at bw
              have W9 := own_below ownW2 bw
              have Q9 := own_below ownQ bw
              have T9 := (TT.out.below r2).below bw
              go_wp2_with fail
              refine (PK _ T9).mono ?_
              rintro e wE ⟨vE, rfl, ownE, qE⟩
              go_wp2_with fail
              refine (same_any _ (SpotsOf.of_own ownE) (SpotsOf.of_own (own_below W9 qE))).mono ?_
              rintro e wG ⟨rfl, qG⟩
              rw [decide_eq_true (rfl : P = P)]
              have qEG := qE.trans (qG.mono qE.size)
              have TG := T9.below qEG
              go_wp2_with fail
              refine (PA _ TG).mono ?_
              rintro e wF ⟨vF, rfl, ownF, qF⟩
              have qEF := qEG.trans (qF.mono qEG.size)
              go_wp2_with fail
              refine (same_any _ (SpotsOf.of_own ownF) (SpotsOf.of_own (own_below Q9 qEF))).mono ?_
              rintro e wH ⟨rfl, qH⟩
              rw [decide_eq_true (rfl : L = L)]
              have qEH := qEF.trans (qH.mono qEF.size)
              have rH : Below w.heap.size w wH := r2.trans ((bw.trans (qEH.mono bw.size)).mono r2.size)
              have TH := (TG.below qF).below qH
              clear ownE ownF W9 Q9
              go_wp2_with fail
              refine (awake4_any _ TH).mono ?_
              rintro e wI ⟨rfl, qI⟩
              go_wp2
              go_ret
              exact ⟨rfl, rH.trans (qI.mono rH.size)⟩
end Go.Proofs.YtpbahbigimnboaaDoor
