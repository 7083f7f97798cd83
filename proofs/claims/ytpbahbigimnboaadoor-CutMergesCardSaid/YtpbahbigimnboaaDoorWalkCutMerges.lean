/-
  massiflaw4.CutMerges: the walk.
-/
import Derived.Test.YtpbahbigimnboaaDoorTwo4
import Derived.Test.YtpbahbigimnboaaDoorRefMerge
import Derived.Test.YtpbahbigimnboaaDoorArgS
import Derived.Outline
namespace Go.Proofs.YtpbahbigimnboaaDoor
open Go.RowKit
set_option linter.unusedVariables false

set_option maxHeartbeats 4000000 in
set_option maxRecDepth 20000 in
theorem walkCutMerges (v0 : Value) (l : List (Nat × Nat)) (w : World) (s0 : SpotsOf w v0 l) (y0 : Small l) (T : TabAt w) :
    Calls Tryd.prog 5 #[v0] w fun e w' => e = .returned (.bool true) ∧ Below w.heap.size w w' := by
  have S0 := Lib.hid s0
  obtain ⟨a, ca, rfl, h1, h2, _⟩ := s0.form
  have bm : (l.length : Int) ≤ 9223372036854775807 := by unfold maxLen at h2; omega
  have TT := Lib.hid T
  have SM := Lib.hid y0
  clear T y0 s0 h1 h2
  by_cases hlong : 400 < l.length
  · have i3 : (400 : Int) < (l.length : Int) := by omega
    clear hlong
    go_enter Tryd.func5, Tryd.ntmps5
    go_wp2
    go_ret
    exact ⟨rfl, Below.refl _ _⟩
  have l4 : l.length ≤ 400 := by omega
  have l4i : (l.length : Int) ≤ 400 := by omega
  have l4d : decide ((400 : Int) < (l.length : Int)) = false := decide_eq_false (by omega)
  obtain ⟨p, q, c, OVE⟩ := overV_form l
  have OV := Lib.hid OVE
  have mlen := mergeV_len l
  clear hlong OVE
  obtain ⟨M, hM⟩ : ∃ M, mergeV l = M := ⟨_, rfl⟩
  obtain ⟨ok, hok⟩ : ∃ ok, mergeOk l = ok := ⟨_, rfl⟩
  have RM := fun w v h => refMerge_any (l := l) (v := v) w h SM.out (by omega)
  have MG := fun w v h => Merge_any (l := l) (v := v) w h SM.out (by omega)
  rw [hM] at mlen
  simp only [hM, hok] at RM MG
  have mli : (M.length : Int) ≤ 124 := by omega
  clear hM hok
  go_enter Tryd.func5, Tryd.ntmps5
  go_wp2_with fail
  refine (row_any _ S0.out (by omega)).mono ?_
  rintro e w1 ⟨g, cap, rfl, RA, q1⟩
  have RA1 := Lib.hid RA
  have sg := RA.spots
  clear RA
  go_wp2_with fail
  refine (Over_any _ sg SM.out (by omega)).mono ?_
  rintro e w2 ⟨rfl, q2⟩
  rw [OV.out]
  have b2 := q1.trans (q2.mono q1.size)
  have sl2 := S0.out.below b2
  go_wp2_with fail
  refine (refOver_any _ sl2 SM.out (by omega)).mono ?_
  rintro e w3 ⟨rfl, q3⟩
  rw [OV.out]
  have b3 := b2.trans (q3.mono b2.size)
  have sl3 := S0.out.below b3
  go_wp2_with fail
  refine (RM _ _ sl3).mono ?_
  rintro e w5 ⟨vW, rfl, ownW, q5⟩
  have b5 := b3.trans (q5.mono b3.size)
  have RA5 := Lib.hid (((RA1.out.below q2).below q3).below q5)
  have z1 : w1.heap.size ≤ w5.heap.size := Nat.le_trans q2.size (Nat.le_trans q3.size q5.size)
  have OW5 := Lib.hid ownW
  clear sg sl2 sl3 q1 q2 q3 q5 b2 b3 ownW
  go_wp2_with fail
  refine (MG _ _ RA5.out.spots).mono ?_
  rintro e w6 ⟨vX, rfl, ownX, q6⟩
  have b6 := b5.trans (q6.mono b5.size)
  have RA6 := Lib.hid (RA5.out.below q6)
  have lX : ∀ k, vX.ownBlock = some k → k < w6.heap.size := fun k hk => (ownX.lt k hk).2
  go_wp2_with fail
  refine (MG _ _ RA6.out.spots).mono ?_
  rintro e w7 ⟨vY, rfl, ownY, q7⟩
  have b57 : Below w5.heap.size w5 w7 := q6.trans (q7.mono q6.size)
  have X7 := own_below ownX q7
  have DXY : Apart vX vY := fun k hk hk' => by
    have h1 := lX k hk
    have h2 := (ownY.lt k hk').1
    omega
  have Y7 := own_mono ownY q6.size
  have W7 := Lib.hid (own_below OW5.out b57)
  have RA7 := Lib.hid (RA5.out.below b57)
  have SL7 := Lib.hid (S0.out.below (b5.trans (b57.mono b5.size)))
  clear ownX ownY q6 q7 b6 lX RA6
  go_wp2_with fail
  refine (same_any _ (SpotsOf.of_own X7) (SpotsOf.of_own W7.out)).mono ?_
  rintro e w8 ⟨rfl, q8⟩
  rw [decide_eq_true (rfl : M = M)]
  go_wp2_with fail
  refine (same_any _ (SpotsOf.of_own (own_below Y7 q8)) (SpotsOf.of_own (own_below W7.out q8))).mono ?_
  rintro e w9 ⟨rfl, q9⟩
  rw [decide_eq_true (rfl : M = M)]
  have b79 := q8.trans (q9.mono q8.size)
  go_wp2_with fail
  refine (same_any _ (RA7.out.below b79).spots (SL7.out.below b79)).mono ?_
  rintro e w10 ⟨rfl, q10⟩
  rw [decide_eq_true (rfl : l = l)]
  have b710 := b79.trans (q10.mono b79.size)
  have RA10 := RA7.out.below b710
  have X10 := own_below X7 b710
  have Y10 := own_below Y7 b710
  have b510 := b57.trans (b710.mono b57.size)
  clear b79 q8 q9 q10 b710 X7 Y7
  go_wp2_with fail
  refine (marked_any _ RA10 (by omega)).mono ?_
  rintro e w11 ⟨rfl, rfl⟩
  obtain ⟨aX, cX, rfl, _⟩ := own_shape X10
  obtain ⟨aY, cY, rfl, _⟩ := own_shape Y10
  have T0 := Lib.hid (show TwoAt w5.heap.size (.slice aX M.length cX) (.slice aY M.length cY) M.length 0 w10 from ⟨_, _, X10, Y10, (fun k h => by omega), (fun k h => by omega)⟩)
  have DD := Lib.hid DXY
  clear RA10 X10 Y10 DXY
  go_wp2
  go_loopw [16] (fun x wr => ∃ i : Nat, i ≤ M.length ∧ x = .int .i64 (i : Int) ∧ TwoAt w5.heap.size (.slice aX M.length cX) (.slice aY M.length cY) M.length i wr ∧ Below w5.heap.size w5 wr) (fun x _ => M.length - (intOf x).toNat)
  case atStart => exact ⟨0, Nat.zero_le _, rfl, T0.out, b510⟩
  case round =>
    obtain ⟨i, hi, rfl, TW, hb⟩ := hrel
    by_cases hlt : i < M.length
    · obtain ⟨gX, gY, cX', cY', e1, e2, hX, hY, ⟨u1, x1⟩, ⟨u2, x2⟩, ⟨u3, x3⟩, ⟨u4, x4⟩, fX, fY⟩ := two_cells TW hlt
      injection e1 with e11 e12 e13
      injection e2 with e21 e22 e23
      subst e11 e13 e21 e23
      have nXY : gX ≠ gY := fun e => DD.out gX rfl (by rw [e]; rfl)
      have fx1 := fX (i * 2)
      have fx2 := fX (i * 2 + 1)
      have fy1 := fY (i * 2)
      have fy2 := fY (i * 2 + 1)
      have il : (i : Int) < (M.length : Int) := by omega
      have NX := Lib.hid (fun u u' => two_store (u := u) (u' := u') TW hlt DD.out)
      clear TW fX fY
      go_wp2
      go_roundw
      case rel => exact ⟨i + 1, by omega, by go_num, NX.out _ _, (((hb.setCell hX _).setCell hX _).setCell hY _).setCell hY _⟩
      case measure => simp [intOf]; omega
    · obtain rfl : i = M.length := by omega
      obtain ⟨xs, ys, hx, hy, mx, my⟩ := TW
      have HX := Lib.hid hx
      have HY := Lib.hid hy
      have hZ : w5.heap.size ≤ wr.heap.size := hb.size
      clear T0 b510
      go_wp2_with (at_builtin; first
        | (refine app_spots (.tmp 113) (.tmp 115) rfl rfl w5.heap.size _ M.length xs rfl (HX.out.alloc _) _ [(0, 201)] rfl (spots_mark _ 0 201) (by simp; omega) (by simp; omega) ?_; intro v1 wA ownA hgA hatA; have zA : wr.heap.size + 1 ≤ wA.heap.size := size_grown hgA; have YA := y_keep HY.out hgA DD.out)
        | (refine app_spots (.tmp 117) (.tmp 119) rfl rfl w5.heap.size _ M.length ys rfl (YA.alloc _) _ [(0, 202)] rfl (spots_mark _ 0 202) (by simp; omega) (by simp; omega) ?_; intro v2 wB ownB hgB hatB))
      obtain ⟨TB, BB⟩ := two_fin HX.out HY.out mx my DD.out ownA hgA hatA ownB hgB hZ
      have bB := BB w5 hb
      obtain ⟨a1, c1, rfl, _⟩ := own_shape (show wA.ownsRow w5.heap.size 28 2 v1 (M.length + 1) _ from ownA)
      obtain ⟨a2, c2, rfl, _⟩ := own_shape (show wB.ownsRow w5.heap.size 28 2 v2 (M.length + 1) _ from ownB)
      have TBH := Lib.hid TB
      clear hx hy mx my HX HY ownA hgA hatA ownB hgB hatB YA BB TB zA hb DD
      go_loopw [17] (fun x wr' => ∃ i : Nat, i ≤ M.length + 1 ∧ x = .int .i64 (i : Int) ∧ wr' = wB) (fun x _ => M.length + 1 - (intOf x).toNat)
      case atStart => exact ⟨0, Nat.zero_le _, rfl, rfl⟩
      case round =>
        obtain ⟨i, hi, rfl, rfl⟩ := hrel
        by_cases hlt : i < M.length + 1
        · obtain ⟨gX, gY, cX', cY', e1, e2, x1, x2⟩ := two_read TBH.out hlt
          injection e1 with e11 e12 e13
          injection e2 with e21 e22 e23
          subst e11 e13 e21 e23
          have il : (i : Int) < ((M.length + 1 : Nat) : Int) := by omega
          have il2 : (i : Int) < (M.length : Int) + 1 := by omega
          go_wp2
          go_roundw
          case rel => exact ⟨i + 1, by omega, by go_num, by trivial⟩
          case measure => simp [intOf]; omega
        · obtain rfl : i = M.length + 1 := by omega
          have RB := RA5.out.below bB
          have bAll := b5.trans (bB.mono b5.size)
          have SLB := S0.out.below bAll
          have RBH := Lib.hid RB
          clear RB
          go_wp2_with fail
          refine (same_any _ RBH.out.spots SLB).mono ?_
          rintro e wC ⟨rfl, qC⟩
          rw [decide_eq_true (rfl : l = l)]
          have RC := RBH.out.below qC
          have bC := bAll.trans (qC.mono bAll.size)
          have RCH := Lib.hid RC
          clear SLB qC RC
          go_wp2_with fail
          refine (marked_any _ RCH.out (by omega)).mono ?_
          rintro e wD ⟨rfl, rfl⟩
          have O0 := Lib.hid (show wC.ownsRow w.heap.size 28 2 (.slice (some ⟨g, 0, none⟩) l.length cap) l.length (spotC (flipL l 0)) from RCH.out.own)
          have gB := RCH.out.lt g rfl
          go_wp2
          go_loopw [18] (fun x wr => ∃ i : Nat, i ≤ l.length ∧ x = .int .i64 (i : Int) ∧ wr.ownsRow w.heap.size 28 2 (.slice (some ⟨g, 0, none⟩) l.length cap) l.length (spotC (flipL l i)) ∧ Below w.heap.size w wr) (fun x _ => l.length - (intOf x).toNat)
          case atStart => exact ⟨0, Nat.zero_le _, rfl, O0.out, bC⟩
          case round =>
            obtain ⟨i, hi, rfl, own, hb⟩ := hrel
            clear O0 bC
            by_cases hlt : i < l.length
            · obtain ⟨⟨h, k⟩, hs⟩ : ∃ s, l[i]? = some s := ⟨l[i], List.getElem?_eq_getElem hlt⟩
              obtain ⟨_, sk⟩ := SM.out _ (List.mem_of_getElem? hs)
              dsimp only at sk
              have hs2 := (flipL_get hlt).trans hs
              have st := (own.stored (i * 2 + 1) (.int .u64 ((k ^^^ 1 : Nat) : Int))).1
              rw [spotC_set _ _ _ _ hs2] at st
              have e := flipL_set hs
              unfold flipS at e
              dsimp only at e st
              rw [e] at st
              have t := (spotC_get _ i _ hs2).2
              have cells := World.ownsRow.cells own (g := g) rfl _ _ t
              rw [addr0, Nat.mul_comm] at cells
              dsimp only at cells
              have fz := own.frozenAt (i * 2 + 1)
              have X1 : bits .xor .u64 (k : Int) 1 = ((k ^^^ 1 : Nat) : Int) := u64_xor_nat k 1 sk (by decide)
              have gl : g < wr.heap.size := (own.lt g rfl).2
              have il : (i : Int) < (l.length : Int) := by omega
              have NX := Lib.hid st
              have GB := gB.1
              generalize k ^^^ 1 = k1 at *
              clear st e t own hs hs2
              go_wp2
              go_roundw
              case rel => exact ⟨i + 1, by omega, by go_num, NX.out, hb.setCell GB _⟩
              case measure => simp [intOf]; omega
            · obtain rfl : i = l.length := by omega
              have fe := flipL_end l
              have fl : (l.map flipS).length = l.length := List.length_map ..
              rw [fe] at own
              have SMF := Lib.hid (small_flip SM.out)
              have RF := fun w v h => refMerge_any (l := l.map flipS) (v := v) w h SMF.out (by rw [fl]; omega)
              have MF := fun w v h => Merge_any (l := l.map flipS) (v := v) w h SMF.out (by rw [fl]; omega)
              have own' : wr.ownsRow w.heap.size 28 2 (.slice (some ⟨g, 0, none⟩) l.length cap) (l.map flipS).length (spotC (l.map flipS)) := by rw [fl]; exact own
              have SF := Lib.hid (SpotsOf.of_own own')
              have flh := Lib.hid fl
              generalize l.map flipS = F at *
              have OE := Lib.hid (own_made0 (w := wr) (B := w.heap.size) hb.size)
              have SFE := Lib.hid (SF.out.below (show Below wr.heap.size wr (wr.alloc (.cells #[] 28 (0, 0))) from (Below.refl _ _).alloc (Nat.le_refl _) _))
              obtain ⟨MM, hMM⟩ : ∃ M, mergeV F = M := ⟨_, rfl⟩
              obtain ⟨okF, hokF⟩ : ∃ ok, mergeOk F = ok := ⟨_, rfl⟩
              simp only [hMM, hokF] at RF MF
              have LENF := Lib.hid (show 0 + F.length ≤ 8796093022208 by rw [flh.out]; omega)
              have hgl : g < wr.heap.size := (own.lt g rfl).2
              have LF : F.length ≤ 400 := by rw [flh.out]; omega
              clear own own' fe fl hMM hokF SMF
              go_wp2_with (at_builtin; refine app_spots (.tmp 167) (.tmp 168) rfl rfl w.heap.size _ 0 _ rfl OE.out _ F rfl SFE.out LENF.out (by simp; exact Nat.le_succ_of_le hb.size) ?_; intro v5 w9 own5 hg5 _)
              have b9 := (hb.alloc hb.size _).grown hg5 (by simp; exact Nat.le_succ_of_le hb.size) (fun c hc => (OE.out.lt c hc).1)
              have SF9 := spots_grown (SFE.out) hg5 (fun e => by
                have : wr.heap.size = g := Option.some.inj e
                omega)
              have s5 : SpotsOf w9 v5 F := SpotsOf.of_own (by
                have := own5
                rw [Nat.zero_add] at this
                exact this)
              clear own5 hg5 SFE OE
              refine (RF _ _ s5).mono ?_
              rintro e wE ⟨vE, rfl, ownE, qE⟩
              have bE := b9.trans (qE.mono b9.size)
              have SFE := SF9.below qE
              clear s5 SF9 qE
              go_wp2_with fail
              refine (MF _ _ SFE).mono ?_
              rintro e wG ⟨vG, rfl, ownG, qG⟩
              have bG := bE.trans (qG.mono bE.size)
              have sG := SpotsOf.of_own ownG
              have sE := SpotsOf.of_own (own_below ownE qG)
              clear ownE ownG qG SFE
              go_wp2_with fail
              refine (same_any _ sG sE).mono ?_
              rintro e wH ⟨rfl, qH⟩
              rw [decide_eq_true (rfl : MM = MM)]
              have bH := bG.trans (qH.mono bG.size)
              clear qH sG sE
              go_wp2_with fail
              refine (awake4_any _ (TT.out.below bH)).mono ?_
              rintro e wI ⟨rfl, qI⟩
              go_wp2
              go_ret
              exact ⟨rfl, bH.trans (qI.mono bH.size)⟩
end Go.Proofs.YtpbahbigimnboaaDoor
