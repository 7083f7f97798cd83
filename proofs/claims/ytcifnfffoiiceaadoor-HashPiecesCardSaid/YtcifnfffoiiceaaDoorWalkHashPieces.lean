/-
  The walk of HashPieces.
-/
import Derived.Test.YtcifnfffoiiceaaDoorRefSum
import Derived.Test.YtcifnfffoiiceaaDoorPieces
import Derived.Test.YtcifnfffoiiceaaDoorAwakeH
namespace Go.Proofs.YtcifnfffoiiceaaDoor
open Go.RowKit
set_option linter.unusedVariables false
set_option linter.unusedSimpArgs false
set_option pp.deepTerms true
set_option pp.maxSteps 1000000

theorem Pcs.first {Z g b1 b2 : Nat} {wd : Int} {w : World} (H : HashAt w g wd []) (hz : Z ≤ g) (h1 : w.heap[b1]? = some (.cells #[ptr g] 39 (0, 0))) (h2 : w.heap[b2]? = some (.cells #[.slice none 0 0] 29 (0, 0)))
    (z1 : Z ≤ b1) (z2 : Z ≤ b2) (n1 : b1 ≠ b2) (n2 : b1 ≠ g) (n3 : b2 ≠ g) : Pcs Z wd w (.slice (some ⟨b1, 0, none⟩) 1 1) (.slice (some ⟨b2, 0, none⟩) 1 1) [g] [.slice none 0 0] [[]] [[]] := by
  refine ⟨⟨rfl, .inr ⟨b1, 1, _, rfl, z1, h1, Nat.le_refl _, by decide, rfl, rfl⟩⟩, ⟨⟨rfl, .inr ⟨b2, 1, _, rfl, z2, h2, Nat.le_refl _, by decide, rfl, rfl⟩⟩, rfl, fun i x L hx hL => ?_⟩, rfl, rfl, fun j g' T hg hT => ?_, fun i j g' hij hi hj => ?_, fun g' hg => ⟨fun e => ?_, fun e => ?_, fun v hv => ?_⟩, fun b e => ⟨fun e2 => ?_, fun v hv => ?_⟩⟩
  · match i, hx, hL with
    | 0, hx, hL =>
      cases hx
      cases hL
      exact ⟨SliceOf.nil, fun b e => by cases e⟩
    | i + 1, hx, hL => cases hx
  · match j, hg, hT with
    | 0, hg, hT =>
      cases hg
      cases hT
      exact ⟨H, hz⟩
    | j + 1, hg, hT => cases hg
  · match j, hij, hj with
    | j + 1, hij, hj => cases hj
  · rw [List.mem_singleton] at hg
    exact n2 (by rw [← hg]; exact Option.some.inj e)
  · rw [List.mem_singleton] at hg
    exact n3 (by rw [← hg]; exact Option.some.inj e)
  · rw [List.mem_singleton] at hv
    subst hv
    intro e
    cases e
  · exact n1 ((Option.some.inj e).trans (Option.some.inj e2).symm)
  · rw [List.mem_singleton] at hv
    subst hv
    intro e
    cases e
theorem one_in {w : World} {p : Nat} {v : Value} {L : List Nat} (h : w.heap[p]? = some (.cells #[v] 29 (0, 0))) (S : SliceOf u8c w v L) : PartsIn w (.slice (some ⟨p, 0, none⟩) 1 1) [v] [L] := by
  refine ⟨⟨_, _, rfl, Nat.le_refl _, by show 1 ≤ maxLen; decide, (fun e => by cases e), .inr ⟨p, 0, rfl, fun j x hj => ?_⟩⟩, rfl, fun i x K hx hK => ?_⟩
  · rw [cell_of_row _ _ _ _ _ _ h]
    match j, hj with
    | 0, hj => cases hj; rfl
    | j + 1, hj => cases hj
  · match i, hx, hK with
    | 0, hx, hK =>
      cases hx
      cases hK
      exact S
    | i + 1, hx, hK => cases hx
set_option maxRecDepth 16000 in
set_option maxHeartbeats 40000000 in
theorem walkHashPieces (w : World) (D : DoorAt w) {wd : Int} {v : Value} {As : List (Int × List Nat)} (w0 : (Lit.int .i64 wd).wf = true) (sA : ActsIn w v As) (bA : ∀ (m : Int) (L : List Nat), (m, L) ∈ As → Bytes L ∧ (Lit.int .i64 m).wf = true ∧ L.length ≤ 140737488351232) :
    Calls Tryd.prog 6 #[.int .i64 wd, v] w fun e w' => e = .returned (.bool true) ∧ Below w.heap.size w w' := by
  have HA := Lib.hid sA
  have HD := Lib.hid D
  have HBA := Lib.hid bA
  have hb1 := D.1
  obtain ⟨a, cap, rfl, c1, c2, c3⟩ := sA
  have C3 := Lib.hid c3
  obtain ⟨Ls, hLs⟩ : ∃ Ls, As.map Prod.snd = Ls := ⟨_, rfl⟩
  have HLS := Lib.hid (show ∀ (j : Nat) (m : Int) (L : List Nat), As[j]? = some (m, L) → Ls[j]? = some L from fun j m L h => by rw [← hLs, List.getElem?_map, h]; rfl)
  obtain ⟨N, hN⟩ : ∃ N, As.length = N := ⟨_, rfl⟩
  have NL := Lib.hid (show N = Ls.length by rw [← hLs, ← hN, List.length_map])
  rw [hN] at c1 ⊢
  have HNN := Lib.hid hN
  have Ni : (N : Int) ≤ 9223372036854775807 := by unfold maxLen at c2; omega
  obtain ⟨Z, hZ⟩ : ∃ Z, w.heap.size = Z := ⟨_, rfl⟩
  have HZ := Lib.hid hZ
  rw [hZ] at hb1 ⊢
  clear D w0 bA c3 c2 hN hZ hLs
  go_enter Tryd.func6, Tryd.ntmps6
  go_wp2_with fail
  go_loopw [5, 6] (fun s i wr => ∃ k : Nat, k ≤ N ∧ i = .int .i64 (k : Int) ∧ s = .int .i64 ((k + (Ls.take k).flatten.length : Nat) : Int) ∧ k + (Ls.take k).flatten.length ≤ 3000 ∧ wr = w) (fun _ i _ => N - (intOf i).toNat)
  case atStart => exact ⟨0, by omega, rfl, rfl, by simp, rfl⟩
  case round =>
    obtain ⟨k, hk, rfl, rfl, hs, rfl⟩ := hrel
    by_cases hlt : k < N
    · obtain ⟨⟨tag, L⟩, hx⟩ : ∃ x, As[k]? = some x := ⟨As[k]'(by rw [HNN.out]; exact hlt), List.getElem?_eq_getElem _⟩
      have hL := HLS.out k tag L hx
      obtain ⟨b, off, x, rfl, cm, cx, sx⟩ := C3.out k tag L hx
      have lL := (HBA.out tag L (List.mem_of_getElem? hx)).2.2
      have fl : (Ls.take (k + 1)).flatten = (Ls.take k).flatten ++ L := by rw [take_snoc' hL, List.flatten_append]; simp
      obtain ⟨ax, cpx, rfl, _⟩ := sx
      have FL := Lib.hid (show (Ls.take (k + 1)).flatten.length = (Ls.take k).flatten.length + L.length by rw [fl, List.length_append])
      obtain ⟨m, hm⟩ : ∃ m, k + (Ls.take k).flatten.length = m := ⟨_, rfl⟩
      obtain ⟨q, hq⟩ : ∃ q, L.length = q := ⟨_, rfl⟩
      have HM := Lib.hid hm
      have HQ := Lib.hid hq
      rw [hm] at hs ⊢
      rw [hq] at cx lL
      have mi : (m : Int) ≤ 3000 := by omega
      have qi : (q : Int) ≤ 140737488351232 := by omega
      have ki : (k : Int) < (N : Int) := by omega
      have k0 : (0 : Int) ≤ (k : Int) := by omega
      clear hx hL fl hm hq
      by_cases hbig : 3000 < m + (1 + q)
      · have hb2 : (3000 : Int) < (m : Int) + (1 + (q : Int)) := by omega
        go_wp2
        go_ret
        exact ⟨rfl, Below.refl _ _⟩
      · have hb2 : ¬ (3000 : Int) < (m : Int) + (1 + (q : Int)) := by omega
        go_wp2
        go_roundw
        case rel => exact ⟨k + 1, by omega, by go_num, (by congr 1; have := FL.out; have := HM.out; have := HQ.out; push_cast; omega), by have := FL.out; have := HM.out; have := HQ.out; omega, trivial⟩
        case measure => simp [intOf]; omega
    · obtain rfl : k = N := by omega
      obtain ⟨m5, h5⟩ : ∃ m, k + (Ls.take k).flatten.length = m := ⟨_, rfl⟩
      rw [h5]
      clear h5
      rw [List.take_of_length_le (by rw [← NL.out]; exact Nat.le_refl _)] at hs
      have HS := Lib.hid hs
      have kl : k ≤ 3000 := by omega
      have NW := Lib.hid (New_any wd wr HD.out)
      clear hlt hk hs
      go_wp2_with fail
      refine NW.out.mono ?_
      rintro e w1 ⟨g0, rfl, zg, h1, q1⟩
      have H1 := Lib.hid h1
      have Q1 := Lib.hid q1
      have ZG := Lib.hid zg
      clear zg h1 q1 NW
      go_wp2_with fail
      have e1 : (w1.alloc (.cells #[ptr g0] 39 (0, 0))).heap.size = w1.heap.size + 1 := by simp
      have q2 : Below w1.heap.size w1 ((w1.alloc (.cells #[ptr g0] 39 (0, 0))).alloc (.cells #[.slice none 0 0] 29 (0, 0))) := ((Below.refl _ _).alloc (Nat.le_refl _) _).alloc (by simp) _
      have z1 : wr.heap.size ≤ w1.heap.size := Q1.out.size
      have zz := HZ.out
      have P0 : Pcs Z wd ((w1.alloc (.cells #[ptr g0] 39 (0, 0))).alloc (.cells #[.slice none 0 0] 29 (0, 0))) (.slice (some ⟨w1.heap.size, 0, none⟩) 1 1) (.slice (some ⟨w1.heap.size + 1, 0, none⟩) 1 1) [g0] [.slice none 0 0] [[]] [[]] :=
        Pcs.first (H1.out.of_heap (q2.block g0 H1.out.lt)) (by have := ZG.out; omega) (by rw [Below.heap_alloc _ _ _ (by simp), heap_alloc_new]) (by rw [← e1, heap_alloc_new]) (by omega) (by omega) (by omega) (by have := H1.out.lt; omega) (by have := H1.out.lt; omega)
      have b0 : Below Z wr ((w1.alloc (.cells #[ptr g0] 39 (0, 0))).alloc (.cells #[.slice none 0 0] 29 (0, 0))) := by rw [← zz]; exact Q1.out.trans (q2.mono z1)
      clear e1 q2 z1 zz H1 Q1 ZG
      obtain ⟨w, hw⟩ : ∃ u, u = wr := ⟨_, rfl⟩
      subst hw
      go_loopw [7, 8, 9, 10] (fun l x at' i wr => ∃ (j p : Nat) (gs : List Nat) (vs : List Value) (Ts : List (List Nat)), j ≤ k ∧ i = .int .i64 (j : Int) ∧ at' = .int .i64 (p : Int) ∧ p < gs.length ∧ gs.length ≤ 6 ∧ Pcs Z wd wr l x gs vs Ts Ts ∧ (∀ T ∈ Ts, T.length ≤ (Ls.take j).flatten.length) ∧ Below Z w wr) (fun _ _ _ i _ => k - (intOf i).toNat)
      case atStart => exact ⟨0, 0, [g0], [.slice none 0 0], [[]], by omega, rfl, rfl, Nat.zero_lt_one, by simp, P0, (fun T hT => by rw [List.mem_singleton] at hT; subst hT; exact Nat.zero_le _), b0⟩
      case round =>
        obtain ⟨j, p, gs, vs, Ts, hj, rfl, rfl, hp, h6, P, hT, qx⟩ := hrel
        clear P0 b0
        obtain ⟨wx, hwx⟩ : ∃ u, u = wr := ⟨_, rfl⟩
        subst hwx
        obtain ⟨lb, lc, rfl, zl1, zl2, lc1, lc2⟩ := own_form3 P.rl (by omega)
        obtain ⟨xb, xc, rfl, zx1, zx2, xc1, xc2⟩ := own_form3 P.rt.1 (by have := P.lt; omega)
        have HPL := Lib.hid P.lt
        rw [HPL.out] at P xc1 ⊢
        obtain ⟨m, hm⟩ : ∃ m, gs.length = m := ⟨_, rfl⟩
        rw [hm] at P HPL hp h6 lc1 xc1 ⊢
        have HM := Lib.hid hm
        have zx : Z ≤ wx.heap.size := by have := qx.size; have := HZ.out; omega
        by_cases hlt : j < k
        · have hlt := hlt
          obtain ⟨⟨tag, L⟩, hx⟩ : ∃ x, As[j]? = some x := ⟨As[j]'(by rw [HNN.out]; exact hlt), List.getElem?_eq_getElem _⟩
          have hL := HLS.out j tag L hx
          obtain ⟨b, off, y, rfl, cm0, cy0, sy0⟩ := C3.out j tag L hx
          obtain ⟨bL, tw, _⟩ := HBA.out tag L (List.mem_of_getElem? hx)
          have bw : b < Z := by rw [← HZ.out]; exact World.block_lt_of_cell? _ _ cm0
          have cm := (qx.cell (p := ⟨b, off + j * 2, none⟩) bw).trans cm0
          have cy := (qx.cell (p := ⟨b, off + j * 2 + 1, none⟩) bw).trans cy0
          have sy := sy0.below (by rw [HZ.out]; exact qx)
          have hTK : (Ls.take (j + 1)).flatten.length = (Ls.take j).flatten.length + L.length := by rw [take_snoc' hL, List.flatten_append, List.length_append]; simp
          have TK := Lib.hid hTK
          have lT : (Ls.take (j + 1)).flatten.length ≤ 3000 := by
            have e : Ls.flatten = (Ls.take (j + 1)).flatten ++ (Ls.drop (j + 1)).flatten := by rw [← List.flatten_append, List.take_append_drop]
            have h1 : Ls.flatten.length = (Ls.take (j + 1)).flatten.length + (Ls.drop (j + 1)).flatten.length := by rw [← List.length_append, ← e]
            have := HS.out
            omega
          have HLT := Lib.hid lT
          have HBL := Lib.hid bL
          have HSY := Lib.hid sy
          have HS0 := Lib.hid sy0
          obtain ⟨ay, cpy, rfl, _⟩ := sy
          obtain ⟨q, hq⟩ : ∃ q, L.length = q := ⟨_, rfl⟩
          have HQ := Lib.hid hq
          have q3 : q ≤ 3000 := by omega
          rw [hq] at cy HSY HS0
          have HP := Lib.hid P
          have HTT := Lib.hid hT
          have HQX := Lib.hid qx
          obtain ⟨g, hg⟩ : ∃ g, gs[p]? = some g := ⟨gs[p]'(by omega), List.getElem?_eq_getElem _⟩
          obtain ⟨t, ht⟩ : ∃ t, vs[p]? = some t := ⟨vs[p]'(by have := HPL.out; omega), List.getElem?_eq_getElem _⟩
          obtain ⟨T, hTp⟩ : ∃ T, Ts[p]? = some T := ⟨Ts[p]'(by have := P.rt.2.1; have := HPL.out; omega), List.getElem?_eq_getElem _⟩
          have rl2 := P.rl
          have rt2 := P.rt.1
          rw [hm] at rl2
          rw [HPL.out] at rt2
          have cg := own_cell rl2 (show (gs.map ptr)[p]? = some (ptr g) by rw [List.getElem?_map, hg]; rfl)
          have ct := own_cell rt2 ht
          have HI := Lib.hid (And.intro hg (And.intro ht hTp))
          have HC := Lib.hid (And.intro cg ct)
          have HZX := Lib.hid (And.intro zx (And.intro (And.intro zl1 zl2) (And.intro zx1 zx2)))
          have ji : (j : Int) < (k : Int) := by omega
          have j0 : (0 : Int) ≤ (j : Int) := by omega
          have pm : (p : Int) < (m : Int) := by omega
          have p0 : (0 : Int) ≤ (p : Int) := by omega
          clear hx hL cm0 cy0 sy0 bL tw bw hTK lT hq P hT qx hg ht hTp zl1 zl2 zx1 zx2 zx hm cg ct rl2 rt2
          have bB : Below wx.heap.size wx (wx.alloc (.cells #[.int .i64 tag, .slice ay q cpy] 38 (0, 0))) := (Below.refl _ _).alloc (Nat.le_refl _) _
          have HB := Lib.hid bB
          clear bB
          by_cases h0 : tag = 0
          · subst h0
            obtain ⟨wB, hwB⟩ : ∃ u, wx.alloc (.cells #[.int .i64 0, .slice ay q cpy] 38 (0, 0)) = u := ⟨_, rfl⟩
            have HWB := Lib.hid hwB
            clear hwB
            have QB : Below wx.heap.size wx wB := by rw [← HWB.out]; exact HB.out
            have PB := HP.out.below QB
            have ZB : Z ≤ wB.heap.size := by have := QB.size; have := HZX.out.1; omega
            have BB := HQX.out.trans (QB.mono HZX.out.1)
            obtain ⟨ta, tc, rfl, _⟩ := (PB.rt.2.2 p t T HI.out.2.1 HI.out.2.2).1
            obtain ⟨tn, htn⟩ : ∃ u, T.length = u := ⟨_, rfl⟩
            have HTN := Lib.hid htn
            rw [htn] at HI HC
            have tn3 : tn ≤ 3000 := by have := HTT.out T (List.mem_of_getElem? HI.out.2.2); have := HLT.out; have := TK.out; have := HQ.out; omega
            have K0 : wB.drew.cell? ⟨lb, p, none⟩ = some (.pointer (some ⟨g, 0, none⟩)) ∧ wB.drew.cell? ⟨xb, p, none⟩ = some (.slice ta tn tc) ∧ Below wB.heap.size wB wB.drew := ⟨(QB.cell (p := ⟨lb, p, none⟩) HZX.out.2.1.2).trans HC.out.1, (QB.cell (p := ⟨xb, p, none⟩) HZX.out.2.2.2).trans HC.out.2, (Below.refl _ _).drew⟩
            have KK : ∀ {u u' : World}, (u.cell? ⟨lb, p, none⟩ = some (.pointer (some ⟨g, 0, none⟩)) ∧ u.cell? ⟨xb, p, none⟩ = some (.slice ta tn tc) ∧ Below wB.heap.size wB u) → Below u.heap.size u u' → u'.cell? ⟨lb, p, none⟩ = some (.pointer (some ⟨g, 0, none⟩)) ∧ u'.cell? ⟨xb, p, none⟩ = some (.slice ta tn tc) ∧ Below wB.heap.size wB u' := fun h q => ⟨(q.cell (p := ⟨lb, p, none⟩) (World.block_lt_of_cell? _ _ h.1)).trans h.1, (q.cell (p := ⟨xb, p, none⟩) (World.block_lt_of_cell? _ _ h.2.1)).trans h.2.1, h.2.2.trans (q.mono h.2.2.size)⟩
            clear htn K0 KK
            have SYB := HSY.out.below QB
            have cb0 : wB.cell? ⟨wx.heap.size, 1, none⟩ = some (.slice ay q cpy) := by rw [← HWB.out]; rw [cell_of_row _ _ _ _ _ _ (heap_alloc_new _ _)]; rfl
            have R1 := Lib.hid (row2_any wB SYB (by have := HQ.out; omega))
            have cb9 : (wx.alloc (.cells #[.int .i64 0, .slice ay q cpy] 38 (0, 0))).cell? ⟨wx.heap.size, 1, none⟩ = some (.slice ay q cpy) := by rw [HWB.out]; exact cb0
            have HKB := Lib.hid (And.intro ((QB.cell (p := ⟨lb, p, none⟩) HZX.out.2.1.2).trans HC.out.1) ((QB.cell (p := ⟨xb, p, none⟩) HZX.out.2.2.2).trans HC.out.2))
            have HCB := Lib.hid cb0
            have HSB := Lib.hid SYB
            have HPB := Lib.hid PB
            have HZB := Lib.hid ZB
            have HBB := Lib.hid BB
            have HQB := Lib.hid QB.size
            clear SYB cb0 PB ZB BB QB
            go_wp2_with fail
            rw [HWB.out]
            refine R1.out.mono ?_
            rintro e w2 ⟨v2, rfl, r2, q2⟩
            clear R1 cb9
            have P2 := HPB.out.below q2
            have B2 := HBB.out.trans (q2.mono HZB.out)
            have z2 : Z ≤ w2.heap.size := Nat.le_trans HZB.out q2.size
            have cl2 : w2.cell? ⟨lb, p, none⟩ = some (.pointer (some ⟨g, 0, none⟩)) := (q2.cell (p := ⟨lb, p, none⟩) (World.block_lt_of_cell? _ _ HKB.out.1)).trans HKB.out.1
            have cx2 := (q2.cell (p := ⟨xb, p, none⟩) (World.block_lt_of_cell? _ _ HKB.out.2)).trans HKB.out.2
            have cb2 := (q2.cell (p := ⟨wx.heap.size, 1, none⟩) (World.block_lt_of_cell? _ _ HCB.out)).trans HCB.out
            have sy2 := HSB.out.below q2
            have gl := P2.gl g (List.mem_of_getElem? HI.out.1)
            obtain ⟨hg2, zg⟩ := P2.hs p g T HI.out.1 HI.out.2.2
            obtain ⟨gv, cv, rfl, _, _, _⟩ := r2.form
            have gvl := r2.block gv rfl
            have ng : gv ≠ g := fun e => by have := (HPB.out.at (List.mem_of_getElem? HI.out.1)); obtain ⟨_, h1, _⟩ := this; have := h1.lt; omega
            have WR := Write_any (T := T) hg2 (HD.out.low hb1 B2) (by omega) r2.slice (fun e => ng (Option.some.inj e)) HBL.out (by have := HTN.out; have := HQ.out; omega)
            have HWR := Lib.hid WR
            have ngx : wx.heap.size ≠ g := fun e => by have := (HP.out.at (List.mem_of_getElem? HI.out.1)); obtain ⟨_, h1, _⟩ := this; have := h1.lt; omega
            have HF2 := Lib.hid (And.intro P2 (And.intro B2 (And.intro z2 (And.intro r2 (And.intro cb2 (And.intro sy2 (And.intro gl (And.intro zg (And.intro gvl (And.intro ng (And.intro ngx (And.intro cx2 q2.size))))))))))))
            rw [HQ.out] at HWR ⊢
            clear P2 B2 z2 r2 cb2 sy2 gl zg gvl ng ngx hg2 cx2 q2 WR
            go_wp2_with fail
            refine HWR.out.mono ?_
            rintro e w3 ⟨⟨xr, rfl⟩, hg3, t3⟩
            clear cl2 HWR
            have P3 := HF2.out.1.write t3 HI.out.1 hg3
            have B3 : Below Z w w3 := HF2.out.2.1.trans ⟨t3.os, t3.tape, t3.output, t3.size, fun b hb => t3.block b (by have := HF2.out.2.2.1; omega) (by have := HF2.out.2.2.2.2.2.2.2.1; omega)⟩
            have z3 : Z ≤ w3.heap.size := Nat.le_trans HF2.out.2.2.1 t3.size
            have r3 := HF2.out.2.2.2.1.keepB (w' := w3) (fun b e => t3.block b (HF2.out.2.2.2.1.block b e).2 (fun e2 => HF2.out.2.2.2.2.2.2.2.2.2.1 (by have e3 : gv = b := Option.some.inj e; omega)))
            have cb3 : w3.cell? ⟨wx.heap.size, 1, none⟩ = some (.slice ay q cpy) := (World.cell?_of_block (a := ⟨wx.heap.size, 1, none⟩) (t3.block wx.heap.size (World.block_lt_of_cell? _ _ HF2.out.2.2.2.2.1) HF2.out.2.2.2.2.2.2.2.2.2.2.1)).trans HF2.out.2.2.2.2.1
            have sy3 : SliceOf u8c w3 (.slice ay q cpy) L := HS0.out.below (by rw [HZ.out]; exact B3)
            have cx3 : w3.cell? ⟨xb, p, none⟩ = some (.slice ta tn tc) := (World.cell?_of_block (a := ⟨xb, p, none⟩) (t3.block xb (World.block_lt_of_cell? _ _ HF2.out.2.2.2.2.2.2.2.2.2.2.2.1) (fun e => HF2.out.2.2.2.2.2.2.1.2.1 (by rw [← e]; rfl)))).trans HF2.out.2.2.2.2.2.2.2.2.2.2.2.1
            have M1 := same2_any w3 r3.slice sy3
            rw [decide_eq_true rfl] at M1
            rw [HQ.out] at M1
            have HM1 := Lib.hid M1
            have gvz := HF2.out.2.2.2.2.2.2.2.2.1
            have HF3 := Lib.hid (And.intro P3 (And.intro B3 (And.intro z3 (And.intro r3 (And.intro cb3 (And.intro sy3 (And.intro cx3 (And.intro t3.size gvz))))))))
            clear P3 B3 z3 r3 sy3 hg3 t3 M1 cx3 gvz
            go_wp2_with fail
            refine HM1.out.mono ?_
            rintro e w4 ⟨rfl, q4⟩
            clear cb3
            have r4 := HF3.out.2.2.2.1.below q4
            have K0 := marked_any r4 (by have := HQ.out; omega)
            rw [HQ.out] at K0
            have K1 := Lib.hid K0
            have HR4 := Lib.hid r4
            have P4 := Lib.hid (HF3.out.1.below q4)
            have B4 := Lib.hid (HF3.out.2.1.trans (q4.mono HF3.out.2.2.1))
            have cb4 := Lib.hid ((q4.cell (p := ⟨wx.heap.size, 1, none⟩) (World.block_lt_of_cell? _ _ HF3.out.2.2.2.2.1)).trans HF3.out.2.2.2.2.1)
            have cx4 := Lib.hid ((q4.cell (p := ⟨xb, p, none⟩) (World.block_lt_of_cell? _ _ HF3.out.2.2.2.2.2.2.1)).trans HF3.out.2.2.2.2.2.2.1)
            have gz4 : Hid (wB.heap.size ≤ gv ∧ gv < w4.heap.size ∧ Z ≤ w4.heap.size) := Lib.hid ⟨HF3.out.2.2.2.2.2.2.2.2.1, by have := HF3.out.2.2.2.2.2.2.2.2.2; have := HF3.out.2.2.2.2.2.2.2.1; have := q4.size; omega, by have := HF3.out.2.2.1; have := q4.size; omega⟩
            clear r4 q4 HM1 HF3 HF2 K0
            go_wp2_with fail
            refine K1.out.mono ?_
            rintro e w5 ⟨rfl, rfl⟩
            clear K1
            have t5 : TouchB gv w5 w5 := TouchB.refl _ _
            have a5 : ∃ A : List Nat, A.length = q ∧ RowAt wB.heap.size w5 (.slice (some ⟨gv, 0, none⟩) q cv) A := ⟨L, HQ.out, by have := HR4.out; rw [HQ.out] at this; exact this⟩
            go_wp2_with fail
            go_loopw [13] (fun kk wr => ∃ (i : Nat) (A : List Nat), i ≤ q ∧ kk = .int .i64 (i : Int) ∧ A.length = q ∧ RowAt wB.heap.size wr (.slice (some ⟨gv, 0, none⟩) q cv) A ∧ TouchB gv w5 wr) (fun kk _ => q - (intOf kk).toNat)
            case atStart =>
              obtain ⟨A, h1, h2⟩ := a5
              exact ⟨0, A, by omega, rfl, h1, h2, t5⟩
            case round =>
              obtain ⟨i, A, hi, rfl, lA, rA, tA⟩ := hrel
              clear a5 t5
              obtain ⟨wv, hwv⟩ : ∃ u, u = wr := ⟨_, rfl⟩
              subst hwv
              by_cases hiq : i < q
              · have hiq := hiq
                obtain ⟨c, hc⟩ : ∃ c, A[i]? = some c := ⟨A[i]'(by omega), List.getElem?_eq_getElem _⟩
                obtain ⟨cc, fz⟩ := rA.cell2 hc
                obtain ⟨d, hd⟩ : ∃ d, (c + 1) % 256 = d := ⟨_, rfl⟩
                have di : IntKind.u8.wrap ((c : Int) + 1) = (d : Int) := by simp [IntKind.wrap, IntKind.bits, IntKind.signed]; omega
                have pA := rA.put2 (y := d) (k := i) (by omega)
                have tB := tA.setCell i (.int .u8 (d : Int))
                have HH := Lib.hid (And.intro pA tB)
                have HLA := Lib.hid lA
                have ii : (i : Int) < (q : Int) := by omega
                have i0 : (0 : Int) ≤ (i : Int) := by omega
                clear pA tB rA tA lA hc hd
                go_wp2_with fail
                go_roundw
                case rel => exact ⟨i + 1, A.set i d, by omega, by go_num, by rw [List.length_set]; exact HLA.out, HH.out.1, HH.out.2⟩
                case measure => simp [intOf]; omega
              · obtain rfl : q = i := by omega
                have HTA := Lib.hid tA
                clear rA tA lA hiq hi
                go_wp2_with fail
                have gw := HTA.out.size
                have nb : ∀ b, b < wB.heap.size → b ≠ gv := fun b h e => by have := gz4.out.1; omega
                have P6 := P4.out.keep gw (fun b e => HTA.out.block b (P4.out.rl.lt b e).2 (nb b (HPB.out.rl.lt b e).2)) (fun b e => HTA.out.block b (P4.out.rt.1.lt b e).2 (nb b (HPB.out.rt.1.lt b e).2)) (fun v hv b e => HTA.out.block b (P4.out.rt.mem hv b e).1 (nb b (HPB.out.rt.mem hv b e).1)) (fun g' hg' => by obtain ⟨_, h1, _⟩ := P4.out.at hg'; obtain ⟨_, h2, _⟩ := HPB.out.at hg'; exact HTA.out.block g' h1.lt (nb g' h2.lt))
                have B6 : Below Z w wv := B4.out.trans ⟨HTA.out.os, HTA.out.tape, HTA.out.output, gw, fun b hb => HTA.out.block b (by have := gz4.out.2.2; omega) (nb b (by have := HZB.out; omega))⟩
                have cb6 : wv.drew.cell? ⟨wx.heap.size, 1, none⟩ = some (.slice ay q cpy) := (World.cell?_of_block (a := ⟨wx.heap.size, 1, none⟩) (HTA.out.block _ (World.block_lt_of_cell? _ _ cb4.out) (nb _ (World.block_lt_of_cell? _ _ HCB.out)))).trans cb4.out
                have P7 := P6.below (Below.refl _ _).drew
                have B7 := B6.drew
                obtain ⟨w0, hw0⟩ : ∃ u, wv.drew = u := ⟨_, rfl⟩
                refine wp_region_held (S := fun w' => w'.cell? ⟨wx.heap.size, 1, none⟩ = some (.slice ay q cpy)) (by kernel_rfl) ?_
                change wpAnyH _ _ _ _ _ _ _ _ (World.drew _)
                rw [hw0] at cb6 P7 B7 ⊢
                clear hw0 P6 B6 gw nb
                have rt7 := P7.rt.1
                rw [HPL.out] at rt7
                have cx7 : w0.cell? ⟨xb, p, none⟩ = some (.slice ta tn tc) := own_cell rt7 HI.out.2.1
                have ST := (P7.rt.2.2 p _ T HI.out.2.1 HI.out.2.2).1
                have SY := HS0.out.below (by rw [HZ.out]; exact B7)
                have z7 : Z ≤ w0.heap.size := by have := (P7.rt.1.lt xb rfl); omega
                have lT7 : T.length ≤ 3000 := by have := HTN.out; omega
                have lL7 : L.length ≤ 3000 := by have := HQ.out; omega
                have HP7 := Lib.hid P7
                have nbx : wx.heap.size ≠ xb := fun e => by have := HZX.out.2.2.2; omega
                clear P7 rt7
                refine anyH_take (i := 0) (d := 94) (v := (Value.slice (some ⟨xb, 0, none⟩) m xc)) rfl rfl (by kernel_rfl) (by kernel_rfl) (by kernel_rfl) (fun _ _ _ h => h) (Or.inl ⟨by kernel_rfl, fun w _ => by kernel_rfl⟩) cb6 ?_
                refine anyH_take (i := 1) (d := 95) (v := .int .i64 (p : Int)) rfl rfl (by kernel_rfl) (by kernel_rfl) (by kernel_rfl) (fun _ _ _ h => h) (Or.inl ⟨by kernel_rfl, fun w _ => by kernel_rfl⟩) cb6 ?_
                refine anyH_take (i := 3) (d := 97) (v := (Value.slice (some ⟨xb, 0, none⟩) m xc)) rfl rfl (by kernel_rfl) (by kernel_rfl) (by kernel_rfl) (fun _ _ _ h => h) (Or.inl ⟨by kernel_rfl, fun w _ => by kernel_rfl⟩) cb6 ?_
                refine anyH_take (i := 4) (d := 98) (v := .int .i64 (p : Int)) rfl rfl (by kernel_rfl) (by kernel_rfl) (by kernel_rfl) (fun _ _ _ h => h) (Or.inl ⟨by kernel_rfl, fun w _ => by kernel_rfl⟩) cb6 ?_
                refine anyH_take (i := 5) (d := 99) (v := .pointer (some ⟨xb, p, none⟩)) rfl rfl (by kernel_rfl) (by kernel_rfl) (by kernel_rfl) (fun _ _ _ h => h) (Or.inl ⟨by kernel_rfl, fun w hw => by obtain h1 := hw; go_simp⟩) cb6 ?_
                refine anyH_take (i := 8) (d := 102) (v := .pointer (some ⟨wx.heap.size, 1, none⟩)) rfl rfl (by kernel_rfl) (by kernel_rfl) (by kernel_rfl) (fun _ _ _ h => h) (Or.inl ⟨by kernel_rfl, fun w hw => by obtain h1 := hw; go_simp⟩) cb6 ?_
                refine anyH_take (i := 9) (d := 103) (v := (.slice ay q cpy)) rfl rfl (by kernel_rfl) (by kernel_rfl) (by kernel_rfl) (fun _ _ _ h => h) (Or.inl ⟨by kernel_rfl, fun w hw => by obtain h1 := hw; go_simp⟩) cb6 ?_
                have q1 : Below w0.heap.size w0 (w0.alloc (.cells #[] 5 (0, 0))) := (Below.refl _ _).alloc (Nat.le_refl _) _
                have own1 := own_made0b (w := w0) (Nat.le_refl _)
                have ST1 := ST.below q1
                have SY1 := SY.below q1
                have cb1 := (q1.cell (p := ⟨wx.heap.size, 1, none⟩) (World.block_lt_of_cell? _ _ cb6)).trans cb6
                have cx1 := (q1.cell (p := ⟨xb, p, none⟩) (World.block_lt_of_cell? _ _ cx7)).trans cx7
                have HQ1 := Lib.hid (And.intro own1 (And.intro ST1 (And.intro SY1 (And.intro cb1 q1))))
                clear own1 ST1 SY1 cb1 q1 ST SY
                refine anyH_two (i := 2) (j := 6) (by kernel_rfl) rfl rfl ?_ ?_
                · have t00 := z7
                  go_wp2_with fail
                  refine ⟨HQ1.out.2.2.2.1, ?_⟩
                  refine anyH_step (i := 6) (d := 100) (v := (.slice ta tn tc)) (w2 := w0.alloc (.cells #[] 5 (0, 0))) (by kernel_rfl) rfl rfl (by kernel_rfl) (by go_simp) ⟨HQ1.out.2.2.2.1, ?_⟩
                  refine anyH_one (i := 7) (by kernel_rfl) rfl ?_
                  refine app_u8 (.tmp 96) (.tmp 100) rfl rfl w0.heap.size _ 0 [] (by kernel_rfl) HQ1.out.1 _ T (by kernel_rfl) HQ1.out.2.1 (by omega) HQ1.out.2.2.2.2.size ?_
                  intro v7 u7 own7 g7
                  have z1 := HQ1.out.2.2.2.2.size
                  have q7 : Below w0.heap.size w0 u7 := HQ1.out.2.2.2.2.grown g7 z1 (fun k hk => (HQ1.out.1.lt k hk).1)
                  have q71 : Below w0.heap.size (w0.alloc (.cells #[] 5 (0, 0))) u7 := (Below.refl _ _).grown g7 z1 (fun k hk => (HQ1.out.1.lt k hk).1)
                  have cb7 := (q7.cell (p := ⟨wx.heap.size, 1, none⟩) (World.block_lt_of_cell? _ _ cb6)).trans cb6
                  refine And.intro cb7 ?_
                  have SY7 : SliceOf u8c u7 (.slice ay q cpy) L := HS0.out.below (by rw [HZ.out]; exact B7.trans (q7.mono z7))
                  refine anyH_one (i := 10) (by kernel_rfl) rfl ?_
                  refine app_u8 (.tmp 101) (.tmp 103) rfl rfl w0.heap.size _ (0 + T.length) _ (by kernel_rfl) own7 _ L (by kernel_rfl) SY7 (by omega) q7.size ?_
                  intro v10 u10 own10 g10
                  have q10 : Below w0.heap.size w0 u10 := q7.grown g10 q7.size (fun k hk => (own7.lt k hk).1)
                  have cb10 := (q10.cell (p := ⟨wx.heap.size, 1, none⟩) (World.block_lt_of_cell? _ _ cb6)).trans cb6
                  have cx10 := (q10.cell (p := ⟨xb, p, none⟩) (World.block_lt_of_cell? _ _ cx7)).trans cx7
                  have lt10 := own10.lt
                  have SN : SliceOf u8c u10 v10 (T ++ L) := by
                    have e : 0 + T.length + L.length = (T ++ L).length := by simp
                    rw [e, List.nil_append, ← u8s_append] at own10
                    exact SliceOf.of_own own10 (u8s_eq _)
                  have P10 := HP7.out.below q10
                  have rt10 := P10.rt.1
                  rw [HPL.out] at rt10
                  have fz10 := rt10.frozenAt p
                  obtain ⟨a9, c9, rfl, _⟩ := id SN
                  obtain ⟨n9, hn9⟩ : ∃ n, (T ++ L).length = n := ⟨_, rfl⟩
                  rw [hn9] at SN lt10 ⊢
                  have PT := P10.text (j := p) (by rw [HM.out]; omega) SN (fun b e => ⟨(lt10 b e).2, fun e2 => by have := (lt10 b e).1; have := (HP7.out.rt.1.lt xb rfl).2; omega, fun e2 => by have := (lt10 b e).1; have := (HP7.out.rl.lt b e2).2; omega, fun hb => by obtain ⟨_, h1, _⟩ := HP7.out.at hb; have := (lt10 b e).1; have := h1.lt; omega⟩)
                  refine And.intro cb10 ?_
                  refine anyH_take (i := 11) (d := 105) (v := .pointer (some ⟨xb, p, none⟩)) rfl rfl (by kernel_rfl) (by kernel_rfl) (by kernel_rfl) (fun _ _ _ h => h) (Or.inl ⟨by kernel_rfl, fun w hw => by obtain h1 := hw; go_simp⟩) cb10 ?_
                  refine anyH_one (i := 12) (by kernel_rfl) rfl ?_
                  refine wpList_store_sl (A := a9) (n := n9) (c := c9) rfl rfl (.tmp 105) (.tmp 104) rfl xb p (by kernel_rfl) (by kernel_rfl) cx10 fz10 ?_
                  have cbE : (u10.setCell ⟨xb, p, none⟩ (.slice a9 n9 c9)).cell? ⟨wx.heap.size, 1, none⟩ = some (.slice ay q cpy) := (World.cell?_of_block (a := ⟨wx.heap.size, 1, none⟩) (Below.heap_setCell _ _ _ _ nbx)).trans cb10
                  refine And.intro cbE ?_
                  have HPE := Lib.hid PT.1
                  have HBE := Lib.hid ((B7.trans (q10.mono z7)).setCell (p := ⟨xb, p, none⟩) PT.2 (.slice a9 n9 c9))
                  have HTE : Hid (∀ U ∈ Ts.set p (T ++ L), U.length ≤ (Ls.take (j + 1)).flatten.length) := Lib.hid fun U hU => by
                    rw [TK.out]
                    rcases List.mem_or_eq_of_mem_set hU with h | h
                    · have := HTT.out U h
                      omega
                    · rw [h, List.length_append]
                      have := HTT.out T (List.mem_of_getElem? HI.out.2.2)
                      omega
                  refine wpAnyH_done (by kernel_rfl) ?_ _
                  try simp only [Act.put, List.setIfInBounds_toArray, List.set_cons_succ, List.set_cons_zero]
                  clear cb6 cx7 cb7 SY7 own7 g7 q7 q71 own10 g10 q10 cb10 cx10 lt10 SN P10 rt10 fz10 PT cbE hn9 cx1
                  go_wp2_with fail
                  go_roundw
                  case rel => exact ⟨j + 1, p, gs, vs.set p (.slice a9 n9 c9), Ts.set p (T ++ L), by omega, by go_num, rfl, by rw [HM.out]; omega, by rw [HM.out]; exact h6, HPE.out, HTE.out, HBE.out⟩
                  case measure => simp [intOf]; omega
                · have t00 := z7
                  go_wp2_with fail
                  refine ⟨cb6, ?_⟩
                  refine anyH_one (i := 2) (by kernel_rfl) rfl ?_
                  go_wp2_with fail
                  refine ⟨HQ1.out.2.2.2.1, ?_⟩
                  refine anyH_one (i := 7) (by kernel_rfl) rfl ?_
                  refine app_u8 (.tmp 96) (.tmp 100) rfl rfl w0.heap.size _ 0 [] (by kernel_rfl) HQ1.out.1 _ T (by kernel_rfl) HQ1.out.2.1 (by omega) HQ1.out.2.2.2.2.size ?_
                  intro v7 u7 own7 g7
                  have z1 := HQ1.out.2.2.2.2.size
                  have q7 : Below w0.heap.size w0 u7 := HQ1.out.2.2.2.2.grown g7 z1 (fun k hk => (HQ1.out.1.lt k hk).1)
                  have q71 : Below w0.heap.size (w0.alloc (.cells #[] 5 (0, 0))) u7 := (Below.refl _ _).grown g7 z1 (fun k hk => (HQ1.out.1.lt k hk).1)
                  have cb7 := (q7.cell (p := ⟨wx.heap.size, 1, none⟩) (World.block_lt_of_cell? _ _ cb6)).trans cb6
                  refine And.intro cb7 ?_
                  have SY7 : SliceOf u8c u7 (.slice ay q cpy) L := HS0.out.below (by rw [HZ.out]; exact B7.trans (q7.mono z7))
                  refine anyH_one (i := 10) (by kernel_rfl) rfl ?_
                  refine app_u8 (.tmp 101) (.tmp 103) rfl rfl w0.heap.size _ (0 + T.length) _ (by kernel_rfl) own7 _ L (by kernel_rfl) SY7 (by omega) q7.size ?_
                  intro v10 u10 own10 g10
                  have q10 : Below w0.heap.size w0 u10 := q7.grown g10 q7.size (fun k hk => (own7.lt k hk).1)
                  have cb10 := (q10.cell (p := ⟨wx.heap.size, 1, none⟩) (World.block_lt_of_cell? _ _ cb6)).trans cb6
                  have cx10 := (q10.cell (p := ⟨xb, p, none⟩) (World.block_lt_of_cell? _ _ cx7)).trans cx7
                  have lt10 := own10.lt
                  have SN : SliceOf u8c u10 v10 (T ++ L) := by
                    have e : 0 + T.length + L.length = (T ++ L).length := by simp
                    rw [e, List.nil_append, ← u8s_append] at own10
                    exact SliceOf.of_own own10 (u8s_eq _)
                  have P10 := HP7.out.below q10
                  have rt10 := P10.rt.1
                  rw [HPL.out] at rt10
                  have fz10 := rt10.frozenAt p
                  obtain ⟨a9, c9, rfl, _⟩ := id SN
                  obtain ⟨n9, hn9⟩ : ∃ n, (T ++ L).length = n := ⟨_, rfl⟩
                  rw [hn9] at SN lt10 ⊢
                  have PT := P10.text (j := p) (by rw [HM.out]; omega) SN (fun b e => ⟨(lt10 b e).2, fun e2 => by have := (lt10 b e).1; have := (HP7.out.rt.1.lt xb rfl).2; omega, fun e2 => by have := (lt10 b e).1; have := (HP7.out.rl.lt b e2).2; omega, fun hb => by obtain ⟨_, h1, _⟩ := HP7.out.at hb; have := (lt10 b e).1; have := h1.lt; omega⟩)
                  refine And.intro cb10 ?_
                  refine anyH_take (i := 11) (d := 105) (v := .pointer (some ⟨xb, p, none⟩)) rfl rfl (by kernel_rfl) (by kernel_rfl) (by kernel_rfl) (fun _ _ _ h => h) (Or.inl ⟨by kernel_rfl, fun w hw => by obtain h1 := hw; go_simp⟩) cb10 ?_
                  refine anyH_one (i := 12) (by kernel_rfl) rfl ?_
                  refine wpList_store_sl (A := a9) (n := n9) (c := c9) rfl rfl (.tmp 105) (.tmp 104) rfl xb p (by kernel_rfl) (by kernel_rfl) cx10 fz10 ?_
                  have cbE : (u10.setCell ⟨xb, p, none⟩ (.slice a9 n9 c9)).cell? ⟨wx.heap.size, 1, none⟩ = some (.slice ay q cpy) := (World.cell?_of_block (a := ⟨wx.heap.size, 1, none⟩) (Below.heap_setCell _ _ _ _ nbx)).trans cb10
                  refine And.intro cbE ?_
                  have HPE := Lib.hid PT.1
                  have HBE := Lib.hid ((B7.trans (q10.mono z7)).setCell (p := ⟨xb, p, none⟩) PT.2 (.slice a9 n9 c9))
                  have HTE : Hid (∀ U ∈ Ts.set p (T ++ L), U.length ≤ (Ls.take (j + 1)).flatten.length) := Lib.hid fun U hU => by
                    rw [TK.out]
                    rcases List.mem_or_eq_of_mem_set hU with h | h
                    · have := HTT.out U h
                      omega
                    · rw [h, List.length_append]
                      have := HTT.out T (List.mem_of_getElem? HI.out.2.2)
                      omega
                  refine wpAnyH_done (by kernel_rfl) ?_ _
                  try simp only [Act.put, List.setIfInBounds_toArray, List.set_cons_succ, List.set_cons_zero]
                  clear cb6 cx7 cb7 SY7 own7 g7 q7 q71 own10 g10 q10 cb10 cx10 lt10 SN P10 rt10 fz10 PT cbE hn9 cx1
                  go_wp2_with fail
                  go_roundw
                  case rel => exact ⟨j + 1, p, gs, vs.set p (.slice a9 n9 c9), Ts.set p (T ++ L), by omega, by go_num, rfl, by rw [HM.out]; omega, by rw [HM.out]; exact h6, HPE.out, HTE.out, HBE.out⟩
                  case measure => simp [intOf]; omega
          · by_cases h1 : tag = 1
            · subst h1
              obtain ⟨wB, hwB⟩ : ∃ u, wx.alloc (.cells #[.int .i64 1, .slice ay q cpy] 38 (0, 0)) = u := ⟨_, rfl⟩
              have HWB := Lib.hid hwB
              clear hwB
              have QB : Below wx.heap.size wx wB := by rw [← HWB.out]; exact HB.out
              have PB := HP.out.below QB
              have ZB : Z ≤ wB.heap.size := by have := QB.size; have := HZX.out.1; omega
              have BB := HQX.out.trans (QB.mono HZX.out.1)
              obtain ⟨ta, tc, rfl, _⟩ := (PB.rt.2.2 p t T HI.out.2.1 HI.out.2.2).1
              obtain ⟨tn, htn⟩ : ∃ u, T.length = u := ⟨_, rfl⟩
              have HTN := Lib.hid htn
              rw [htn] at HI HC
              have tn3 : tn ≤ 3000 := by have := HTT.out T (List.mem_of_getElem? HI.out.2.2); have := HLT.out; have := TK.out; have := HQ.out; omega
              have K0 : wB.drew.cell? ⟨lb, p, none⟩ = some (.pointer (some ⟨g, 0, none⟩)) ∧ wB.drew.cell? ⟨xb, p, none⟩ = some (.slice ta tn tc) ∧ Below wB.heap.size wB wB.drew := ⟨(QB.cell (p := ⟨lb, p, none⟩) HZX.out.2.1.2).trans HC.out.1, (QB.cell (p := ⟨xb, p, none⟩) HZX.out.2.2.2).trans HC.out.2, (Below.refl _ _).drew⟩
              have KK : ∀ {u u' : World}, (u.cell? ⟨lb, p, none⟩ = some (.pointer (some ⟨g, 0, none⟩)) ∧ u.cell? ⟨xb, p, none⟩ = some (.slice ta tn tc) ∧ Below wB.heap.size wB u) → Below u.heap.size u u' → u'.cell? ⟨lb, p, none⟩ = some (.pointer (some ⟨g, 0, none⟩)) ∧ u'.cell? ⟨xb, p, none⟩ = some (.slice ta tn tc) ∧ Below wB.heap.size wB u' := fun h q => ⟨(q.cell (p := ⟨lb, p, none⟩) (World.block_lt_of_cell? _ _ h.1)).trans h.1, (q.cell (p := ⟨xb, p, none⟩) (World.block_lt_of_cell? _ _ h.2.1)).trans h.2.1, h.2.2.trans (q.mono h.2.2.size)⟩
              obtain ⟨X, hX⟩ : ∃ X, sumN wd T = X := ⟨_, rfl⟩
              have XL := Lib.hid (show X.length = 32 by rw [← hX]; exact sum_len wd _)
              have HX := Lib.hid hX
              have EX := Lib.hid (fun (w : World) => by have := run_eql_h w XL.out XL.out; rwa [decide_eq_true rfl] at this : ∀ w, (Op.equalIn 10000 23 (.agg (cellsOf' u8c X)) (.agg (cellsOf' u8c X))).run Tryd.prog w = .ok true w)
              clear hX htn
              go_wp2_with fail
              rw [HWB.out]
              refine wp_region_held (S := fun w' => w'.cell? ⟨lb, p, none⟩ = some (.pointer (some ⟨g, 0, none⟩)) ∧ w'.cell? ⟨xb, p, none⟩ = some (.slice ta tn tc) ∧ Below wB.heap.size wB w') (by kernel_rfl) ?_
              change wpAnyH _ _ _ _ _ _ _ _ (World.drew _)
              refine anyH_take (i := 0) (d := 108) (v := (Value.slice (some ⟨lb, 0, none⟩) m lc)) rfl rfl (by kernel_rfl) (by kernel_rfl) (by kernel_rfl) (fun _ _ _ h => h) (Or.inl ⟨by kernel_rfl, fun w _ => by kernel_rfl⟩) K0 ?_
              refine anyH_take (i := 1) (d := 109) (v := .int .i64 (p : Int)) rfl rfl (by kernel_rfl) (by kernel_rfl) (by kernel_rfl) (fun _ _ _ h => h) (Or.inl ⟨by kernel_rfl, fun w _ => by kernel_rfl⟩) K0 ?_
              refine anyH_take (i := 2) (d := 110) (v := .pointer (some ⟨lb, p, none⟩)) rfl rfl (by kernel_rfl) (by kernel_rfl) (by kernel_rfl) (fun _ _ _ h => h) (Or.inl ⟨by kernel_rfl, fun w hw => by obtain ⟨h1, h2, h3⟩ := hw; go_simp⟩) K0 ?_
              refine anyH_take (i := 3) (d := 111) (v := .pointer (some ⟨g, 0, none⟩)) rfl rfl (by kernel_rfl) (by kernel_rfl) (by kernel_rfl) (fun _ _ _ h => h) (Or.inl ⟨by kernel_rfl, fun w hw => by obtain ⟨h1, h2, h3⟩ := hw; go_simp⟩) K0 ?_
              refine anyH_take (i := 5) (d := 113) (v := .int .i64 wd) rfl rfl (by kernel_rfl) (by kernel_rfl) (by kernel_rfl) (fun _ _ _ h => h) (Or.inl ⟨by kernel_rfl, fun w _ => by kernel_rfl⟩) K0 ?_
              refine anyH_take (i := 6) (d := 114) (v := (Value.slice (some ⟨xb, 0, none⟩) m xc)) rfl rfl (by kernel_rfl) (by kernel_rfl) (by kernel_rfl) (fun _ _ _ h => h) (Or.inl ⟨by kernel_rfl, fun w _ => by kernel_rfl⟩) K0 ?_
              refine anyH_take (i := 7) (d := 115) (v := .int .i64 (p : Int)) rfl rfl (by kernel_rfl) (by kernel_rfl) (by kernel_rfl) (fun _ _ _ h => h) (Or.inl ⟨by kernel_rfl, fun w _ => by kernel_rfl⟩) K0 ?_
              refine anyH_take (i := 8) (d := 116) (v := .pointer (some ⟨xb, p, none⟩)) rfl rfl (by kernel_rfl) (by kernel_rfl) (by kernel_rfl) (fun _ _ _ h => h) (Or.inl ⟨by kernel_rfl, fun w hw => by obtain ⟨h1, h2, h3⟩ := hw; go_simp⟩) K0 ?_
              refine anyH_take (i := 9) (d := 117) (v := (.slice ta tn tc)) rfl rfl (by kernel_rfl) (by kernel_rfl) (by kernel_rfl) (fun _ _ _ h => h) (Or.inl ⟨by kernel_rfl, fun w hw => by obtain ⟨h1, h2, h3⟩ := hw; go_simp⟩) K0 ?_
              refine anyH_call_build (i := 4) (j := 10) (d := 112) (e := 118) (X := .slice ta tn tc) (t := 29) (u := .agg (cellsOf' u8c X)) (f := 22) (args := #[.pointer (some ⟨g, 0, none⟩)]) (by kernel_rfl) (by kernel_rfl) (by kernel_rfl) rfl rfl rfl rfl (by decide) (by decide) (by kernel_rfl) (by kernel_rfl) (fun v => by kernel_rfl) (by kernel_rfl) (fun w1 q1 => ?_) (fun w1 => by kernel_rfl) (fun v w1 => by kernel_rfl) (fun w1 => run_build_bs (.tmp 117) rfl (by kernel_rfl) w1) (fun w1 => run_build_bs (.tmp 117) rfl (by kernel_rfl) w1) (fun w1 q1 => KK K0 q1) ?_
              · have C := HSum_any ((PB.below (KK K0 q1).2.2).hs p g T HI.out.1 HI.out.2.2).1 (HD.out.low hb1 (BB.trans ((KK K0 q1).2.2.mono ZB))) (by have := HTN.out; omega)
                rw [HX.out] at C
                exact C
              intro pp1 u1_ zp1 np1 qp1
              have T1 := KK K0 qp1
              have C1 := refSum_any (wd := wd) (one_in np1 ((PB.below T1.2.2).rt.2.2 p _ T HI.out.2.1 HI.out.2.2).1) (fun L hL => by rw [List.mem_singleton] at hL; rw [hL]; exact ((PB.hs p g T HI.out.1 HI.out.2.2).1).1) (by have := HTN.out; simp; omega) (by show 1 ≤ 4611686018427387904; decide)
              rw [show [T].flatten = T by simp, HX.out] at C1
              refine anyH_enter1 (i := 11) (d := 119) (by kernel_rfl) rfl rfl (by kernel_rfl) (C1) (by kernel_rfl) ?_
              intro y1_ pq1
              have T2 := KK T1 pq1
              refine ⟨T2, ?_⟩
              refine anyH_take (i := 12) (d := 120) (v := .bool false) rfl rfl (by kernel_rfl) (by kernel_rfl) (by kernel_rfl) (fun _ _ _ h => h) (yields_neA (p := true) (by kernel_rfl) rfl (X := cellsOf' u8c X) (Y := cellsOf' u8c X) (by kernel_rfl) (by kernel_rfl) guard_h EX.out) T2 ?_
              refine wpAnyH_done (by kernel_rfl) ?_ _
              try simp only [Act.put, List.setIfInBounds_toArray, List.set_cons_succ, List.set_cons_zero]
              have HPE := Lib.hid (PB.below T2.2.2)
              have HBE := Lib.hid (BB.trans (T2.2.2.mono ZB))
              clear K0 KK T1 T2 C1 np1 zp1 qp1 pq1 PB BB EX
              go_wp2_with fail
              go_roundw
              case rel => exact ⟨j + 1, p, gs, vs, Ts, by omega, by go_num, rfl, by rw [HM.out]; omega, by rw [HM.out]; exact h6, HPE.out, (fun T hT => Nat.le_trans (HTT.out T hT) (by rw [TK.out]; omega)), HBE.out⟩
              case measure => simp [intOf]; omega
            · by_cases h2 : tag = 2
              · subst h2
                obtain ⟨wB, hwB⟩ : ∃ u, wx.alloc (.cells #[.int .i64 2, .slice ay q cpy] 38 (0, 0)) = u := ⟨_, rfl⟩
                have HWB := Lib.hid hwB
                clear hwB
                have QB : Below wx.heap.size wx wB := by rw [← HWB.out]; exact HB.out
                have PB := HP.out.below QB
                have ZB : Z ≤ wB.heap.size := by have := QB.size; have := HZX.out.1; omega
                have BB := HQX.out.trans (QB.mono HZX.out.1)
                obtain ⟨ta, tc, rfl, _⟩ := (PB.rt.2.2 p t T HI.out.2.1 HI.out.2.2).1
                obtain ⟨tn, htn⟩ : ∃ u, T.length = u := ⟨_, rfl⟩
                have HTN := Lib.hid htn
                rw [htn] at HI HC
                have tn3 : tn ≤ 3000 := by have := HTT.out T (List.mem_of_getElem? HI.out.2.2); have := HLT.out; have := TK.out; have := HQ.out; omega
                have K0 : wB.drew.cell? ⟨lb, p, none⟩ = some (.pointer (some ⟨g, 0, none⟩)) ∧ wB.drew.cell? ⟨xb, p, none⟩ = some (.slice ta tn tc) ∧ Below wB.heap.size wB wB.drew := ⟨(QB.cell (p := ⟨lb, p, none⟩) HZX.out.2.1.2).trans HC.out.1, (QB.cell (p := ⟨xb, p, none⟩) HZX.out.2.2.2).trans HC.out.2, (Below.refl _ _).drew⟩
                have KK : ∀ {u u' : World}, (u.cell? ⟨lb, p, none⟩ = some (.pointer (some ⟨g, 0, none⟩)) ∧ u.cell? ⟨xb, p, none⟩ = some (.slice ta tn tc) ∧ Below wB.heap.size wB u) → Below u.heap.size u u' → u'.cell? ⟨lb, p, none⟩ = some (.pointer (some ⟨g, 0, none⟩)) ∧ u'.cell? ⟨xb, p, none⟩ = some (.slice ta tn tc) ∧ Below wB.heap.size wB u' := fun h q => ⟨(q.cell (p := ⟨lb, p, none⟩) (World.block_lt_of_cell? _ _ h.1)).trans h.1, (q.cell (p := ⟨xb, p, none⟩) (World.block_lt_of_cell? _ _ h.2.1)).trans h.2.1, h.2.2.trans (q.mono h.2.2.size)⟩
                clear htn
                have ti : (tn : Int) ≤ 3000 := by omega
                have TWR := Lib.hid (show IntKind.u64.wrap (tn : Int) = (tn : Int) by simp [IntKind.wrap, IntKind.bits, IntKind.signed]; omega)
                go_wp2_with fail
                rw [HWB.out]
                refine wp_region_held (S := fun w' => w'.cell? ⟨lb, p, none⟩ = some (.pointer (some ⟨g, 0, none⟩)) ∧ w'.cell? ⟨xb, p, none⟩ = some (.slice ta tn tc) ∧ Below wB.heap.size wB w') (by kernel_rfl) ?_
                change wpAnyH _ _ _ _ _ _ _ _ (World.drew _)
                refine anyH_take (i := 0) (d := 123) (v := (Value.slice (some ⟨lb, 0, none⟩) m lc)) rfl rfl (by kernel_rfl) (by kernel_rfl) (by kernel_rfl) (fun _ _ _ h => h) (Or.inl ⟨by kernel_rfl, fun w _ => by kernel_rfl⟩) K0 ?_
                refine anyH_take (i := 1) (d := 124) (v := .int .i64 (p : Int)) rfl rfl (by kernel_rfl) (by kernel_rfl) (by kernel_rfl) (fun _ _ _ h => h) (Or.inl ⟨by kernel_rfl, fun w _ => by kernel_rfl⟩) K0 ?_
                refine anyH_take (i := 2) (d := 125) (v := .pointer (some ⟨lb, p, none⟩)) rfl rfl (by kernel_rfl) (by kernel_rfl) (by kernel_rfl) (fun _ _ _ h => h) (Or.inl ⟨by kernel_rfl, fun w hw => by obtain ⟨h1, h2, h3⟩ := hw; go_simp⟩) K0 ?_
                refine anyH_take (i := 3) (d := 126) (v := .pointer (some ⟨g, 0, none⟩)) rfl rfl (by kernel_rfl) (by kernel_rfl) (by kernel_rfl) (fun _ _ _ h => h) (Or.inl ⟨by kernel_rfl, fun w hw => by obtain ⟨h1, h2, h3⟩ := hw; go_simp⟩) K0 ?_
                refine anyH_take (i := 5) (d := 128) (v := (Value.slice (some ⟨xb, 0, none⟩) m xc)) rfl rfl (by kernel_rfl) (by kernel_rfl) (by kernel_rfl) (fun _ _ _ h => h) (Or.inl ⟨by kernel_rfl, fun w _ => by kernel_rfl⟩) K0 ?_
                refine anyH_take (i := 6) (d := 129) (v := .int .i64 (p : Int)) rfl rfl (by kernel_rfl) (by kernel_rfl) (by kernel_rfl) (fun _ _ _ h => h) (Or.inl ⟨by kernel_rfl, fun w _ => by kernel_rfl⟩) K0 ?_
                refine anyH_take (i := 7) (d := 130) (v := .pointer (some ⟨xb, p, none⟩)) rfl rfl (by kernel_rfl) (by kernel_rfl) (by kernel_rfl) (fun _ _ _ h => h) (Or.inl ⟨by kernel_rfl, fun w hw => by obtain ⟨h1, h2, h3⟩ := hw; go_simp⟩) K0 ?_
                refine anyH_take (i := 8) (d := 131) (v := (.slice ta tn tc)) rfl rfl (by kernel_rfl) (by kernel_rfl) (by kernel_rfl) (fun _ _ _ h => h) (Or.inl ⟨by kernel_rfl, fun w hw => by obtain ⟨h1, h2, h3⟩ := hw; go_simp⟩) K0 ?_
                refine anyH_take (i := 9) (d := 132) (v := .int .i64 (tn : Int)) rfl rfl (by kernel_rfl) (by kernel_rfl) (by kernel_rfl) (fun _ _ _ h => h) (Or.inl ⟨by kernel_rfl, fun w _ => by kernel_rfl⟩) K0 ?_
                refine anyH_take (i := 10) (d := 133) (v := .int .u64 (tn : Int)) rfl rfl (by kernel_rfl) (by kernel_rfl) (by kernel_rfl) (fun _ _ _ h => h) (Or.inl ⟨by kernel_rfl, fun w hw => by have := TWR.out; go_simp⟩) K0 ?_
                have C1 := Len_any ((PB.below K0.2.2).hs p g T HI.out.1 HI.out.2.2).1
                rw [HTN.out] at C1
                refine anyH_enter1 (i := 4) (d := 127) (by kernel_rfl) rfl rfl (by kernel_rfl) C1 (by kernel_rfl) ?_
                rintro _ rfl
                refine ⟨K0, ?_⟩
                refine anyH_take (i := 11) (d := 134) (v := .bool false) rfl rfl (by kernel_rfl) (by kernel_rfl) (by kernel_rfl) (fun _ _ _ h => h) (Or.inl ⟨by kernel_rfl, fun w hw => by go_simp⟩) K0 ?_
                refine wpAnyH_done (by kernel_rfl) ?_ _
                try simp only [Act.put, List.setIfInBounds_toArray, List.set_cons_succ, List.set_cons_zero]
                have HPE := Lib.hid (PB.below K0.2.2)
                have HBE := Lib.hid (BB.trans (K0.2.2.mono ZB))
                clear K0 KK C1 PB BB
                go_wp2_with fail
                go_roundw
                case rel => exact ⟨j + 1, p, gs, vs, Ts, by omega, by go_num, rfl, by rw [HM.out]; omega, by rw [HM.out]; exact h6, HPE.out, (fun T hT => Nat.le_trans (HTT.out T hT) (by rw [TK.out]; omega)), HBE.out⟩
                case measure => simp [intOf]; omega
              · by_cases h3 : tag = 3
                · subst h3
                  obtain ⟨wB, hwB⟩ : ∃ u, wx.alloc (.cells #[.int .i64 3, .slice ay q cpy] 38 (0, 0)) = u := ⟨_, rfl⟩
                  have HWB := Lib.hid hwB
                  clear hwB
                  by_cases hm5 : 5 < m
                  · have hmi : (5 : Int) < (m : Int) := by omega
                    go_wp2_with fail
                    go_roundw
                    case rel => exact ⟨j + 1, p, gs, vs, Ts, by omega, by go_num, rfl, by rw [HM.out]; omega, by rw [HM.out]; exact h6, HP.out.below HB.out, (fun T hT => Nat.le_trans (HTT.out T hT) (by rw [TK.out]; omega)), HQX.out.trans (HB.out.mono HZX.out.1)⟩
                    case measure => simp [intOf]; omega
                  · have hmi : ¬ (5 : Int) < (m : Int) := by omega
                    have QB : Below wx.heap.size wx wB := by rw [← HWB.out]; exact HB.out
                    have PB := HP.out.below QB
                    have ZB : Z ≤ wB.heap.size := by have := QB.size; have := HZX.out.1; omega
                    have BB := HQX.out.trans (QB.mono HZX.out.1)
                    obtain ⟨ta, tc, rfl, _⟩ := (PB.rt.2.2 p t T HI.out.2.1 HI.out.2.2).1
                    obtain ⟨tn, htn⟩ : ∃ u, T.length = u := ⟨_, rfl⟩
                    have HTN := Lib.hid htn
                    rw [htn] at HI HC
                    have tn3 : tn ≤ 3000 := by have := HTT.out T (List.mem_of_getElem? HI.out.2.2); have := HLT.out; have := TK.out; have := HQ.out; omega
                    have K0 : wB.drew.cell? ⟨lb, p, none⟩ = some (.pointer (some ⟨g, 0, none⟩)) ∧ wB.drew.cell? ⟨xb, p, none⟩ = some (.slice ta tn tc) ∧ Below wB.heap.size wB wB.drew := ⟨(QB.cell (p := ⟨lb, p, none⟩) HZX.out.2.1.2).trans HC.out.1, (QB.cell (p := ⟨xb, p, none⟩) HZX.out.2.2.2).trans HC.out.2, (Below.refl _ _).drew⟩
                    have KK : ∀ {u u' : World}, (u.cell? ⟨lb, p, none⟩ = some (.pointer (some ⟨g, 0, none⟩)) ∧ u.cell? ⟨xb, p, none⟩ = some (.slice ta tn tc) ∧ Below wB.heap.size wB u) → Below u.heap.size u u' → u'.cell? ⟨lb, p, none⟩ = some (.pointer (some ⟨g, 0, none⟩)) ∧ u'.cell? ⟨xb, p, none⟩ = some (.slice ta tn tc) ∧ Below wB.heap.size wB u' := fun h q => ⟨(q.cell (p := ⟨lb, p, none⟩) (World.block_lt_of_cell? _ _ h.1)).trans h.1, (q.cell (p := ⟨xb, p, none⟩) (World.block_lt_of_cell? _ _ h.2.1)).trans h.2.1, h.2.2.trans (q.mono h.2.2.size)⟩
                    clear htn K0 KK
                    have CL := Lib.hid (Clone_any ((PB.hs p g T HI.out.1 HI.out.2.2).1))
                    have CGB : (wx.alloc (.cells #[.int .i64 3, .slice ay q cpy] 38 (0, 0))).cell? ⟨lb, p, none⟩ = some (.pointer (some ⟨g, 0, none⟩)) := (HB.out.cell (p := ⟨lb, p, none⟩) HZX.out.2.1.2).trans HC.out.1
                    go_wp2_with fail
                    rw [HWB.out]
                    refine CL.out.mono ?_
                    rintro e w2 ⟨rfl, hc2, q2⟩
                    have P2 := PB.below q2
                    have B2 := BB.trans (q2.mono ZB)
                    have l2 := hc2.lt
                    have K2 : w2.drew.cell? ⟨xb, p, none⟩ = some (.slice ta tn tc) := (q2.cell (p := ⟨xb, p, none⟩) (Nat.lt_of_lt_of_le HZX.out.2.2.2 QB.size)).trans ((QB.cell (p := ⟨xb, p, none⟩) HZX.out.2.2.2).trans HC.out.2)
                    have cb0 : wB.cell? ⟨wx.heap.size, 1, none⟩ = some (.slice ay q cpy) := by rw [← HWB.out]; rw [cell_of_row _ _ _ _ _ _ (heap_alloc_new _ _)]; rfl
                    have cb2 : w2.drew.cell? ⟨wx.heap.size, 1, none⟩ = some (.slice ay q cpy) := (q2.cell (p := ⟨wx.heap.size, 1, none⟩) (World.block_lt_of_cell? _ _ cb0)).trans cb0
                    have fr : wB.heap.size ∉ gs ∧ (Value.slice (some ⟨lb, 0, none⟩) m lc).ownBlock ≠ some wB.heap.size ∧ (Value.slice (some ⟨xb, 0, none⟩) m xc).ownBlock ≠ some wB.heap.size ∧ ∀ v ∈ vs, v.ownBlock ≠ some wB.heap.size := ⟨fun h => by obtain ⟨_, h1, _⟩ := PB.at h; have := h1.lt; omega, fun e => by have := (PB.rl.lt _ e).2; omega, fun e => by have := (PB.rt.1.lt _ e).2; omega, fun v hv e => by have := (PB.rt.mem hv _ e).1; omega⟩
                    have HFR := Lib.hid fr
                    have HCB := Lib.hid cb2
                    have HPB := Lib.hid ZB
                    have HC2 := Lib.hid (show HashAt w2.drew wB.heap.size wd T from hc2.of_heap rfl)
                    have P3 := Lib.hid (P2.below (Below.refl _ _).drew)
                    have B3 := Lib.hid (B2.drew)
                    have QBS := Lib.hid (And.intro QB.size q2.size)
                    clear CL hc2 q2 P2 B2 PB BB QB cb0 cb2 fr CGB
                    go_wp2_with fail
                    refine wp_region_held (S := fun w' => w'.cell? ⟨xb, p, none⟩ = some (.slice ta tn tc)) (by kernel_rfl) ?_
                    change wpAnyH _ _ _ _ _ _ _ _ (World.drew _)
                    obtain ⟨w0, hw0⟩ : ∃ u, w2.drew = u := ⟨_, rfl⟩
                    rw [hw0] at K2 HCB HC2 P3 B3 ⊢
                    have l0 : wB.heap.size < w0.heap.size := by rw [← hw0]; exact l2
                    clear hw0 l2
                    obtain ⟨c, hcc⟩ : ∃ c, wB.heap.size = c := ⟨_, rfl⟩
                    rw [hcc] at HC2 HFR l0 ⊢
                    have t : Tch (Value.slice (some ⟨lb, 0, none⟩) m lc).ownBlock (Value.slice (some ⟨xb, 0, none⟩) m xc).ownBlock w0 w0 := Tch.refl
                    have own : w0.ownsRow Z 39 1 (.slice (some ⟨lb, 0, none⟩) m lc) m (gs.map ptr) := by have := P3.out.rl; rw [HM.out] at this; exact this
                    have RT := P3.out.rt
                    have lx : lb ≠ xb := fun e => (P3.out.lx lb rfl).1 (by rw [e]; rfl)
                    have lbl := (P3.out.rl.lt lb rfl)
                    have xbl := (P3.out.rt.1.lt xb rfl)
                    have vl : ∀ v ∈ vs, ∀ b, v.ownBlock = some b → (Value.slice (some ⟨lb, 0, none⟩) m lc).ownBlock ≠ some b := fun v hv b e e2 => (P3.out.lx b e2).2 v hv e
                    have z0 : Z ≤ w0.heap.size := by omega
                    refine anyH_take (i := 0) (d := 147) (v := (Value.slice (some ⟨lb, 0, none⟩) m lc)) rfl rfl (by kernel_rfl) (by kernel_rfl) (by kernel_rfl) (fun _ _ _ h => h) (Or.inl ⟨by kernel_rfl, fun w _ => by kernel_rfl⟩) K2 ?_
                    refine anyH_take (i := 1) (d := 148) (v := .pointer (some ⟨c, 0, none⟩)) rfl rfl (by kernel_rfl) (by kernel_rfl) (by kernel_rfl) (fun _ _ _ h => h) (Or.inl ⟨by kernel_rfl, fun w _ => by kernel_rfl⟩) K2 ?_
                    refine anyH_take (i := 4) (d := 151) (v := (Value.slice (some ⟨xb, 0, none⟩) m xc)) rfl rfl (by kernel_rfl) (by kernel_rfl) (by kernel_rfl) (fun _ _ _ h => h) (Or.inl ⟨by kernel_rfl, fun w _ => by kernel_rfl⟩) K2 ?_
                    refine anyH_take (i := 5) (d := 152) (v := (Value.slice (some ⟨xb, 0, none⟩) m xc)) rfl rfl (by kernel_rfl) (by kernel_rfl) (by kernel_rfl) (fun _ _ _ h => h) (Or.inl ⟨by kernel_rfl, fun w _ => by kernel_rfl⟩) K2 ?_
                    refine anyH_take (i := 6) (d := 153) (v := .int .i64 (p : Int)) rfl rfl (by kernel_rfl) (by kernel_rfl) (by kernel_rfl) (fun _ _ _ h => h) (Or.inl ⟨by kernel_rfl, fun w _ => by kernel_rfl⟩) K2 ?_
                    refine anyH_take (i := 7) (d := 154) (v := .pointer (some ⟨xb, p, none⟩)) rfl rfl (by kernel_rfl) (by kernel_rfl) (by kernel_rfl) (fun _ _ _ h => h) (Or.inl ⟨by kernel_rfl, fun w hw => by obtain h1 := hw; go_simp⟩) K2 ?_
                    refine anyH_take (i := 8) (d := 155) (v := (.slice ta tn tc)) rfl rfl (by kernel_rfl) (by kernel_rfl) (by kernel_rfl) (fun _ _ _ h => h) (Or.inl ⟨by kernel_rfl, fun w hw => by obtain h1 := hw; go_simp⟩) K2 ?_
                    have t0_w0 : w0.heap.size ≤ w0.heap.size := Nat.le_refl _
                    refine anyH_two (i := 2) (j := 9) (by kernel_rfl) rfl rfl ?_ ?_
                    · have t00 := t0_w0
                      go_wp2_with fail
                      generalize hwz1 : World.alloc _ _ = wz1
                      have qwz1 : Below w0.heap.size w0 wz1 := by rw [← hwz1]; exact (Below.refl _ _).alloc (Nat.le_refl _) _
                      replace t := t.below qwz1
                      replace own := own_below own qwz1
                      replace RT := RT.below qwz1
                      replace K2 := (qwz1.cell (p := ⟨xb, p, none⟩) (World.block_lt_of_cell? _ _ K2)).trans K2
                      have n2 : wz1.heap[w0.heap.size]? = some (.cells #[ptr c] 39 (0, 0)) := by rw [← hwz1, heap_alloc_new]; try rfl
                      have t0_wz1 : w0.heap.size ≤ wz1.heap.size := t.size
                      clear hwz1 qwz1
                      refine ⟨K2, ?_⟩
                      refine anyH_two (i := 3) (j := 9) (by kernel_rfl) rfl rfl ?_ ?_
                      · have t00 := t0_wz1
                        refine app_ptr (.tmp 147) (.tmp 149) rfl rfl (by kernel_rfl) own (by kernel_rfl) n2 (Nat.le_trans z0 t.size) (by omega) ?_
                        intro l' wz2 own' g3 or3
                        have HL' : ∀ b, l'.ownBlock = some b → (Value.slice (some ⟨lb, 0, none⟩) m lc).ownBlock = some b ∨ w0.heap.size ≤ b := fun b e => by rcases or3 with h | h <;> rw [h] at e; exact .inl e; exact .inr (by have := Option.some.inj e; have := t.size; omega)
                        replace t := t.grow1 g3
                        replace RT := RT.grownB g3 (fun b e e2 => (P3.out.lx b e2).1 e) vl
                        replace K2 := (World.cell?_of_block (a := ⟨xb, p, none⟩) (g3.block xb (World.block_lt_of_cell? _ _ K2) (fun e => lx (Option.some.inj e).symm))).trans K2
                        have t0_wz2 : w0.heap.size ≤ wz2.heap.size := t.size
                        clear g3 or3 n2 own
                        have own := own'
                        clear own'
                        refine And.intro K2 ?_
                        refine anyH_one (i := 9) (by kernel_rfl) rfl ?_
                        go_wp2_with fail
                        generalize hwz3 : World.alloc _ _ = wz3
                        have qwz3 : Below wz2.heap.size wz2 wz3 := by rw [← hwz3]; exact (Below.refl _ _).alloc (Nat.le_refl _) _
                        replace t := t.below qwz3
                        replace own := own_below own qwz3
                        replace RT := RT.below qwz3
                        replace K2 := (qwz3.cell (p := ⟨xb, p, none⟩) (World.block_lt_of_cell? _ _ K2)).trans K2
                        have n9 : wz3.heap[wz2.heap.size]? = some (.cells #[.slice ta tn tc] 29 (0, 0)) := by rw [← hwz3, heap_alloc_new]; try rfl
                        have lq : w0.heap.size ≤ wz2.heap.size := by have := t0_wz2; omega
                        have t0_wz3 : w0.heap.size ≤ wz3.heap.size := t.size
                        clear hwz3 qwz3
                        refine ⟨K2, ?_⟩
                        refine anyH_one (i := 10) (by kernel_rfl) rfl ?_
                        refine app_rows4 (.tmp 151) (.tmp 156) rfl rfl (by kernel_rfl) RT _ _ T (by kernel_rfl) n9 rfl (((P3.out.rt.2.2 p _ T HI.out.2.1 HI.out.2.2).1).keepB (fun b e => t.block b ((P3.out.rt.2.2 p _ T HI.out.2.1 HI.out.2.2).2 b e).1 (vl _ (List.mem_of_getElem? HI.out.2.1) b e) ((P3.out.rt.2.2 p _ T HI.out.2.1 HI.out.2.2).2 b e).2)) (fun b e => ⟨Nat.lt_of_lt_of_le ((P3.out.rt.2.2 p _ T HI.out.2.1 HI.out.2.2).2 b e).1 t.size, ((P3.out.rt.2.2 p _ T HI.out.2.1 HI.out.2.2).2 b e).2⟩) (Nat.le_trans z0 t.size) (by have := HPL.out; omega) ?_
                        intro x' wF RF g4 q4 or4
                        have HX' : ∀ b, x'.ownBlock = some b → (Value.slice (some ⟨xb, 0, none⟩) m xc).ownBlock = some b ∨ w0.heap.size ≤ b := fun b e => by rcases or4 with h | ⟨h, _⟩ <;> rw [h] at e; exact .inl e; exact .inr (by have := Option.some.inj e; have := t.size; omega)
                        have HLX : ∀ b, l'.ownBlock = some b → x'.ownBlock ≠ some b := fun b e e2 => by
                          have h1 := (own.lt b e).2
                          rcases or4 with h | ⟨h, _⟩ <;> rw [h] at e2
                          · have e3 : xb = b := Option.some.inj e2
                            rcases HL' b e with h2 | h2
                            · have e4 : lb = b := Option.some.inj h2
                              omega
                            · have := xbl.2
                              omega
                          · have := Option.some.inj e2
                            omega
                        have xl' : ∀ b, l'.ownBlock = some b → some b ≠ (Value.slice (some ⟨xb, 0, none⟩) m xc).ownBlock := fun b e e2 => by
                          have e3 : b = xb := Option.some.inj e2
                          rcases HL' b e with h2 | h2
                          · have e4 : lb = b := Option.some.inj h2
                            omega
                          · have := xbl.2
                            omega
                        have ownF := ownsRow_keep own fun b e => g4.block b (own.lt b e).2 (xl' b e)
                        have KF : wF.cell? ⟨xb, p, none⟩ = some (.slice ta tn tc) := by
                          rcases or4 with h | ⟨_, h⟩
                          · obtain ⟨xa, xd, rfl, _⟩ := RF.at.1.form
                            obtain ⟨b', eb, cF⟩ := RF.base2 (j := p) (x := .slice ta tn tc) (by rw [List.getElem?_append_left (List.getElem?_eq_some_iff.1 HI.out.2.1).1]; exact HI.out.2.1)
                            have e5 : b' = xb := by rw [eb] at h; exact Option.some.inj h
                            rw [← e5]
                            exact cF
                          · exact (h.cell (p := ⟨xb, p, none⟩) (World.block_lt_of_cell? _ _ K2)).trans K2
                        replace t := t.grow2 g4
                        have PF := P3.out.clone t HC2.out (by have := HZX.out.1; have := QBS.out; omega) HFR.out (by rw [HM.out]; exact ownF) RF (List.mem_of_getElem? HI.out.2.1) HL' HX' HLX
                        have cF : wF.cell? ⟨wx.heap.size, 1, none⟩ = some (.slice ay q cpy) := t.cell HCB.out (fun e => by have e3 : lb = wx.heap.size := Option.some.inj e; have := HZX.out.2.1.2; omega) (fun e => by have e3 : xb = wx.heap.size := Option.some.inj e; have := HZX.out.2.2.2; omega)
                        have BF : Below Z w wF := B3.out.trans ⟨t.os, t.tape, t.output, t.size, fun b hb => t.block b (by omega) (fun e => by have e3 : lb = b := Option.some.inj e; have := lbl.1; omega) (fun e => by have e3 : xb = b := Option.some.inj e; have := xbl.1; omega)⟩
                        have HPF := Lib.hid PF
                        have HBF := Lib.hid BF
                        refine And.intro KF ?_
                        obtain ⟨lb', lc', rfl, _⟩ := own_form3 ownF (by omega)
                        obtain ⟨xb', xc', rfl, _⟩ := own_form3 RF.1 (by simp)
                        have hl9 : (vs ++ [Value.slice ta tn tc]).length = m + 1 := by rw [List.length_append, HPL.out]; rfl
                        rw [hl9] at HPF ⊢
                        have h7 : (gs ++ [c]).length = m + 1 := by rw [List.length_append, HM.out]; rfl
                        have HH7 := Lib.hid h7
                        clear hl9 h7 PF BF t own ownF RF g4 q4 or4 HX' HLX xl' HL' RT K2 n9 vl lq
                        refine anyH_take (i := 11) (d := 7) (v := (.slice (some ⟨lb', 0, none⟩) (m + 1 : Nat) lc')) rfl rfl (by kernel_rfl) (by kernel_rfl) (by kernel_rfl) (fun _ _ _ h => h) (Or.inl ⟨by kernel_rfl, fun w _ => by kernel_rfl⟩) KF ?_
                        refine anyH_take (i := 12) (d := 8) (v := (.slice (some ⟨xb', 0, none⟩) (m + 1 : Nat) xc')) rfl rfl (by kernel_rfl) (by kernel_rfl) (by kernel_rfl) (fun _ _ _ h => h) (Or.inl ⟨by kernel_rfl, fun w _ => by kernel_rfl⟩) KF ?_
                        refine wpAnyH_done (by kernel_rfl) ?_ _
                        try simp only [Act.put, List.setIfInBounds_toArray, List.set_cons_succ, List.set_cons_zero]
                        clear KF
                        have HTF : Hid (∀ U ∈ Ts ++ [T], U.length ≤ (Ls.take (j + 1)).flatten.length) := Lib.hid fun U hU => by
                          rw [TK.out]
                          rcases List.mem_append.1 hU with h | h
                          · have := HTT.out U h
                            omega
                          · rw [List.mem_singleton] at h
                            rw [h]
                            have := HTT.out T (List.mem_of_getElem? HI.out.2.2)
                            omega
                        by_cases hodd : (q : Int) % 2 = 1
                        · have eo : ((q : Int) % 2 == 1) = true := by simp [hodd]
                          go_wp2_with fail
                          go_roundw
                          case rel => exact ⟨j + 1, m, gs ++ [c], vs ++ [.slice ta tn tc], Ts ++ [T], by omega, by go_num, by go_num, by rw [HH7.out]; omega, by rw [HH7.out]; omega, HPF.out, HTF.out, HBF.out⟩
                          case measure => simp [intOf]; omega
                        · have eo : ((q : Int) % 2 == 1) = false := by simp [hodd]
                          go_wp2_with fail
                          go_roundw
                          case rel => exact ⟨j + 1, p, gs ++ [c], vs ++ [.slice ta tn tc], Ts ++ [T], by omega, by go_num, rfl, by rw [HH7.out]; omega, by rw [HH7.out]; omega, HPF.out, HTF.out, HBF.out⟩
                          case measure => simp [intOf]; omega
                      · have t00 := t0_wz1
                        go_wp2_with fail
                        generalize hwz4 : World.alloc _ _ = wz4
                        have qwz4 : Below wz1.heap.size wz1 wz4 := by rw [← hwz4]; exact (Below.refl _ _).alloc (Nat.le_refl _) _
                        replace t := t.below qwz4
                        replace own := own_below own qwz4
                        replace RT := RT.below qwz4
                        replace K2 := (qwz4.cell (p := ⟨xb, p, none⟩) (World.block_lt_of_cell? _ _ K2)).trans K2
                        replace n2 := (qwz4.block _ (lt_of_heap n2)).trans n2
                        have n9 : wz4.heap[wz1.heap.size]? = some (.cells #[.slice ta tn tc] 29 (0, 0)) := by rw [← hwz4, heap_alloc_new]; try rfl
                        have lq : w0.heap.size ≤ wz1.heap.size := by have := t0_wz1; omega
                        have t0_wz4 : w0.heap.size ≤ wz4.heap.size := t.size
                        clear hwz4 qwz4
                        refine ⟨K2, ?_⟩
                        refine anyH_one (i := 3) (by kernel_rfl) rfl ?_
                        refine app_ptr (.tmp 147) (.tmp 149) rfl rfl (by kernel_rfl) own (by kernel_rfl) n2 (Nat.le_trans z0 t.size) (by omega) ?_
                        intro l' wz5 own' g3 or3
                        have HL' : ∀ b, l'.ownBlock = some b → (Value.slice (some ⟨lb, 0, none⟩) m lc).ownBlock = some b ∨ w0.heap.size ≤ b := fun b e => by rcases or3 with h | h <;> rw [h] at e; exact .inl e; exact .inr (by have := Option.some.inj e; have := t.size; omega)
                        replace t := t.grow1 g3
                        replace RT := RT.grownB g3 (fun b e e2 => (P3.out.lx b e2).1 e) vl
                        replace K2 := (World.cell?_of_block (a := ⟨xb, p, none⟩) (g3.block xb (World.block_lt_of_cell? _ _ K2) (fun e => lx (Option.some.inj e).symm))).trans K2
                        replace n9 := (g3.block _ (lt_of_heap n9) (fun e => by have : wz1.heap.size = lb := Option.some.inj e; have := lbl.2; omega)).trans n9
                        have t0_wz5 : w0.heap.size ≤ wz5.heap.size := t.size
                        clear g3 or3 n2 own
                        have own := own'
                        clear own'
                        refine And.intro K2 ?_
                        refine anyH_one (i := 10) (by kernel_rfl) rfl ?_
                        refine app_rows4 (.tmp 151) (.tmp 156) rfl rfl (by kernel_rfl) RT _ _ T (by kernel_rfl) n9 rfl (((P3.out.rt.2.2 p _ T HI.out.2.1 HI.out.2.2).1).keepB (fun b e => t.block b ((P3.out.rt.2.2 p _ T HI.out.2.1 HI.out.2.2).2 b e).1 (vl _ (List.mem_of_getElem? HI.out.2.1) b e) ((P3.out.rt.2.2 p _ T HI.out.2.1 HI.out.2.2).2 b e).2)) (fun b e => ⟨Nat.lt_of_lt_of_le ((P3.out.rt.2.2 p _ T HI.out.2.1 HI.out.2.2).2 b e).1 t.size, ((P3.out.rt.2.2 p _ T HI.out.2.1 HI.out.2.2).2 b e).2⟩) (Nat.le_trans z0 t.size) (by have := HPL.out; omega) ?_
                        intro x' wF RF g4 q4 or4
                        have HX' : ∀ b, x'.ownBlock = some b → (Value.slice (some ⟨xb, 0, none⟩) m xc).ownBlock = some b ∨ w0.heap.size ≤ b := fun b e => by rcases or4 with h | ⟨h, _⟩ <;> rw [h] at e; exact .inl e; exact .inr (by have := Option.some.inj e; have := t.size; omega)
                        have HLX : ∀ b, l'.ownBlock = some b → x'.ownBlock ≠ some b := fun b e e2 => by
                          have h1 := (own.lt b e).2
                          rcases or4 with h | ⟨h, _⟩ <;> rw [h] at e2
                          · have e3 : xb = b := Option.some.inj e2
                            rcases HL' b e with h2 | h2
                            · have e4 : lb = b := Option.some.inj h2
                              omega
                            · have := xbl.2
                              omega
                          · have := Option.some.inj e2
                            omega
                        have xl' : ∀ b, l'.ownBlock = some b → some b ≠ (Value.slice (some ⟨xb, 0, none⟩) m xc).ownBlock := fun b e e2 => by
                          have e3 : b = xb := Option.some.inj e2
                          rcases HL' b e with h2 | h2
                          · have e4 : lb = b := Option.some.inj h2
                            omega
                          · have := xbl.2
                            omega
                        have ownF := ownsRow_keep own fun b e => g4.block b (own.lt b e).2 (xl' b e)
                        have KF : wF.cell? ⟨xb, p, none⟩ = some (.slice ta tn tc) := by
                          rcases or4 with h | ⟨_, h⟩
                          · obtain ⟨xa, xd, rfl, _⟩ := RF.at.1.form
                            obtain ⟨b', eb, cF⟩ := RF.base2 (j := p) (x := .slice ta tn tc) (by rw [List.getElem?_append_left (List.getElem?_eq_some_iff.1 HI.out.2.1).1]; exact HI.out.2.1)
                            have e5 : b' = xb := by rw [eb] at h; exact Option.some.inj h
                            rw [← e5]
                            exact cF
                          · exact (h.cell (p := ⟨xb, p, none⟩) (World.block_lt_of_cell? _ _ K2)).trans K2
                        replace t := t.grow2 g4
                        have PF := P3.out.clone t HC2.out (by have := HZX.out.1; have := QBS.out; omega) HFR.out (by rw [HM.out]; exact ownF) RF (List.mem_of_getElem? HI.out.2.1) HL' HX' HLX
                        have cF : wF.cell? ⟨wx.heap.size, 1, none⟩ = some (.slice ay q cpy) := t.cell HCB.out (fun e => by have e3 : lb = wx.heap.size := Option.some.inj e; have := HZX.out.2.1.2; omega) (fun e => by have e3 : xb = wx.heap.size := Option.some.inj e; have := HZX.out.2.2.2; omega)
                        have BF : Below Z w wF := B3.out.trans ⟨t.os, t.tape, t.output, t.size, fun b hb => t.block b (by omega) (fun e => by have e3 : lb = b := Option.some.inj e; have := lbl.1; omega) (fun e => by have e3 : xb = b := Option.some.inj e; have := xbl.1; omega)⟩
                        have HPF := Lib.hid PF
                        have HBF := Lib.hid BF
                        refine And.intro KF ?_
                        obtain ⟨lb', lc', rfl, _⟩ := own_form3 ownF (by omega)
                        obtain ⟨xb', xc', rfl, _⟩ := own_form3 RF.1 (by simp)
                        have hl9 : (vs ++ [Value.slice ta tn tc]).length = m + 1 := by rw [List.length_append, HPL.out]; rfl
                        rw [hl9] at HPF ⊢
                        have h7 : (gs ++ [c]).length = m + 1 := by rw [List.length_append, HM.out]; rfl
                        have HH7 := Lib.hid h7
                        clear hl9 h7 PF BF t own ownF RF g4 q4 or4 HX' HLX xl' HL' RT K2 n9 vl lq
                        refine anyH_take (i := 11) (d := 7) (v := (.slice (some ⟨lb', 0, none⟩) (m + 1 : Nat) lc')) rfl rfl (by kernel_rfl) (by kernel_rfl) (by kernel_rfl) (fun _ _ _ h => h) (Or.inl ⟨by kernel_rfl, fun w _ => by kernel_rfl⟩) KF ?_
                        refine anyH_take (i := 12) (d := 8) (v := (.slice (some ⟨xb', 0, none⟩) (m + 1 : Nat) xc')) rfl rfl (by kernel_rfl) (by kernel_rfl) (by kernel_rfl) (fun _ _ _ h => h) (Or.inl ⟨by kernel_rfl, fun w _ => by kernel_rfl⟩) KF ?_
                        refine wpAnyH_done (by kernel_rfl) ?_ _
                        try simp only [Act.put, List.setIfInBounds_toArray, List.set_cons_succ, List.set_cons_zero]
                        clear KF
                        have HTF : Hid (∀ U ∈ Ts ++ [T], U.length ≤ (Ls.take (j + 1)).flatten.length) := Lib.hid fun U hU => by
                          rw [TK.out]
                          rcases List.mem_append.1 hU with h | h
                          · have := HTT.out U h
                            omega
                          · rw [List.mem_singleton] at h
                            rw [h]
                            have := HTT.out T (List.mem_of_getElem? HI.out.2.2)
                            omega
                        by_cases hodd : (q : Int) % 2 = 1
                        · have eo : ((q : Int) % 2 == 1) = true := by simp [hodd]
                          go_wp2_with fail
                          go_roundw
                          case rel => exact ⟨j + 1, m, gs ++ [c], vs ++ [.slice ta tn tc], Ts ++ [T], by omega, by go_num, by go_num, by rw [HH7.out]; omega, by rw [HH7.out]; omega, HPF.out, HTF.out, HBF.out⟩
                          case measure => simp [intOf]; omega
                        · have eo : ((q : Int) % 2 == 1) = false := by simp [hodd]
                          go_wp2_with fail
                          go_roundw
                          case rel => exact ⟨j + 1, p, gs ++ [c], vs ++ [.slice ta tn tc], Ts ++ [T], by omega, by go_num, rfl, by rw [HH7.out]; omega, by rw [HH7.out]; omega, HPF.out, HTF.out, HBF.out⟩
                          case measure => simp [intOf]; omega
                    · have t00 := t0_w0
                      go_wp2_with fail
                      generalize hwz6 : World.alloc _ _ = wz6
                      have qwz6 : Below w0.heap.size w0 wz6 := by rw [← hwz6]; exact (Below.refl _ _).alloc (Nat.le_refl _) _
                      replace t := t.below qwz6
                      replace own := own_below own qwz6
                      replace RT := RT.below qwz6
                      replace K2 := (qwz6.cell (p := ⟨xb, p, none⟩) (World.block_lt_of_cell? _ _ K2)).trans K2
                      have n9 : wz6.heap[w0.heap.size]? = some (.cells #[.slice ta tn tc] 29 (0, 0)) := by rw [← hwz6, heap_alloc_new]; try rfl
                      have lq : w0.heap.size ≤ w0.heap.size := by have := t0_w0; omega
                      have t0_wz6 : w0.heap.size ≤ wz6.heap.size := t.size
                      clear hwz6 qwz6
                      refine ⟨K2, ?_⟩
                      refine anyH_one (i := 2) (by kernel_rfl) rfl ?_
                      go_wp2_with fail
                      generalize hwz7 : World.alloc _ _ = wz7
                      have qwz7 : Below wz6.heap.size wz6 wz7 := by rw [← hwz7]; exact (Below.refl _ _).alloc (Nat.le_refl _) _
                      replace t := t.below qwz7
                      replace own := own_below own qwz7
                      replace RT := RT.below qwz7
                      replace K2 := (qwz7.cell (p := ⟨xb, p, none⟩) (World.block_lt_of_cell? _ _ K2)).trans K2
                      replace n9 := (qwz7.block _ (lt_of_heap n9)).trans n9
                      have n2 : wz7.heap[wz6.heap.size]? = some (.cells #[ptr c] 39 (0, 0)) := by rw [← hwz7, heap_alloc_new]; try rfl
                      have t0_wz7 : w0.heap.size ≤ wz7.heap.size := t.size
                      clear hwz7 qwz7
                      refine ⟨K2, ?_⟩
                      refine anyH_one (i := 3) (by kernel_rfl) rfl ?_
                      refine app_ptr (.tmp 147) (.tmp 149) rfl rfl (by kernel_rfl) own (by kernel_rfl) n2 (Nat.le_trans z0 t.size) (by omega) ?_
                      intro l' wz8 own' g3 or3
                      have HL' : ∀ b, l'.ownBlock = some b → (Value.slice (some ⟨lb, 0, none⟩) m lc).ownBlock = some b ∨ w0.heap.size ≤ b := fun b e => by rcases or3 with h | h <;> rw [h] at e; exact .inl e; exact .inr (by have := Option.some.inj e; have := t.size; omega)
                      replace t := t.grow1 g3
                      replace RT := RT.grownB g3 (fun b e e2 => (P3.out.lx b e2).1 e) vl
                      replace K2 := (World.cell?_of_block (a := ⟨xb, p, none⟩) (g3.block xb (World.block_lt_of_cell? _ _ K2) (fun e => lx (Option.some.inj e).symm))).trans K2
                      replace n9 := (g3.block _ (lt_of_heap n9) (fun e => by have : w0.heap.size = lb := Option.some.inj e; have := lbl.2; omega)).trans n9
                      have t0_wz8 : w0.heap.size ≤ wz8.heap.size := t.size
                      clear g3 or3 n2 own
                      have own := own'
                      clear own'
                      refine And.intro K2 ?_
                      refine anyH_one (i := 10) (by kernel_rfl) rfl ?_
                      refine app_rows4 (.tmp 151) (.tmp 156) rfl rfl (by kernel_rfl) RT _ _ T (by kernel_rfl) n9 rfl (((P3.out.rt.2.2 p _ T HI.out.2.1 HI.out.2.2).1).keepB (fun b e => t.block b ((P3.out.rt.2.2 p _ T HI.out.2.1 HI.out.2.2).2 b e).1 (vl _ (List.mem_of_getElem? HI.out.2.1) b e) ((P3.out.rt.2.2 p _ T HI.out.2.1 HI.out.2.2).2 b e).2)) (fun b e => ⟨Nat.lt_of_lt_of_le ((P3.out.rt.2.2 p _ T HI.out.2.1 HI.out.2.2).2 b e).1 t.size, ((P3.out.rt.2.2 p _ T HI.out.2.1 HI.out.2.2).2 b e).2⟩) (Nat.le_trans z0 t.size) (by have := HPL.out; omega) ?_
                      intro x' wF RF g4 q4 or4
                      have HX' : ∀ b, x'.ownBlock = some b → (Value.slice (some ⟨xb, 0, none⟩) m xc).ownBlock = some b ∨ w0.heap.size ≤ b := fun b e => by rcases or4 with h | ⟨h, _⟩ <;> rw [h] at e; exact .inl e; exact .inr (by have := Option.some.inj e; have := t.size; omega)
                      have HLX : ∀ b, l'.ownBlock = some b → x'.ownBlock ≠ some b := fun b e e2 => by
                        have h1 := (own.lt b e).2
                        rcases or4 with h | ⟨h, _⟩ <;> rw [h] at e2
                        · have e3 : xb = b := Option.some.inj e2
                          rcases HL' b e with h2 | h2
                          · have e4 : lb = b := Option.some.inj h2
                            omega
                          · have := xbl.2
                            omega
                        · have := Option.some.inj e2
                          omega
                      have xl' : ∀ b, l'.ownBlock = some b → some b ≠ (Value.slice (some ⟨xb, 0, none⟩) m xc).ownBlock := fun b e e2 => by
                        have e3 : b = xb := Option.some.inj e2
                        rcases HL' b e with h2 | h2
                        · have e4 : lb = b := Option.some.inj h2
                          omega
                        · have := xbl.2
                          omega
                      have ownF := ownsRow_keep own fun b e => g4.block b (own.lt b e).2 (xl' b e)
                      have KF : wF.cell? ⟨xb, p, none⟩ = some (.slice ta tn tc) := by
                        rcases or4 with h | ⟨_, h⟩
                        · obtain ⟨xa, xd, rfl, _⟩ := RF.at.1.form
                          obtain ⟨b', eb, cF⟩ := RF.base2 (j := p) (x := .slice ta tn tc) (by rw [List.getElem?_append_left (List.getElem?_eq_some_iff.1 HI.out.2.1).1]; exact HI.out.2.1)
                          have e5 : b' = xb := by rw [eb] at h; exact Option.some.inj h
                          rw [← e5]
                          exact cF
                        · exact (h.cell (p := ⟨xb, p, none⟩) (World.block_lt_of_cell? _ _ K2)).trans K2
                      replace t := t.grow2 g4
                      have PF := P3.out.clone t HC2.out (by have := HZX.out.1; have := QBS.out; omega) HFR.out (by rw [HM.out]; exact ownF) RF (List.mem_of_getElem? HI.out.2.1) HL' HX' HLX
                      have cF : wF.cell? ⟨wx.heap.size, 1, none⟩ = some (.slice ay q cpy) := t.cell HCB.out (fun e => by have e3 : lb = wx.heap.size := Option.some.inj e; have := HZX.out.2.1.2; omega) (fun e => by have e3 : xb = wx.heap.size := Option.some.inj e; have := HZX.out.2.2.2; omega)
                      have BF : Below Z w wF := B3.out.trans ⟨t.os, t.tape, t.output, t.size, fun b hb => t.block b (by omega) (fun e => by have e3 : lb = b := Option.some.inj e; have := lbl.1; omega) (fun e => by have e3 : xb = b := Option.some.inj e; have := xbl.1; omega)⟩
                      have HPF := Lib.hid PF
                      have HBF := Lib.hid BF
                      refine And.intro KF ?_
                      obtain ⟨lb', lc', rfl, _⟩ := own_form3 ownF (by omega)
                      obtain ⟨xb', xc', rfl, _⟩ := own_form3 RF.1 (by simp)
                      have hl9 : (vs ++ [Value.slice ta tn tc]).length = m + 1 := by rw [List.length_append, HPL.out]; rfl
                      rw [hl9] at HPF ⊢
                      have h7 : (gs ++ [c]).length = m + 1 := by rw [List.length_append, HM.out]; rfl
                      have HH7 := Lib.hid h7
                      clear hl9 h7 PF BF t own ownF RF g4 q4 or4 HX' HLX xl' HL' RT K2 n9 vl lq
                      refine anyH_take (i := 11) (d := 7) (v := (.slice (some ⟨lb', 0, none⟩) (m + 1 : Nat) lc')) rfl rfl (by kernel_rfl) (by kernel_rfl) (by kernel_rfl) (fun _ _ _ h => h) (Or.inl ⟨by kernel_rfl, fun w _ => by kernel_rfl⟩) KF ?_
                      refine anyH_take (i := 12) (d := 8) (v := (.slice (some ⟨xb', 0, none⟩) (m + 1 : Nat) xc')) rfl rfl (by kernel_rfl) (by kernel_rfl) (by kernel_rfl) (fun _ _ _ h => h) (Or.inl ⟨by kernel_rfl, fun w _ => by kernel_rfl⟩) KF ?_
                      refine wpAnyH_done (by kernel_rfl) ?_ _
                      try simp only [Act.put, List.setIfInBounds_toArray, List.set_cons_succ, List.set_cons_zero]
                      clear KF
                      have HTF : Hid (∀ U ∈ Ts ++ [T], U.length ≤ (Ls.take (j + 1)).flatten.length) := Lib.hid fun U hU => by
                        rw [TK.out]
                        rcases List.mem_append.1 hU with h | h
                        · have := HTT.out U h
                          omega
                        · rw [List.mem_singleton] at h
                          rw [h]
                          have := HTT.out T (List.mem_of_getElem? HI.out.2.2)
                          omega
                      by_cases hodd : (q : Int) % 2 = 1
                      · have eo : ((q : Int) % 2 == 1) = true := by simp [hodd]
                        go_wp2_with fail
                        go_roundw
                        case rel => exact ⟨j + 1, m, gs ++ [c], vs ++ [.slice ta tn tc], Ts ++ [T], by omega, by go_num, by go_num, by rw [HH7.out]; omega, by rw [HH7.out]; omega, HPF.out, HTF.out, HBF.out⟩
                        case measure => simp [intOf]; omega
                      · have eo : ((q : Int) % 2 == 1) = false := by simp [hodd]
                        go_wp2_with fail
                        go_roundw
                        case rel => exact ⟨j + 1, p, gs ++ [c], vs ++ [.slice ta tn tc], Ts ++ [T], by omega, by go_num, rfl, by rw [HH7.out]; omega, by rw [HH7.out]; omega, HPF.out, HTF.out, HBF.out⟩
                        case measure => simp [intOf]; omega
                · have e0 : (tag == 0) = false := by simp [h0]
                  have e1 : (tag == 1) = false := by simp [h1]
                  have e2 : (tag == 2) = false := by simp [h2]
                  have e3 : (tag == 3) = false := by simp [h3]
                  go_wp2_with fail
                  go_roundw
                  case rel => exact ⟨j + 1, q % m, gs, vs, Ts, by omega, by go_num, by push_cast; rfl, by rw [HM.out]; exact Nat.mod_lt _ (by omega), by rw [HM.out]; exact h6, HP.out.below HB.out, (fun T hT => Nat.le_trans (HTT.out T hT) (by rw [TK.out]; omega)), HQX.out.trans (HB.out.mono HZX.out.1)⟩
                  case measure => simp [intOf]; omega
        · obtain rfl : j = k := by omega
          have HP := Lib.hid P
          have HTT := Lib.hid hT
          have HQX := Lib.hid qx
          have FLT : Hid (∀ T ∈ Ts, T.length ≤ 3000) := Lib.hid fun T h => by
            have h1 := hT T h
            rw [List.take_of_length_le (by rw [← NL.out]; exact Nat.le_refl _)] at h1
            have := HS.out
            omega
          have HZX := Lib.hid (And.intro zx (And.intro (And.intro zl1 zl2) (And.intro zx1 zx2)))
          have b0 : Below wx.heap.size wx wx := Below.refl _ _
          clear P hT qx zx zl1 zl2 zx1 zx2 hm hlt hj hp
          go_wp2_with fail
          go_loopw [15] (fun z wr => ∃ i : Nat, i ≤ m ∧ z = .int .i64 (i : Int) ∧ Below wx.heap.size wx wr) (fun z _ => m - (intOf z).toNat)
          case atStart => exact ⟨0, by omega, rfl, b0⟩
          case round =>
            obtain ⟨i, hi, rfl, q⟩ := hrel
            clear b0
            obtain ⟨wk, hwk⟩ : ∃ u, u = wr := ⟨_, rfl⟩
            subst hwk
            have PB := HP.out.below q
            have BB := HQX.out.trans (q.mono HZX.out.1)
            have ZB : Z ≤ wk.heap.size := Nat.le_trans HZX.out.1 q.size
            by_cases hlt : i < m
            · have hlt := hlt
              obtain ⟨g, hg⟩ : ∃ g, gs[i]? = some g := ⟨gs[i]'(by rw [HM.out]; exact hlt), List.getElem?_eq_getElem _⟩
              obtain ⟨t, ht⟩ : ∃ t, vs[i]? = some t := ⟨vs[i]'(by have := HPL.out; omega), List.getElem?_eq_getElem _⟩
              obtain ⟨T, hTp⟩ : ∃ T, Ts[i]? = some T := ⟨Ts[i]'(by have := PB.rt.2.1; have := HPL.out; omega), List.getElem?_eq_getElem _⟩
              have rl2 := PB.rl
              have rt2 := PB.rt.1
              rw [HM.out] at rl2
              rw [HPL.out] at rt2
              have cg : wk.cell? ⟨lb, i, none⟩ = some (.pointer (some ⟨g, 0, none⟩)) := own_cell rl2 (show (gs.map ptr)[i]? = some (ptr g) by rw [List.getElem?_map, hg]; rfl)
              have ct := own_cell rt2 ht
              have HI := Lib.hid (And.intro hg (And.intro ht hTp))
              obtain ⟨ta, tc, rfl, _⟩ := (PB.rt.2.2 i t T ht hTp).1
              obtain ⟨tn, htn⟩ : ∃ u, T.length = u := ⟨_, rfl⟩
              have HTN := Lib.hid htn
              rw [htn] at HI ct
              have tn3 : tn ≤ 3000 := by have := FLT.out T (List.mem_of_getElem? hTp); omega
              have ti : (tn : Int) ≤ 3000 := by omega
              have TWR := Lib.hid (show IntKind.u64.wrap (tn : Int) = (tn : Int) by simp [IntKind.wrap, IntKind.bits, IntKind.signed]; omega)
              obtain ⟨X, hX⟩ : ∃ X, sumN wd T = X := ⟨_, rfl⟩
              have XL := Lib.hid (show X.length = 32 by rw [← hX]; exact sum_len wd _)
              have HX := Lib.hid hX
              have EX := Lib.hid (fun (w : World) => by have := run_eql_h w XL.out XL.out; rwa [decide_eq_true rfl] at this : ∀ w, (Op.equalIn 10000 23 (.agg (cellsOf' u8c X)) (.agg (cellsOf' u8c X))).run Tryd.prog w = .ok true w)
              have K0 : wk.drew.cell? ⟨lb, i, none⟩ = some (.pointer (some ⟨g, 0, none⟩)) ∧ wk.drew.cell? ⟨xb, i, none⟩ = some (.slice ta tn tc) ∧ Below wk.heap.size wk wk.drew := ⟨cg, ct, (Below.refl _ _).drew⟩
              have KK : ∀ {u u' : World}, (u.cell? ⟨lb, i, none⟩ = some (.pointer (some ⟨g, 0, none⟩)) ∧ u.cell? ⟨xb, i, none⟩ = some (.slice ta tn tc) ∧ Below wk.heap.size wk u) → Below u.heap.size u u' → u'.cell? ⟨lb, i, none⟩ = some (.pointer (some ⟨g, 0, none⟩)) ∧ u'.cell? ⟨xb, i, none⟩ = some (.slice ta tn tc) ∧ Below wk.heap.size wk u' := fun h q => ⟨(q.cell (p := ⟨lb, i, none⟩) (World.block_lt_of_cell? _ _ h.1)).trans h.1, (q.cell (p := ⟨xb, i, none⟩) (World.block_lt_of_cell? _ _ h.2.1)).trans h.2.1, h.2.2.trans (q.mono h.2.2.size)⟩
              have ii : (i : Int) < (m : Int) := by omega
              have i0 : (0 : Int) ≤ (i : Int) := by omega
              have HQ9 := Lib.hid q
              clear hX htn hg ht hTp rl2 rt2 cg ct q
              go_wp2_with fail
              · refine wp_region_held (S := fun w' => w'.cell? ⟨lb, i, none⟩ = some (.pointer (some ⟨g, 0, none⟩)) ∧ w'.cell? ⟨xb, i, none⟩ = some (.slice ta tn tc) ∧ Below wk.heap.size wk w') (by kernel_rfl) ?_
                change wpAnyH _ _ _ _ _ _ _ _ (World.drew _)
                refine anyH_take (i := 0) (d := 172) (v := (Value.slice (some ⟨lb, 0, none⟩) m lc)) rfl rfl (by kernel_rfl) (by kernel_rfl) (by kernel_rfl) (fun _ _ _ h => h) (Or.inl ⟨by kernel_rfl, fun w _ => by kernel_rfl⟩) K0 ?_
                refine anyH_take (i := 1) (d := 173) (v := .int .i64 (i : Int)) rfl rfl (by kernel_rfl) (by kernel_rfl) (by kernel_rfl) (fun _ _ _ h => h) (Or.inl ⟨by kernel_rfl, fun w _ => by kernel_rfl⟩) K0 ?_
                refine anyH_take (i := 2) (d := 174) (v := .pointer (some ⟨lb, i, none⟩)) rfl rfl (by kernel_rfl) (by kernel_rfl) (by kernel_rfl) (fun _ _ _ h => h) (Or.inl ⟨by kernel_rfl, fun w hw => by obtain ⟨h1, h2, h3⟩ := hw; go_simp⟩) K0 ?_
                refine anyH_take (i := 3) (d := 175) (v := .pointer (some ⟨g, 0, none⟩)) rfl rfl (by kernel_rfl) (by kernel_rfl) (by kernel_rfl) (fun _ _ _ h => h) (Or.inl ⟨by kernel_rfl, fun w hw => by obtain ⟨h1, h2, h3⟩ := hw; go_simp⟩) K0 ?_
                refine anyH_take (i := 5) (d := 177) (v := .int .i64 wd) rfl rfl (by kernel_rfl) (by kernel_rfl) (by kernel_rfl) (fun _ _ _ h => h) (Or.inl ⟨by kernel_rfl, fun w _ => by kernel_rfl⟩) K0 ?_
                refine anyH_take (i := 6) (d := 178) (v := (Value.slice (some ⟨xb, 0, none⟩) m xc)) rfl rfl (by kernel_rfl) (by kernel_rfl) (by kernel_rfl) (fun _ _ _ h => h) (Or.inl ⟨by kernel_rfl, fun w _ => by kernel_rfl⟩) K0 ?_
                refine anyH_take (i := 7) (d := 179) (v := .int .i64 (i : Int)) rfl rfl (by kernel_rfl) (by kernel_rfl) (by kernel_rfl) (fun _ _ _ h => h) (Or.inl ⟨by kernel_rfl, fun w _ => by kernel_rfl⟩) K0 ?_
                refine anyH_take (i := 8) (d := 180) (v := .pointer (some ⟨xb, i, none⟩)) rfl rfl (by kernel_rfl) (by kernel_rfl) (by kernel_rfl) (fun _ _ _ h => h) (Or.inl ⟨by kernel_rfl, fun w hw => by obtain ⟨h1, h2, h3⟩ := hw; go_simp⟩) K0 ?_
                refine anyH_take (i := 9) (d := 181) (v := (.slice ta tn tc)) rfl rfl (by kernel_rfl) (by kernel_rfl) (by kernel_rfl) (fun _ _ _ h => h) (Or.inl ⟨by kernel_rfl, fun w hw => by obtain ⟨h1, h2, h3⟩ := hw; go_simp⟩) K0 ?_
                refine anyH_call_build (i := 4) (j := 10) (d := 176) (e := 182) (X := .slice ta tn tc) (t := 29) (u := .agg (cellsOf' u8c X)) (f := 22) (args := #[.pointer (some ⟨g, 0, none⟩)]) (by kernel_rfl) (by kernel_rfl) (by kernel_rfl) rfl rfl rfl rfl (by decide) (by decide) (by kernel_rfl) (by kernel_rfl) (fun v => by kernel_rfl) (by kernel_rfl) (fun w1 q1 => ?_) (fun w1 => by kernel_rfl) (fun v w1 => by kernel_rfl) (fun w1 => run_build_bs (.tmp 181) rfl (by kernel_rfl) w1) (fun w1 => run_build_bs (.tmp 181) rfl (by kernel_rfl) w1) (fun w1 q1 => KK K0 q1) ?_
                · have C := HSum_any ((PB.below (KK K0 q1).2.2).hs i g T HI.out.1 HI.out.2.2).1 (HD.out.low hb1 (BB.trans ((KK K0 q1).2.2.mono ZB))) (by have := HTN.out; omega)
                  rw [HX.out] at C
                  exact C
                intro pp1 u1_ zp1 np1 qp1
                have T1 := KK K0 qp1
                have C1 := refSum_any (wd := wd) (one_in np1 ((PB.below T1.2.2).rt.2.2 i _ T HI.out.2.1 HI.out.2.2).1) (fun L hL => by rw [List.mem_singleton] at hL; rw [hL]; exact ((PB.hs i g T HI.out.1 HI.out.2.2).1).1) (by have := HTN.out; simp; omega) (by show 1 ≤ 4611686018427387904; decide)
                rw [show [T].flatten = T by simp, HX.out] at C1
                refine anyH_enter1 (i := 11) (d := 183) (by kernel_rfl) rfl rfl (by kernel_rfl) (C1) (by kernel_rfl) ?_
                intro y1_ pq1
                have T2 := KK T1 pq1
                refine ⟨T2, ?_⟩
                refine anyH_take (i := 12) (d := 184) (v := .bool false) rfl rfl (by kernel_rfl) (by kernel_rfl) (by kernel_rfl) (fun _ _ _ h => h) (yields_neA (p := true) (by kernel_rfl) rfl (X := cellsOf' u8c X) (Y := cellsOf' u8c X) (by kernel_rfl) (by kernel_rfl) guard_h EX.out) T2 ?_
                refine anyH_take (i := 13) (d := 185) (v := .bool false) rfl rfl (by kernel_rfl) (by kernel_rfl) (by kernel_rfl) (fun _ _ _ h => h) (Or.inl ⟨by kernel_rfl, fun w _ => by kernel_rfl⟩) T2 ?_
                refine anyH_take (i := 14) (d := 186) (v := (Value.slice (some ⟨lb, 0, none⟩) m lc)) rfl rfl (by kernel_rfl) (by kernel_rfl) (by kernel_rfl) (fun _ _ _ h => h) (Or.inl ⟨by kernel_rfl, fun w _ => by kernel_rfl⟩) T2 ?_
                refine anyH_take (i := 15) (d := 187) (v := .int .i64 (i : Int)) rfl rfl (by kernel_rfl) (by kernel_rfl) (by kernel_rfl) (fun _ _ _ h => h) (Or.inl ⟨by kernel_rfl, fun w _ => by kernel_rfl⟩) T2 ?_
                refine anyH_take (i := 16) (d := 188) (v := .pointer (some ⟨lb, i, none⟩)) rfl rfl (by kernel_rfl) (by kernel_rfl) (by kernel_rfl) (fun _ _ _ h => h) (Or.inl ⟨by kernel_rfl, fun w hw => by obtain ⟨h1, h2, h3⟩ := hw; go_simp⟩) T2 ?_
                refine anyH_take (i := 17) (d := 189) (v := .pointer (some ⟨g, 0, none⟩)) rfl rfl (by kernel_rfl) (by kernel_rfl) (by kernel_rfl) (fun _ _ _ h => h) (Or.inl ⟨by kernel_rfl, fun w hw => by obtain ⟨h1, h2, h3⟩ := hw; go_simp⟩) T2 ?_
                refine anyH_take (i := 19) (d := 191) (v := (Value.slice (some ⟨xb, 0, none⟩) m xc)) rfl rfl (by kernel_rfl) (by kernel_rfl) (by kernel_rfl) (fun _ _ _ h => h) (Or.inl ⟨by kernel_rfl, fun w _ => by kernel_rfl⟩) T2 ?_
                refine anyH_take (i := 20) (d := 192) (v := .int .i64 (i : Int)) rfl rfl (by kernel_rfl) (by kernel_rfl) (by kernel_rfl) (fun _ _ _ h => h) (Or.inl ⟨by kernel_rfl, fun w _ => by kernel_rfl⟩) T2 ?_
                refine anyH_take (i := 21) (d := 193) (v := .pointer (some ⟨xb, i, none⟩)) rfl rfl (by kernel_rfl) (by kernel_rfl) (by kernel_rfl) (fun _ _ _ h => h) (Or.inl ⟨by kernel_rfl, fun w hw => by obtain ⟨h1, h2, h3⟩ := hw; go_simp⟩) T2 ?_
                refine anyH_take (i := 22) (d := 194) (v := (.slice ta tn tc)) rfl rfl (by kernel_rfl) (by kernel_rfl) (by kernel_rfl) (fun _ _ _ h => h) (Or.inl ⟨by kernel_rfl, fun w hw => by obtain ⟨h1, h2, h3⟩ := hw; go_simp⟩) T2 ?_
                refine anyH_take (i := 23) (d := 195) (v := .int .i64 (tn : Int)) rfl rfl (by kernel_rfl) (by kernel_rfl) (by kernel_rfl) (fun _ _ _ h => h) (Or.inl ⟨by kernel_rfl, fun w _ => by kernel_rfl⟩) T2 ?_
                refine anyH_take (i := 24) (d := 196) (v := .int .u64 (tn : Int)) rfl rfl (by kernel_rfl) (by kernel_rfl) (by kernel_rfl) (fun _ _ _ h => h) (Or.inl ⟨by kernel_rfl, fun w hw => by have := TWR.out; go_simp⟩) T2 ?_
                have C9 := Len_any ((PB.below T2.2.2).hs i g T HI.out.1 HI.out.2.2).1
                rw [HTN.out] at C9
                refine anyH_enter1 (i := 18) (d := 190) (by kernel_rfl) rfl rfl (by kernel_rfl) C9 (by kernel_rfl) ?_
                rintro _ rfl
                refine ⟨T2, ?_⟩
                refine anyH_take (i := 25) (d := 197) (v := .bool false) rfl rfl (by kernel_rfl) (by kernel_rfl) (by kernel_rfl) (fun _ _ _ h => h) (Or.inl ⟨by kernel_rfl, fun w hw => by go_simp⟩) T2 ?_
                refine anyH_take (i := 26) (d := 198) (v := .bool false) rfl rfl (by kernel_rfl) (by kernel_rfl) (by kernel_rfl) (fun _ _ _ h => h) (Or.inl ⟨by kernel_rfl, fun w _ => by kernel_rfl⟩) T2 ?_
                refine anyH_take (i := 27) (d := 199) (v := .bool false) rfl rfl (by kernel_rfl) (by kernel_rfl) (by kernel_rfl) (fun _ _ _ h => h) (Or.inl ⟨by kernel_rfl, fun w _ => by kernel_rfl⟩) T2 ?_
                refine anyH_take (i := 28) (d := 200) (v := (Value.slice (some ⟨lb, 0, none⟩) m lc)) rfl rfl (by kernel_rfl) (by kernel_rfl) (by kernel_rfl) (fun _ _ _ h => h) (Or.inl ⟨by kernel_rfl, fun w _ => by kernel_rfl⟩) T2 ?_
                refine anyH_take (i := 29) (d := 201) (v := .int .i64 (i : Int)) rfl rfl (by kernel_rfl) (by kernel_rfl) (by kernel_rfl) (fun _ _ _ h => h) (Or.inl ⟨by kernel_rfl, fun w _ => by kernel_rfl⟩) T2 ?_
                refine anyH_take (i := 30) (d := 202) (v := .pointer (some ⟨lb, i, none⟩)) rfl rfl (by kernel_rfl) (by kernel_rfl) (by kernel_rfl) (fun _ _ _ h => h) (Or.inl ⟨by kernel_rfl, fun w hw => by obtain ⟨h1, h2, h3⟩ := hw; go_simp⟩) T2 ?_
                refine anyH_take (i := 31) (d := 203) (v := .pointer (some ⟨g, 0, none⟩)) rfl rfl (by kernel_rfl) (by kernel_rfl) (by kernel_rfl) (fun _ _ _ h => h) (Or.inl ⟨by kernel_rfl, fun w hw => by obtain ⟨h1, h2, h3⟩ := hw; go_simp⟩) T2 ?_
                refine anyH_take (i := 33) (d := 205) (v := .int .i64 wd) rfl rfl (by kernel_rfl) (by kernel_rfl) (by kernel_rfl) (fun _ _ _ h => h) (Or.inl ⟨by kernel_rfl, fun w _ => by kernel_rfl⟩) T2 ?_
                refine anyH_take (i := 34) (d := 206) (v := (Value.slice (some ⟨xb, 0, none⟩) m xc)) rfl rfl (by kernel_rfl) (by kernel_rfl) (by kernel_rfl) (fun _ _ _ h => h) (Or.inl ⟨by kernel_rfl, fun w _ => by kernel_rfl⟩) T2 ?_
                refine anyH_take (i := 35) (d := 207) (v := .int .i64 (i : Int)) rfl rfl (by kernel_rfl) (by kernel_rfl) (by kernel_rfl) (fun _ _ _ h => h) (Or.inl ⟨by kernel_rfl, fun w _ => by kernel_rfl⟩) T2 ?_
                refine anyH_take (i := 36) (d := 208) (v := .pointer (some ⟨xb, i, none⟩)) rfl rfl (by kernel_rfl) (by kernel_rfl) (by kernel_rfl) (fun _ _ _ h => h) (Or.inl ⟨by kernel_rfl, fun w hw => by obtain ⟨h1, h2, h3⟩ := hw; go_simp⟩) T2 ?_
                refine anyH_take (i := 37) (d := 209) (v := (.slice ta tn tc)) rfl rfl (by kernel_rfl) (by kernel_rfl) (by kernel_rfl) (fun _ _ _ h => h) (Or.inl ⟨by kernel_rfl, fun w hw => by obtain ⟨h1, h2, h3⟩ := hw; go_simp⟩) T2 ?_
                refine anyH_call_build (i := 32) (j := 38) (d := 204) (e := 210) (X := .slice ta tn tc) (t := 29) (u := .agg (cellsOf' u8c X)) (f := 22) (args := #[.pointer (some ⟨g, 0, none⟩)]) (by kernel_rfl) (by kernel_rfl) (by kernel_rfl) rfl rfl rfl rfl (by decide) (by decide) (by kernel_rfl) (by kernel_rfl) (fun v => by kernel_rfl) (by kernel_rfl) (fun w1 q1 => ?_) (fun w1 => by kernel_rfl) (fun v w1 => by kernel_rfl) (fun w1 => run_build_bs (.tmp 209) rfl (by kernel_rfl) w1) (fun w1 => run_build_bs (.tmp 209) rfl (by kernel_rfl) w1) (fun w1 q1 => KK T2 q1) ?_
                · have C := HSum_any ((PB.below (KK T2 q1).2.2).hs i g T HI.out.1 HI.out.2.2).1 (HD.out.low hb1 (BB.trans ((KK T2 q1).2.2.mono ZB))) (by have := HTN.out; omega)
                  rw [HX.out] at C
                  exact C
                intro pp3 u3_ zp3 np3 qp3
                have T3 := KK T2 qp3
                have C3 := refSum_any (wd := wd) (one_in np3 ((PB.below T3.2.2).rt.2.2 i _ T HI.out.2.1 HI.out.2.2).1) (fun L hL => by rw [List.mem_singleton] at hL; rw [hL]; exact ((PB.hs i g T HI.out.1 HI.out.2.2).1).1) (by have := HTN.out; simp; omega) (by show 1 ≤ 4611686018427387904; decide)
                rw [show [T].flatten = T by simp, HX.out] at C3
                refine anyH_enter1 (i := 39) (d := 211) (by kernel_rfl) rfl rfl (by kernel_rfl) (C3) (by kernel_rfl) ?_
                intro y3_ pq3
                have T4 := KK T3 pq3
                refine ⟨T4, ?_⟩
                refine anyH_take (i := 40) (d := 212) (v := .bool false) rfl rfl (by kernel_rfl) (by kernel_rfl) (by kernel_rfl) (fun _ _ _ h => h) (yields_neA (p := true) (by kernel_rfl) rfl (X := cellsOf' u8c X) (Y := cellsOf' u8c X) (by kernel_rfl) (by kernel_rfl) guard_h EX.out) T4 ?_
                refine anyH_take (i := 41) (d := 213) (v := .bool false) rfl rfl (by kernel_rfl) (by kernel_rfl) (by kernel_rfl) (fun _ _ _ h => h) (Or.inl ⟨by kernel_rfl, fun w _ => by kernel_rfl⟩) T4 ?_
                refine wpAnyH_done (by kernel_rfl) ?_ _
                try simp only [Act.put, List.setIfInBounds_toArray, List.set_cons_succ, List.set_cons_zero]
                have QE := HQ9.out.trans (T4.2.2.mono HQ9.out.size)
                clear K0 KK T1 T2 T3 T4 C1 C3 C9 np1 np3 zp1 zp3 qp1 qp3 pq1 pq3 PB BB EX
                go_wp2_with fail
                go_roundw
                case rel => exact ⟨i + 1, by omega, by go_num, QE⟩
                case measure => simp [intOf]; omega
            · obtain rfl : m = i := by omega
              have AW := Lib.hid (awake2_any (HD.out.low hb1 BB))
              have HBB := Lib.hid BB
              have HZB := Lib.hid ZB
              clear PB BB ZB q hlt hi
              go_wp2_with fail
              refine AW.out.mono ?_
              rintro e w9 ⟨rfl, q9⟩
              have QE := HBB.out.trans (q9.mono HZB.out)
              clear AW q9
              go_wp2_with fail
              go_ret
              exact ⟨rfl, QE⟩
end Go.Proofs.YtcifnfffoiiceaaDoor
