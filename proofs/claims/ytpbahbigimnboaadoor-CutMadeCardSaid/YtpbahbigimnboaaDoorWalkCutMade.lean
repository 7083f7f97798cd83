/-
  massiflaw4.CutMade: the walk.
-/
import Derived.Test.YtpbahbigimnboaaDoorMade
import Derived.Test.YtpbahbigimnboaaDoorCutJoins
import Derived.Test.YtpbahbigimnboaaDoorFour4
import Derived.Outline
namespace Go.Proofs.YtpbahbigimnboaaDoor
open Go.RowKit
set_option linter.unusedVariables false

/-- What stands at each loop's head. -/
structure MadeAt (B M pb : Nat) (vS : Value) (S : List (Nat × Nat)) (f : Nat → Nat) (w wr : World) : Prop where
  made : wr.ownsRow B 3 1 (.slice (some ⟨pb, 0, none⟩) M M) M (rowI M f)
  span : wr.ownsRow B 28 2 vS S.length (spotC S)
  apart : vS.ownBlock ≠ some pb
  below : Below B w wr
theorem MadeAt.keep {B M pb : Nat} {vS : Value} {S : List (Nat × Nat)} {f : Nat → Nat} {w wr w' : World} (h : MadeAt B M pb vS S f w wr) (hb : Below wr.heap.size wr w') (hB : B ≤ wr.heap.size) : MadeAt B M pb vS S f w w' :=
  ⟨own_below h.made hb, own_below h.span hb, h.apart, h.below.trans (hb.mono hB)⟩
theorem MadeAt.set {B M pb : Nat} {vS : Value} {S : List (Nat × Nat)} {f g : Nat → Nat} {w wr : World} (h : MadeAt B M pb vS S f w wr) (hB : B ≤ pb) {r c : Nat} (e : (rowI M f).set r (.int .i64 (c : Int)) = rowI M g) : MadeAt B M pb vS S g w (wr.setCell ⟨pb, r, none⟩ (.int .i64 (c : Int))) :=
  ⟨by rw [← e]; exact (h.made.stored r _).1, own_setOther h.span _ _ h.apart, h.apart, h.below.setCell hB _⟩
theorem MadeAt.turn {B M pb : Nat} {vS : Value} {S : List (Nat × Nat)} {f g : Nat → Nat} {w wr : World} (h : MadeAt B M pb vS S f w wr) (e : rowI M f = rowI M g) : MadeAt B M pb vS S g w wr := ⟨by rw [← e]; exact h.made, h.span, h.apart, h.below⟩

set_option maxHeartbeats 4000000 in
set_option maxRecDepth 20000 in
theorem walkCutMade (a0 a1 : Int) (w0 : (Lit.int .i64 a0).wf = true) (w1 : (Lit.int .i64 a1).wf = true) (w : World) (T : TabAt w) :
    Calls Tryd.prog 4 #[.int .i64 a0, .int .i64 a1] w fun e w' => e = .returned (.bool true) ∧ Below w.heap.size w w' := by
  by_cases h0 : a0 < 0
  · go_enter Tryd.func4, Tryd.ntmps4
    go_wp2
    go_ret
    exact ⟨rfl, Below.refl _ _⟩
  by_cases h1 : 300 < a0
  · go_enter Tryd.func4, Tryd.ntmps4
    go_wp2
    go_ret
    exact ⟨rfl, Below.refl _ _⟩
  by_cases h2 : a1 < 0
  · have p1 : 0 ≤ a0 := by omega
    have p2 : a0 ≤ 300 := by omega
    clear h0 h1
    go_enter Tryd.func4, Tryd.ntmps4
    go_wp2
    go_ret
    exact ⟨rfl, Below.refl _ _⟩
  by_cases h3 : 300 < a1
  · have p1 : 0 ≤ a0 := by omega
    have p2 : a0 ≤ 300 := by omega
    have p3 : 0 ≤ a1 := by omega
    clear h0 h1 h2
    go_enter Tryd.func4, Tryd.ntmps4
    go_wp2
    go_ret
    exact ⟨rfl, Below.refl _ _⟩
  obtain ⟨n, rfl⟩ : ∃ n : Nat, a0 = n := ⟨a0.toNat, by omega⟩
  obtain ⟨k, rfl⟩ : ∃ k : Nat, a1 = k := ⟨a1.toNat, by omega⟩
  obtain ⟨b, hb⟩ : ∃ b, n + k = b := ⟨_, rfl⟩
  have n3 : (n : Int) ≤ 300 := by omega
  have k3 : (k : Int) ≤ 300 := by omega
  have eb : (b : Int) = (n : Int) + (k : Int) := by omega
  have b6 : b ≤ 600 := by omega
  have nb : n ≤ b := by omega
  have NA := Nodes_yes (n := n) (by omega)
  have NB := Nodes_yes (n := b) (by omega)
  have CS := cutSpan_yes (a := n) (b := b) (by omega) (by omega)
  have CJ := cutJoins_yes (n := n) (k := k) (by omega)
  have PK := Peaks_yes (n := n) (by omega)
  rw [hb] at CJ
  rw [eb] at NB CS
  have sz : nodeN b ≤ 1200 := by unfold nodeN; omega
  have mono := nodeN_mono_le nb
  have few := joins_few nb (b := b) (by omega)
  have l124 := spanL_124 (a := n) (b := b) (by omega)
  have j63 : (joinsL n b).length ≤ 63 := joinF_len n b 63
  have pk64 : (peaksL n).length ≤ 63 := by unfold peaksL; exact peaksF_len 63 n
  have PL0 : ∀ s ∈ spanL n b, Right s.1 s.2 ∧ nodeN n ≤ baseN s.1 s.2 ∧ placeN s.1 s.2 < nodeN b ∧ baseN s.1 s.2 + (2 ^ (s.1 + 1) - 2) = placeN s.1 s.2 := fun s hs => span_places (by omega) (span_chain (by omega) nb) hs
  have PJ0 : ∀ s ∈ joinsL n b, Right s.1 s.2 ∧ nodeN n ≤ placeN s.1 s.2 ∧ placeN s.1 s.2 < nodeN b := fun s hs => join_right (by omega) hs
  have PR0 := join_rise (n := n) (b := b) (by omega)
  have ALL := fun q => tiles_all nb (b := b) (by omega) q
  generalize hN0 : nodeN n = N0 at *
  generalize hN1 : nodeN b = N1 at *
  generalize hS : spanL n b = S at *
  generalize hJ : joinsL n b = J at *
  generalize hPP : peaksL n = PP at *
  obtain ⟨M, hM⟩ : ∃ M, N1 - N0 = M := ⟨_, rfl⟩
  have PL := Lib.hid PL0
  have PJ := Lib.hid PJ0
  have PR := Lib.hid PR0
  have AL := Lib.hid ALL
  have TT := Lib.hid T
  generalize hB : w.heap.size = B at *
  have HB := Lib.hid hB
  have HM := Lib.hid hM
  have sub1 : (N1 : Int) - (N0 : Int) = (M : Int) := by omega
  have N0i : (N0 : Int) ≤ (N1 : Int) := by omega
  have N1i : (N1 : Int) ≤ 1200 := by omega
  have Mi : (M : Int) ≤ 1200 := by omega
  obtain ⟨i0, hi, hz0, hz1, hz2⟩ := info_parts info_int
  have d0 : decide ((n : Int) < 0) = false := decide_eq_false (by omega)
  have d1 : decide (300 < (n : Int)) = false := decide_eq_false (by omega)
  have d2 : decide ((k : Int) < 0) = false := decide_eq_false (by omega)
  have d3 : decide (300 < (k : Int)) = false := decide_eq_false (by omega)
  clear h0 h1 h2 h3 PL0 PJ0 PR0 ALL hN0 hN1 hS hJ T w0 w1 hB hPP hb eb nb hM
  go_enter Tryd.func4, Tryd.ntmps4
  go_wp2_with fail
  refine (NA _).mono ?_
  rintro e w' ⟨rfl, rfl⟩
  go_wp2_with fail
  refine (NB _).mono ?_
  rintro e w' ⟨rfl, rfl⟩
  go_wp2_with (at_make; refine wpList_make_full _ rfl (.tmp 54) (.tmp 54) 34 rfl B 3 i0 (.int .i64 0) 1 Tryd.underlying34 hi hz0 hz1 .u64 .u64 _ _ M rfl rfl rfl rfl ?b2 ?b3 ?b4 ?_; (case b2 => (rw [hz2]; omega)); (case b3 => (unfold maxLen; omega)); (case b4 => exact Nat.le_of_eq HB.out.symm); intro w1 hown hg)
  rw [rowI_made] at hown
  have q1 : Below B w w1 := ⟨hg.os, hg.tape, hg.output, hg.size, fun k hk => hg.block k (by have := HB.out; omega) (by simp)⟩
  rw [HB.out] at hown ⊢
  have q1' : Below w.heap.size w w1 := by rw [HB.out]; exact q1
  have z1 : B < w1.heap.size := by have := (hown.lt B rfl).2; exact this
  clear hg
  refine (CS _ (TT.out.below q1')).mono ?_
  rintro e w2 ⟨vS, rfl, ownS, q2⟩
  have z2 := q2.size
  have M0 : MadeAt B M B vS S (fun r => cntS (S.take 0) (r + N0)) w w2 := by
    refine ⟨own_below (by rw [show rowI M (fun r => cntS (S.take 0) (r + N0)) = rowI M (fun _ => 0) from rowI_congr fun r _ => rfl]; exact hown) q2, own_mono ownS (Nat.le_of_lt z1), fun e => ?_, q1.trans (q2.mono (Nat.le_of_lt z1))⟩
    have := (ownS.lt _ e).1
    omega
  clear hown q1 q1' ownS
  have MM0 := Lib.hid M0
  have zz : B < w2.heap.size := by omega
  clear M0 q2 z2 z1 CS
  obtain ⟨aS, cS, rfl, hsh⟩ := own_shape MM0.out.span
  clear hsh
  go_wp2
  go_loopw [11] (fun x wr => ∃ i : Nat, i ≤ S.length ∧ x = .int .i64 (i : Int) ∧ MadeAt B M B (.slice aS S.length cS) S (fun r => cntS (S.take i) (r + N0)) w wr ∧ B < wr.heap.size) (fun x _ => S.length - (intOf x).toNat)
  case atStart => exact ⟨0, Nat.zero_le _, rfl, MM0.out, zz⟩
  case round =>
    obtain ⟨i, hi2, rfl, MI, zr⟩ := hrel
    clear zz
    by_cases hlt : i < S.length
    · obtain ⟨⟨h, x⟩, hs⟩ : ∃ s, S[i]? = some s := ⟨S[i], List.getElem?_eq_getElem hlt⟩
      obtain ⟨rt, p1, p2, p3⟩ := PL.out _ (List.mem_of_getElem? hs)
      dsimp only at rt p1 p2 p3
      have FE := Lib.hid (show rowI M (fillF S i (baseN h x) (placeN h x + 1) N0) = rowI M (fun r => cntS (S.take (i + 1)) (r + N0)) from fill_end hs N0 M)
      have PY := Place_yes rt
      have h62 := rt.1
      unfold spotV at PY
      have il : (i : Int) < (S.length : Int) := by omega
      have sl : (S.length : Int) ≤ 124 := by omega
      obtain ⟨a, cap, e0, hsh⟩ := own_shape MI.span
      obtain ⟨g, e1, _, hg, _, cells⟩ := hsh (by omega)
      injection e0 with e2 e3 e4
      rw [e1] at e2
      subst e2 e4
      obtain ⟨t1, t2⟩ := spotC_get _ i _ hs
      have c1 := cells _ _ t1
      have c2 := cells _ _ t2
      rw [Nat.mul_comm] at c1 c2
      dsimp only at c1 c2
      generalize hlo : baseN h x = lo at *
      generalize hpp : placeN h x = pp at *
      have SH := shl2' (c := h) (by
        rcases Nat.lt_or_ge h 63 with k | k
        · exact k
        · omega)
      have t2p := two_le_pow h
      obtain ⟨u, hu⟩ : ∃ u, 2 ^ (h + 1) = u := ⟨_, rfl⟩
      rw [hu] at SH p3 t2p
      have ui : (u : Int) ≤ 1300 := by omega
      have ul : (2 : Int) ≤ (u : Int) := by omega
      have ppi : (pp : Int) ≤ 1200 := by omega
      have nle : decide (N1 ≤ pp) = false := decide_eq_false (by omega)
      have u1i : (u : Int) - 1 ≤ (pp : Int) + 1 := by omega
      have lpi : (lo : Int) = (pp : Int) + 1 - ((u : Int) - 1) := by omega
      have pN1 : (pp : Int) < (N1 : Int) := by omega
      have LP := Lib.hid lpi
      have lb1 : (N0 : Int) ≤ (lo : Int) := by omega
      have MIX := Lib.hid MI
      have h62i : (h : Int) ≤ 62 := by omega
      clear MI hs rt cells t1 t2 hsh e1 hu t2p h62 lpi
      go_wp2_with fail
      refine (PY _).mono ?_
      rintro e w3 ⟨rfl, q3⟩
      have MI3 := Lib.hid (MIX.out.keep q3 (Nat.le_of_lt zr))
      have zr3 : B < w3.heap.size := Nat.lt_of_lt_of_le zr q3.size
      have hg3 : g < w3.heap.size := Nat.lt_of_lt_of_le hg q3.size
      have c13 : w3.cell? ⟨g, i * 2, none⟩ = some (.int .u8 (h : Int)) := by rw [← c1]; exact q3.cell (p := ⟨g, i * 2, none⟩) hg
      have c23 : w3.cell? ⟨g, i * 2 + 1, none⟩ = some (.int .u64 (x : Int)) := by rw [← c2]; exact q3.cell (p := ⟨g, i * 2 + 1, none⟩) hg
      clear c1 c2 MIX q3 hg zr
      go_wp2
      go_loopw [15] (fun y wr => ∃ q : Nat, lo ≤ q ∧ q ≤ pp + 1 ∧ y = .int .u64 (q : Int) ∧ MadeAt B M B (.slice (some ⟨g, 0, none⟩) S.length cS) S (fillF S i lo q N0) w wr ∧ B < wr.heap.size) (fun y _ => pp + 1 - (intOf y).toNat)
      case atStart => exact ⟨lo, Nat.le_refl _, by omega, by rw [LP.out], MI3.out.turn (fill_start S i lo N0 M), zr3⟩
      case round =>
        obtain ⟨q, hq1, hq2, rfl, MQ, zq⟩ := hrel
        by_cases hqp : q ≤ pp
        · have qi1 : (q : Int) ≤ (pp : Int) := by omega
          have qi2 : (N0 : Int) ≤ (q : Int) := by omega
          have qd : decide ((q : Int) < (N0 : Int)) = false := decide_eq_false (by omega)
          obtain ⟨r, hr⟩ : ∃ r, q - N0 = r := ⟨_, rfl⟩
          have rM : r < M := by have := HM.out; omega
          have rs : (q : Int) - (N0 : Int) = (r : Int) := by omega
          have ri : (r : Int) < (M : Int) := by omega
          have cl := row_cellI MQ.made (rowI_get M _ rM)
          have cb : fillF S i lo q N0 r ≤ 125 := by
            unfold fillF
            have := cntS_le (S.take i) (r + N0)
            rw [List.length_take] at this
            split <;> omega
          have fz := MQ.made.frozenAt r
          have NX := Lib.hid (MQ.set (Nat.le_refl _) (fill_step S i lo q N0 M (by omega) hq1))
          rw [hr] at NX
          generalize hc : fillF S i lo q N0 r = c at *
          have ci : (c : Int) ≤ 125 := by omega
          clear MQ hc hr
          go_wp2
          go_roundw
          case rel => exact ⟨q + 1, by omega, by omega, by go_num, NX.out, by simpa using zq⟩
          case measure => simp [intOf]; omega
        · obtain rfl : q = pp + 1 := by omega
          have qd : (pp : Int) < ((pp + 1 : Nat) : Int) := by omega
          have MN := Lib.hid (MQ.turn FE.out)
          clear MQ MI3
          go_wp2
          go_roundw
          case rel =>
            exact ⟨i + 1, by omega, by go_num, MN.out, zq⟩
          case measure => simp [intOf]; omega
    · obtain rfl : i = S.length := by omega
      have MJ := MI.turn (join_start S J N0 M)
      have TJ : TabAt wr := TT.out.below (by rw [HB.out]; exact MI.below)
      have HMJ := Lib.hid MJ
      clear MI MJ MM0
      go_wp2_with fail
      refine (CJ _ TJ).mono ?_
      rintro e w3 ⟨vJ, rfl, ownJ, q3⟩
      have MJ3 := HMJ.out.keep q3 (Nat.le_of_lt zr)
      have zr3 : B < w3.heap.size := Nat.lt_of_lt_of_le zr q3.size
      have JB : ∀ c, vJ.ownBlock = some c → B < c := fun c hc => by have := (ownJ.lt c hc).1; omega
      have JO : w3.ownsRow B 28 2 vJ J.length (spotC J) := own_mono ownJ (Nat.le_of_lt zr)
      clear ownJ q3 zr TJ
      obtain ⟨aJ, cJ, rfl, hsh⟩ := own_shape JO
      clear hsh
      have RJ := Lib.hid (And.intro MJ3 JO)
      clear MJ3 JO
      go_wp2
      go_loopw [17, 18] (fun l x wr => ∃ (i la : Nat), i ≤ J.length ∧ x = .int .i64 (i : Int) ∧ l = .int .u64 (la : Int) ∧ (∀ t, 0 < i → J[i - 1]? = some t → la = placeN t.1 t.2) ∧ la ≤ 1200 ∧ MadeAt B M B (.slice aS S.length cS) S (joinC S J i N0) w wr ∧ wr.ownsRow B 28 2 (.slice aJ J.length cJ) J.length (spotC J) ∧ B < wr.heap.size) (fun _ x _ => J.length - (intOf x).toNat)
      case atStart => exact ⟨0, 0, Nat.zero_le _, rfl, rfl, fun t h => by omega, by omega, RJ.out.1, RJ.out.2, zr3⟩
      case round =>
        obtain ⟨i, la, hi2, rfl, rfl, hla, la12, MI, JO, zr⟩ := hrel
        clear zr3
        by_cases hlt : i < J.length
        · obtain ⟨⟨h, x⟩, hs⟩ : ∃ s, J[i]? = some s := ⟨J[i], List.getElem?_eq_getElem hlt⟩
          obtain ⟨rt, p1, p2⟩ := PJ.out _ (List.mem_of_getElem? hs)
          dsimp only at rt p1 p2
          have rise : 0 < i → la < placeN h x := fun h0 => by
            obtain ⟨t, ht⟩ : ∃ t, J[i - 1]? = some t := ⟨J[i - 1]'(by omega), List.getElem?_eq_getElem _⟩
            rw [hla t h0 ht]
            have := List.pairwise_iff_getElem.1 PR.out (i - 1) i (by omega) hlt (by omega)
            rw [List.getElem?_eq_getElem hlt] at hs
            rw [List.getElem?_eq_getElem (by omega)] at ht
            rw [Option.some.inj hs, Option.some.inj ht] at this
            exact this
          have NXT := Lib.hid (show ∀ t, 0 < i + 1 → J[i + 1 - 1]? = some t → placeN h x = placeN t.1 t.2 from fun t _ ht => by
            rw [Nat.add_sub_cancel, hs] at ht
            rw [← Option.some.inj ht])
          have PY := Place_yes rt
          unfold spotV at PY
          have il : (i : Int) < (J.length : Int) := by omega
          have sl : (J.length : Int) ≤ 63 := by omega
          obtain ⟨a, cap, e0, hsh⟩ := own_shape JO
          obtain ⟨g, e1, _, hg, _, cells⟩ := hsh (by omega)
          injection e0 with e2 e3 e4
          rw [e1] at e2
          subst e2 e4
          obtain ⟨t1, t2⟩ := spotC_get _ i _ hs
          have c1 := cells _ _ t1
          have c2 := cells _ _ t2
          rw [Nat.mul_comm] at c1 c2
          dsimp only at c1 c2
          have STP := Lib.hid (show (rowI M (joinC S J i N0)).set (placeN h x - N0) (.int .i64 ((joinC S J i N0 (placeN h x - N0) + 1 : Nat) : Int)) = rowI M (joinC S J (i + 1) N0) from join_step hs N0 M p1)
          obtain ⟨r, hr⟩ : ∃ r, placeN h x - N0 = r := ⟨_, rfl⟩
          rw [hr] at STP
          generalize hpp : placeN h x = pp at *
          have rM : r < M := by have := HM.out; omega
          have rs : (pp : Int) - (N0 : Int) = (r : Int) := by omega
          have ri : (r : Int) < (M : Int) := by omega
          have pN0 : (N0 : Int) ≤ (pp : Int) := by omega
          have pN1 : (pp : Int) < (N1 : Int) := by omega
          have d4 : decide ((pp : Int) < (N0 : Int)) = false := decide_eq_false (by omega)
          have d5 : decide (pp < N0) = false := decide_eq_false (by omega)
          have d6 : decide (N1 ≤ pp) = false := decide_eq_false (by omega)
          have p12 : pp ≤ 1200 := by omega
          have cb : joinC S J i N0 r ≤ 200 := by
            unfold joinC
            have a1 := cntS_le S (r + N0)
            have a2 := cntJ_le (J.take i) (r + N0)
            rw [List.length_take] at a2
            omega
          have HMI := Lib.hid (And.intro MI JO)
          clear MI JO hla hs t1 t2 cells hsh hr
          by_cases h0 : 0 < i
          all_goals
            first
              | (have i0 : (0 : Int) < (i : Int) := by omega
                 have d7 : decide ((pp : Int) ≤ (la : Int)) = false := decide_eq_false (by have := rise h0; omega)
                 have d8 : decide (pp ≤ la) = false := decide_eq_false (by have := rise h0; omega)
                 have d9 : (la : Int) < (pp : Int) := by have := rise h0; omega)
              | (obtain rfl : i = 0 := by omega
                 have i0 : (0 : Int) ≤ 0 := by omega)
            clear rise
            go_wp2_with fail
            refine (PY _).mono ?_
            rintro e w4 ⟨rfl, q4⟩
            have MI4 := HMI.out.1.keep q4 (Nat.le_of_lt zr)
            have JO4 := own_below HMI.out.2 q4
            have zr4 : B < w4.heap.size := Nat.lt_of_lt_of_le zr q4.size
            have cl := row_cellI MI4.made (rowI_get M _ rM)
            have fz := MI4.made.frozenAt r
            have NX := Lib.hid (MI4.set (Nat.le_refl _) STP.out)
            have JO5 := Lib.hid (fun u => own_setOther JO4 ⟨B, r, none⟩ u (fun e => by have := JB _ e; exact absurd this (Nat.lt_irrefl _)))
            clear MI4 JO4 q4
            generalize hc : joinC S J _ N0 r = c at *
            have ci : (c : Int) ≤ 200 := by omega
            clear hc
            go_wp2
            go_roundw
            case rel => exact ⟨_ + 1, pp, by omega, by go_num, rfl, NXT.out, p12, NX.out, JO5.out _, by simpa using zr4⟩
            case measure => simp [intOf]; omega
        · obtain rfl : i = J.length := by omega
          have CC := Lib.hid (show ∀ r, r < M → wr.cell? ⟨B, r, none⟩ = some (.int .i64 1) from fun r hr => by
            have := row_cellI MI.made (rowI_get M _ hr)
            rw [this]
            unfold joinC
            have h1 := AL.out (r + N0)
            have h2 := HM.out
            rw [if_pos (by omega)] at h1
            rw [List.take_length, h1]
            rfl)
          have bel := MI.below
          clear MI JO hla
          go_wp2
          go_loopw [21] (fun x wr' => ∃ j : Nat, j ≤ M ∧ x = .int .i64 (j : Int) ∧ wr' = wr) (fun x _ => M - (intOf x).toNat)
          case atStart => exact ⟨0, Nat.zero_le _, rfl, rfl⟩
          case round =>
            obtain ⟨j, hj, rfl, rfl⟩ := hrel
            by_cases hjM : j < M
            · have cj := CC.out j hjM
              have ji : (j : Int) < (M : Int) := by omega
              go_wp2
              go_roundw
              case rel => exact ⟨j + 1, by omega, by go_num, by trivial⟩
              case measure => simp [intOf]; omega
            · obtain rfl : j = M := by omega
              have TW : TabAt wr := TT.out.below (by rw [HB.out]; exact bel)
              have f1 : (J.length : Int) ≤ (S.length : Int) + (PP.length : Int) := by omega
              have f2 : (S.length : Int) ≤ 124 := by omega
              have f4 : (PP.length : Int) ≤ 63 := by omega
              go_wp2_with fail
              refine (PK _).mono ?_
              rintro e w5 ⟨v5, rfl, own5, q5⟩
              obtain ⟨a5, c5, rfl, _⟩ := own_shape own5
              have TW5 := TW.below q5
              clear own5
              go_wp2_with fail
              refine (awake4_any _ TW5).mono ?_
              rintro e w6 ⟨rfl, q6⟩
              go_wp2
              go_ret
              exact ⟨rfl, bel.trans ((q5.trans (q6.mono q5.size)).mono (Nat.le_of_lt zr))⟩
end Go.Proofs.YtpbahbigimnboaaDoor
