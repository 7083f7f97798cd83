/-
  The walk of massifref4.Merge.
-/
import Derived.Test.YtpbahbigimnboaaDoorMerge
import Derived.Test.YtpbahbigimnboaaDoorRow4
import Derived.Outline
namespace Go.Proofs.YtpbahbigimnboaaDoor
open Go.RowKit
set_option linter.unusedVariables false

theorem split_two {L : List (Nat × Nat)} {i : Nat} {s t : Nat × Nat} (h1 : L[i]? = some s) (h2 : L[i + 1]? = some t) : L = L.take i ++ s :: t :: L.drop (i + 2) := by
  have a1 : i < L.length := (List.getElem?_eq_some_iff.1 h1).1
  have a2 : i + 1 < L.length := (List.getElem?_eq_some_iff.1 h2).1
  conv => lhs; rw [← List.take_append_drop i L, List.drop_eq_getElem_cons a1, List.drop_eq_getElem_cons a2]
  rw [List.getElem?_eq_getElem a1] at h1
  rw [List.getElem?_eq_getElem a2] at h2
  rw [Option.some.inj h1, Option.some.inj h2]
theorem join_chain {L : List (Nat × Nat)} {i a b : Nat} {s t : Nat × Nat} (h1 : L[i]? = some s) (h2 : L[i + 1]? = some t) (hs : Sib s t) (c : Chain a b L) : Chain a b (L.take i ++ [upS s] ++ L.drop (i + 2)) := by
  rw [split_two h1 h2, chain_append] at c
  obtain ⟨x, c1, rs, es, rt, et, c2⟩ := c
  obtain ⟨u1, u2, u3⟩ := sib_up hs rs rt
  rw [List.append_assoc, chain_append]
  exact ⟨x, c1, u1, by rw [u2, es], by rw [u3]; exact c2⟩
theorem calm_of : ∀ (L : List (Nat × Nat)), (∀ (j : Nat) (s t : Nat × Nat), L[j]? = some s → L[j + 1]? = some t → ¬ Sib s t) → Calm L
  | [], _ => trivial
  | [x], _ => trivial
  | x :: y :: l, h => ⟨h 0 x y rfl rfl, calm_of (y :: l) fun j s t h1 h2 => h (j + 1) s t h1 h2⟩
/-- Parts of a list that lies in a row of its own. -/
theorem spots_take {w : World} {g n cap i : Nat} {L : List (Nat × Nat)} (h : SpotsOf w (.slice (some ⟨g, 0, none⟩) n cap) L) (hi : i ≤ L.length) : SpotsOf w (.slice (some ⟨g, 0, none⟩) i cap) (L.take i) := by
  obtain ⟨a, c, hv, h1, h2, h0, h3⟩ := h
  injection hv with e1 e2 e3
  subst e1 e2 e3
  have hl : (L.take i).length = i := by rw [List.length_take]; omega
  refine ⟨some ⟨g, 0, none⟩, cap, by rw [hl], by rw [hl]; omega, h2, h0, ?_⟩
  rcases h3 with rfl | ⟨b, off, ha, hc⟩
  · left; simp
  · right
    refine ⟨b, off, ha, fun j x hj => hc j x ?_⟩
    rw [List.getElem?_take] at hj
    split at hj
    · exact hj
    · cases hj
theorem spots_drop {w : World} {g n cap k : Nat} {L : List (Nat × Nat)} (h : SpotsOf w (.slice (some ⟨g, 0, none⟩) n cap) L) (hi : k ≤ L.length) : SpotsOf w (.slice (some ⟨g, k * 2, none⟩) (n - k) (cap - k)) (L.drop k) := by
  obtain ⟨a, c, hv, h1, h2, h0, h3⟩ := h
  injection hv with e1 e2 e3
  subst e1 e2 e3
  have hl : (L.drop k).length = L.length - k := List.length_drop
  refine ⟨some ⟨g, k * 2, none⟩, cap - k, by rw [hl], by rw [hl]; omega, by omega, (fun e => by cases e), ?_⟩
  rcases h3 with rfl | ⟨b, off, ha, hc⟩
  · left; simp
  · right
    injection ha with ha
    injection ha with e1 e2
    subst e1 e2
    refine ⟨g, k * 2, rfl, fun j x hj => ?_⟩
    rw [List.getElem?_drop] at hj
    obtain ⟨c1, c2⟩ := hc _ _ hj
    rw [show 0 + (k + j) * 2 = k * 2 + j * 2 by rw [Nat.add_mul]; omega] at c1 c2
    exact ⟨c1, c2⟩
theorem spots_none {w : World} {g : Nat} : SpotsOf w (.slice (some ⟨g, 0, none⟩) 0 0) [] := ⟨some ⟨g, 0, none⟩, 0, rfl, Nat.le_refl _, Nat.zero_le _, (fun e => by cases e), .inl rfl⟩
theorem spots_one (w : World) (h k : Nat) : SpotsOf (w.alloc (.cells #[.int .u8 (h : Int), .int .u64 (k : Int)] 28 (0, 0))) (.slice (some ⟨w.heap.size, 0, none⟩) 1 1) [(h, k)] := by
  refine ⟨some ⟨w.heap.size, 0, none⟩, 1, rfl, Nat.le_refl _, by unfold maxLen; omega, (fun e => by cases e), .inr ⟨w.heap.size, 0, rfl, fun j x hj => ?_⟩⟩
  cases j with
  | zero =>
    have e : (h, k) = x := Option.some.inj hj
    subst e
    rw [cell_of_row _ _ _ _ _ _ (heap_alloc_new _ _), cell_of_row _ _ _ _ _ _ (heap_alloc_new _ _)]
    exact ⟨rfl, rfl⟩
  | succ j => simp at hj
theorem spots_grown {w w' : World} {R : Option Nat} {g off n cap : Nat} {l : List (Nat × Nat)} (h : SpotsOf w (.slice (some ⟨g, off, none⟩) n cap) l) (hg : w.grownBy w' R) (hne : R ≠ some g) : SpotsOf w' (.slice (some ⟨g, off, none⟩) n cap) l := by
  obtain ⟨a, c, hv, h1, h2, h0, h3⟩ := h
  refine ⟨a, c, hv, h1, h2, h0, h3.imp id ?_⟩
  rintro ⟨b, o, ha, hc⟩
  refine ⟨b, o, ha, fun j x hj => ?_⟩
  injection hv with e1 e2 e3
  subst e1
  injection ha with ha
  injection ha with e1 e2
  subst e1 e2
  obtain ⟨c1, c2⟩ := hc j x hj
  exact ⟨hg.cell c1 (fun e => hne e.symm), hg.cell c2 (fun e => hne e.symm)⟩
theorem box_far {wd w5 : World} {o : Obj} {R : Option Nat} {d f : Nat} {v : Value} (h : wd.cell? ⟨d, f, none⟩ = some v) (hg : (wd.alloc o).grownBy w5 R) (hr : ∀ c, R = some c → d < c) : w5.cell? ⟨d, f, none⟩ = some v :=
  hg.cell ((World.grownBy_alloc wd o none).cell h (by simp)) (fun e => by have := hr d e.symm; omega)
theorem size_grown {wd w5 : World} {o : Obj} {R : Option Nat} (hg : (wd.alloc o).grownBy w5 R) : wd.heap.size + 1 ≤ w5.heap.size := by
  have := hg.size
  simpa using this
theorem SPD6 {wd w5 w6 : World} {o o' : Obj} {g k n cap m : Nat} {v5 : Value} {xs : List Value} {l : List (Nat × Nat)} (h : SpotsOf wd (.slice (some ⟨g, k, none⟩) n cap) l) (hg5 : (wd.alloc o).grownBy w5 (Value.slice (some ⟨wd.heap.size, 0, none⟩) 0 0).ownBlock) (hg6 : (w5.alloc o').grownBy w6 v5.ownBlock)
    (own5 : w5.ownsRow wd.heap.size 28 2 v5 m xs) (hgd : g < wd.heap.size) : SpotsOf w6 (.slice (some ⟨g, k, none⟩) n cap) l :=
  spots_grown ((spots_grown (h.below ((Below.refl _ _).alloc (Nat.le_refl _) o)) hg5 (fun e => by have : wd.heap.size = g := Option.some.inj e; omega)).below ((Below.refl _ _).alloc (Nat.le_refl _) o')) hg6 (fun e => by have := (own5.lt _ e).1; omega)
theorem rm_own {w : World} {B Z : Nat} {v : Value} {u : Nat × Nat} {T D : List (Nat × Nat)} (h : w.ownsRow Z 28 2 v (0 + T.length + [u].length + D.length) (spotC [] ++ spotC T ++ spotC [u] ++ spotC D)) (hZ : B ≤ Z) :
    w.ownsRow B 28 2 v (T ++ [u] ++ D).length (spotC (T ++ [u] ++ D)) := by
  have e : (T ++ [u] ++ D).length = 0 + T.length + [u].length + D.length := by simp; omega
  rw [e, spotC_append, spotC_append]
  exact own_mono h hZ
theorem rm_below {wd w5 w6 w7 : World} {o o' : Obj} {v5 v6 : Value} {m m' : Nat} {xs xs' : List Value} (hg5 : (wd.alloc o).grownBy w5 (Value.slice (some ⟨wd.heap.size, 0, none⟩) 0 0).ownBlock) (hg6 : (w5.alloc o').grownBy w6 v5.ownBlock) (hg7 : w6.grownBy w7 v6.ownBlock)
    (own5 : w5.ownsRow wd.heap.size 28 2 v5 m xs) (own6 : w6.ownsRow wd.heap.size 28 2 v6 m' xs') : Below wd.heap.size wd w7 := by
  have z5 := size_grown hg5
  have z6 := size_grown hg6
  have b5 := ((Below.refl wd.heap.size wd).alloc (Nat.le_refl _) o).grown hg5 (by simp) (fun c hc => Nat.le_of_eq (Option.some.inj hc))
  have b6 := (b5.alloc (by omega) o').grown hg6 (by simp; omega) (fun c hc => (own5.lt c hc).1)
  exact b6.grown hg7 (by omega) (fun c hc => (own6.lt c hc).1)
theorem rm_shape {w : World} {B : Nat} {v : Value} {n : Nat} {xs : List Value} (h : w.ownsRow B 28 2 v n xs) : ∃ a c N, Hid (N = n) ∧ v = .slice a N c := by
  obtain ⟨a, c, e, _⟩ := own_shape h
  exact ⟨a, c, n, Lib.hid rfl, e⟩
def RmRel (x y N B : Nat) (w : World) (v a : Value) (wr : World) : Prop :=
  ∃ (L : List (Nat × Nat)) (c : Bool), a = .bool c ∧ Chain x y L ∧ L ≠ [] ∧ L.length ≤ N ∧ (c = false → Calm L) ∧ wr.ownsRow B 28 2 v L.length (spotC L) ∧ Below B w wr
def lenV : Value → Nat
  | .slice _ n _ => n
  | _ => 0
def bitV : Value → Nat
  | .bool true => 1
  | _ => 0
set_option maxHeartbeats 4000000 in
theorem refMerge_any {l : List (Nat × Nat)} {v : Value} (w : World) (hv : SpotsOf w v l) (sm : Small l) (hl : l.length ≤ 2000) :
    Calls Tryd.prog 21 #[v] w fun e w' => ∃ v', e = .returned (.tuple #[v', .bool (mergeOk l)]) ∧ w'.ownsRow w.heap.size 28 2 v' (mergeV l).length (spotC (mergeV l)) ∧ Below w.heap.size w w' := by
  have OV := refOver_any w hv sm (by omega)
  have HV := Lib.hid hv
  obtain ⟨a, ca, rfl, a1, a2, a3, a4⟩ := hv.form
  have li : (l.length : Int) ≤ 2000 := by omega
  generalize hB : w.heap.size = B at *
  have HB := Lib.hid hB
  clear a3 a4 a2 a1 sm hv hB
  by_cases hn : l = []
  · subst hn
    rw [merge_nil.1, merge_nil.2]
    clear OV
    go_enter Tryd.func21, Tryd.ntmps21
    go_wp2
    go_ret2
    exact ⟨_, rfl, World.ownsRow_nil _ _ _ _, Below.refl _ _⟩
  have lp : 0 < l.length := List.length_pos_iff.2 hn
  have lpi : (0 : Int) < (l.length : Int) := by omega
  have lz : ((l.length : Int) == 0) = false := by rw [beq_eq_false_iff_ne]; omega
  cases ho : overL l with
  | none =>
    rw [overV_none ho] at OV
    have MN := Lib.hid (merge_none hn ho)
    clear hn ho
    go_enter Tryd.func21, Tryd.ntmps21
    go_wp2_with fail
    refine OV.mono ?_
    rintro e w1 ⟨rfl, q1⟩
    go_wp2
    go_ret2
    rw [MN.out.1, MN.out.2]
    exact ⟨_, rfl, World.ownsRow_nil _ _ _ _, q1⟩
  | some ab =>
    obtain ⟨x, y⟩ := ab
    rw [overV_some ho] at OV
    have MS := Lib.hid (merge_some ho)
    have top := over_top ho
    have CH := Lib.hid (overL_chain.1 ho).2
    have HN := Lib.hid hn
    clear ho hn
    go_enter Tryd.func21, Tryd.ntmps21
    go_wp2_with fail
    refine OV.mono ?_
    rintro e w1 ⟨rfl, q1⟩
    have q1' : Below w.heap.size w w1 := by rw [HB.out]; exact q1
    have hB1 : B ≤ w1.heap.size := by rw [← HB.out]; exact q1.size
    have own0 := own_made0 hB1
    have sp1 : SpotsOf (w1.alloc (.cells #[] 28 (0, 0))) (.slice a l.length ca) l := (HV.out.below q1').below ((Below.refl _ _).alloc (Nat.le_refl _) _)
    go_wp2_with (at_builtin; refine app_spots (.tmp 24) (.tmp 25) rfl rfl B _ 0 _ rfl own0 _ l rfl sp1 (by omega) (by simp; omega) ?_; intro v2 w2 own2 hg2 _)
    have b2 : Below B w w2 := (q1.alloc hB1 _).grown hg2 (by simp; omega) (fun c hc => (own0.lt c hc).1)
    rw [Nat.zero_add] at own2
    have OW2 := Lib.hid (show w2.ownsRow B 28 2 v2 l.length (spotC l) from own2)
    clear own2 hg2 sp1 own0 q1' q1 OV
    go_loopw [7, 8] (fun v a wr => RmRel x y l.length B w v a wr) (fun v a _ => 2 * lenV v + bitV a)
    case atStart => exact ⟨l, true, rfl, CH.out, HN.out, Nat.le_refl _, (fun e => by cases e), OW2.out, b2⟩
    case round =>
      obtain ⟨L, c, rfl, ch, hne, hN, hcalm, own, hbel⟩ := hrel
      have hBw : B ≤ wr.heap.size := by rw [← HB.out]; exact hbel.size
      clear b2
      cases c with
      | false =>
        have e : L = mergeV l := by rw [MS.out.1]; exact calm_span _ _ _ top ch (hcalm rfl)
        have OWN := Lib.hid (show wr.ownsRow B 28 2 u7 (mergeV l).length (spotC (mergeV l)) by rw [← e]; exact own)
        clear e hcalm ch own
        go_wp2
        go_ret2
        rw [MS.out.2]
        exact ⟨_, rfl, OWN.out, hbel⟩
      | true =>
        clear hcalm
        have L0 : 0 < L.length := List.length_pos_iff.2 hne
        obtain ⟨aL, cap, rfl, hsh⟩ := own_shape own
        obtain ⟨g, rfl, hgB, hg, hcap, cells⟩ := hsh L0
        have Li : (L.length : Int) ≤ 2000 := by omega
        have CC := Lib.hid cells
        have CHL := Lib.hid ch
        have HNE := Lib.hid hne
        have OWL := Lib.hid own
        have HBEL := Lib.hid hbel
        obtain ⟨wo, rfl⟩ : ∃ wo : World, wo = wr := ⟨_, rfl⟩
        clear cells hsh ch own hne hbel
        go_wp2
        go_loopw [7, 8, 9] (fun v a x wr => ∃ i : Nat, i < L.length ∧ v = .slice (some ⟨g, 0, none⟩) L.length cap ∧ a = .bool false ∧ x = .int .i64 (i : Int) ∧ Below wo.heap.size wo wr ∧ (∀ (j : Nat) (s t : Nat × Nat), j < i → L[j]? = some s → L[j + 1]? = some t → ¬ Sib s t)) (fun _ _ x _ => L.length - (intOf x).toNat)
        case atStart => exact ⟨0, L0, rfl, rfl, rfl, Below.refl _ _, fun j s t h => by omega⟩
        case round =>
          obtain ⟨i, hi, rfl, rfl, rfl, hb2, hno⟩ := hrel
          have hwr := hb2.size
          by_cases hlast : i + 1 < L.length
          · obtain ⟨⟨p, q⟩, h1⟩ : ∃ s, L[i]? = some s := ⟨L[i], List.getElem?_eq_getElem hi⟩
            obtain ⟨⟨x2, y2⟩, h2⟩ : ∃ s, L[i + 1]? = some s := ⟨L[i + 1], List.getElem?_eq_getElem hlast⟩
            have r1 := chain_right _ _ _ CHL.out _ (List.mem_of_getElem? h1)
            have r2 := chain_right _ _ _ CHL.out _ (List.mem_of_getElem? h2)
            have p62 : p ≤ 62 := r1.1
            have x62 : x2 ≤ 62 := r2.1
            have qk : q ≤ 4611686018427387904 := Nat.le_of_lt (right_k r1)
            have yk : y2 ≤ 4611686018427387904 := Nat.le_of_lt (right_k r2)
            obtain ⟨t1, t2⟩ := spotC_get _ i _ h1
            obtain ⟨t3, t4⟩ := spotC_get _ (i + 1) _ h2
            have cell : ∀ (j : Nat) (u : Value), (spotC L)[j]? = some u → wr.cell? ⟨g, j, none⟩ = some u := fun j u hj => by rw [hb2.cell (p := ⟨g, j, none⟩) hg]; exact CC.out j u hj
            have c1 := cell _ _ t1
            have c2 := cell _ _ t2
            have c3 := cell _ _ t3
            have c4 := cell _ _ t4
            rw [Nat.mul_comm] at c1 c2 c3 c4
            dsimp only at c1 c2 c3 c4
            have ii : (i : Int) + 1 < (L.length : Int) := by omega
            have ii2 : (i : Int) < (L.length : Int) := by omega
            obtain ⟨k1, hk1⟩ : ∃ k1, i + 1 = k1 := ⟨_, rfl⟩
            rw [hk1] at c3 c4
            have ek : (i : Int) + 1 = (k1 : Int) := by omega
            have kb : (k1 : Int) < (L.length : Int) := by omega
            have i4 : i ≤ 4000 := by omega
            have k4 : k1 ≤ 4000 := by omega
            have hgw : g < wr.heap.size := Nat.lt_of_lt_of_le hg hwr
            have H1 := Lib.hid h1
            have H2 := Lib.hid h2
            have HK1 := Lib.hid hk1
            have HNO := Lib.hid hno
            clear h1 h2 r1 r2 t1 t2 t3 t4 cell hk1 hno
            obtain ⟨wk1, wki1⟩ := put_w k1 k4
            obtain ⟨wk, wki⟩ := put_w i i4
            go_wp2
            go_cut [10, 11] (fun s8 s9 wx => Boxes wr (.int .u8 (p : Int)) (.int .u64 (q : Int)) (.int .u8 (x2 : Int)) (.int .u64 (y2 : Int)) s8 s9 wx)
            case first =>
              go_region
              all_goals
                go_wp2_with fail
                go_meet
                first | exact boxes_a _ _ _ _ _ _ | exact boxes_b _ _ _ _ _ _
            case rest =>
              clear wk wki wk1 wki1
              generalize wc = wd at *
              obtain ⟨d1, d2, rfl, rfl, f1, f2, f3, f4, l1, l2, hb⟩ := hcut
              clear c1 c2 c3 c4
              by_cases SB : Sib (p, q) (x2, y2)
              · have SBH := Lib.hid SB
                obtain ⟨s1, s2, s3⟩ := SB
                dsimp only at s1 s2 s3
                subst s1
                have e2 : (q : Int) % 2 = 0 := by omega
                have e3 : ((y2 : Int) == (q : Int) + 1) = true := by rw [beq_iff_eq]; omega
                have wq : IntKind.u64.wrap ((q : Int) + 1) = (q : Int) + 1 := by rw [wrap_u64]; omega
                have p1 : IntKind.u8.wrap ((p : Int) + 1) = ((p + 1 : Nat) : Int) := by
                  simp [IntKind.wrap, IntKind.bits, IntKind.signed]
                  omega
                obtain ⟨h, hh⟩ : ∃ h, q / 2 = h := ⟨_, rfl⟩
                have dq : (q : Int) / 2 = (h : Int) := by omega
                have JC := Lib.hid (join_chain H1.out H2.out SBH.out CHL.out)
                have up : upS (p, q) = (p + 1, h) := by unfold upS; rw [← hh]
                rw [up] at JC
                have own9 := own_below (own_below OWL.out hb2) hb
                have sp := SpotsOf.of_own own9
                have tl : (L.take i).length = i := by rw [List.length_take]; omega
                have dl : (L.drop (i + 2)).length = L.length - (i + 2) := List.length_drop
                have spT := spots_take sp (Nat.le_of_lt hi)
                have spD := spots_drop sp (show i + 2 ≤ L.length by omega)
                have hgd : g < wd.heap.size := Nat.lt_of_lt_of_le hgw hb.size
                obtain ⟨k2, hk2⟩ : ∃ k2, i + 2 = k2 := ⟨_, rfl⟩
                rw [hk2] at spD dl JC
                have ek2 : (i : Int) + 2 = (k2 : Int) := by omega
                have k2l : (k2 : Int) ≤ (L.length : Int) := by omega
                have k2c : (k2 : Int) ≤ (cap : Int) := by omega
                have k2l' : k2 ≤ L.length := by omega
                have k2c' : k2 ≤ cap := by omega
                have ic : (i : Int) ≤ (cap : Int) := by omega
                have ic' : i ≤ cap := by omega
                have lc : (L.length : Int) ≤ (cap : Int) := by omega
                have SPT := Lib.hid spT
                have SPD := Lib.hid spD
                have SPE := Lib.hid (show cap = k2 → SpotsOf wd (.slice (some ⟨g, 0, none⟩) 0 0) (L.drop k2) from fun e => by
                  rw [List.drop_eq_nil_of_le (by omega)]
                  exact spots_none)
                have TL := Lib.hid tl
                have DL := Lib.hid dl
                have HDB := Lib.hid hb
                clear s2 s3 hh up own9 sp spT spD tl dl hk2
                have own0 := own_made0 (w := wd) (B := wd.heap.size) (Nat.le_refl _)
                have len1 : 0 + (L.take i).length ≤ 8796093022208 := by rw [TL.out]; omega
                have hs1 : wd.heap.size ≤ (wd.alloc (.cells #[] 28 (0, 0))).heap.size := by simp
                have spT1 := SPT.out.below (show Below wd.heap.size wd (wd.alloc (.cells #[] 28 (0, 0))) from (Below.refl _ _).alloc (Nat.le_refl _) _)
                have LEN1 := Lib.hid len1
                have HS1 := Lib.hid hs1
                have SPT1 := Lib.hid spT1
                have OWN0 := Lib.hid own0
                clear len1 hs1 spT1 own0
                by_cases kc : cap = k2
                · subst kc
                  go_wp2_with (at_builtin; first
                    | (refine app_spots (.tmp 63) (.tmp 66) rfl rfl wd.heap.size _ 0 _ rfl OWN0.out _ (L.take i) rfl SPT1.out LEN1.out HS1.out ?_; intro v5 w5 own5 hg5 _; have z5 := size_grown hg5; have r5 : ∀ c, (Value.slice (some ⟨wd.heap.size, 0, none⟩) 0 0).ownBlock = some c → d1 < c := (fun c hc => (Option.some.inj hc) ▸ l1); have f15 := box_far f1 hg5 r5; have f25 := box_far f2 hg5 r5; have R5 := Lib.hid r5; clear r5)
                    | (refine app_spots (.tmp 68) (.tmp 76) rfl rfl wd.heap.size v5 _ _ rfl (own5.alloc _) _ [(p + 1, h)] rfl (spots_one _ _ _) (by simp [TL.out]; omega) (by simp; omega) ?_; intro v6 w6 own6 hg6 _; have z6 := size_grown hg6)
                    | ((refine app_spots (.tmp 78) (.tmp 82) rfl rfl wd.heap.size v6 _ _ rfl own6 _ (L.drop cap) rfl (SPD6 (SPE.out rfl) hg5 hg6 own5 hgd) (by simp [TL.out, DL.out]; omega) (by omega) ?_; intro v7 w7 own7 hg7 _; have O7 := rm_own own7 (Nat.le_trans hBw (Nat.le_trans hwr HDB.out.size)); have B7 := rm_below hg5 hg6 hg7 own5 own6; obtain ⟨a7, c7, N7, e7, rfl⟩ := rm_shape O7)))
                  go_roundw
                  case rel =>
                    exact ⟨_, true, rfl, JC.out, by simp, by rw [List.length_append, List.length_append, TL.out, DL.out, List.length_singleton]; omega, (fun e => by cases e), O7, HBEL.out.trans ((hb2.trans ((HDB.out.trans (B7.mono HDB.out.size)).mono hwr)).mono hBw)⟩
                  case measure =>
                    have e8 := e7.out
                    rw [List.length_append, List.length_append, TL.out, DL.out, List.length_singleton] at e8
                    simp only [lenV, bitV]
                    omega
                · have kc1 : ¬ ((cap : Int) = (k2 : Int)) := by omega
                  have kc3 : (k2 : Int) < (cap : Int) := by omega
                  have kc2 : decide (cap = k2) = false := decide_eq_false kc
                  go_wp2_with (at_builtin; first
                    | (refine app_spots (.tmp 63) (.tmp 66) rfl rfl wd.heap.size _ 0 _ rfl OWN0.out _ (L.take i) rfl SPT1.out LEN1.out HS1.out ?_; intro v5 w5 own5 hg5 _; have z5 := size_grown hg5; have r5 : ∀ c, (Value.slice (some ⟨wd.heap.size, 0, none⟩) 0 0).ownBlock = some c → d1 < c := (fun c hc => (Option.some.inj hc) ▸ l1); have f15 := box_far f1 hg5 r5; have f25 := box_far f2 hg5 r5; have R5 := Lib.hid r5; clear r5)
                    | (refine app_spots (.tmp 68) (.tmp 76) rfl rfl wd.heap.size v5 _ _ rfl (own5.alloc _) _ [(p + 1, h)] rfl (spots_one _ _ _) (by simp [TL.out]; omega) (by simp; omega) ?_; intro v6 w6 own6 hg6 _; have z6 := size_grown hg6)
                    | ((refine app_spots (.tmp 78) (.tmp 82) rfl rfl wd.heap.size v6 _ _ rfl own6 _ (L.drop k2) rfl (SPD6 SPD.out hg5 hg6 own5 hgd) (by simp [TL.out, DL.out]; omega) (by omega) ?_; intro v7 w7 own7 hg7 _; have O7 := rm_own own7 (Nat.le_trans hBw (Nat.le_trans hwr HDB.out.size)); have B7 := rm_below hg5 hg6 hg7 own5 own6; obtain ⟨a7, c7, N7, e7, rfl⟩ := rm_shape O7)))
                  go_roundw
                  case rel =>
                    exact ⟨_, true, rfl, JC.out, by simp, by rw [List.length_append, List.length_append, TL.out, DL.out, List.length_singleton]; omega, (fun e => by cases e), O7, HBEL.out.trans ((hb2.trans ((HDB.out.trans (B7.mono HDB.out.size)).mono hwr)).mono hBw)⟩
                  case measure =>
                    have e8 := e7.out
                    rw [List.length_append, List.length_append, TL.out, DL.out, List.length_singleton] at e8
                    simp only [lenV, bitV]
                    omega
              · have HNX := Lib.hid (show ∀ (j : Nat) (s t : Nat × Nat), j < i + 1 → L[j]? = some s → L[j + 1]? = some t → ¬ Sib s t from fun j s t hj ha hb => by
                  by_cases e : j = i
                  · subst e
                    rw [H1.out] at ha
                    rw [H2.out] at hb
                    rw [← Option.some.inj ha, ← Option.some.inj hb]
                    exact SB
                  · exact HNO.out j s t (by omega) ha hb)
                by_cases hpx : p = x2
                · have e1 : (p : Int) = (x2 : Int) := by omega
                  by_cases hq2 : q % 2 = 0
                  · have hy : ¬ y2 = q + 1 := fun h => SB ⟨hpx, hq2, h⟩
                    have e2 : (q : Int) % 2 = 0 := by omega
                    have e3 : ((y2 : Int) == (q : Int) + 1) = false := by rw [beq_eq_false_iff_ne]; omega
                    clear SB hpx hq2 hy
                    go_wp2
                    go_roundw
                    case rel =>
                      exact ⟨i + 1, hlast, rfl, rfl, by go_num, hb2.trans (hb.mono hwr), HNX.out⟩
                    case measure => simp [intOf]; omega
                  · have e2 : (q : Int) % 2 = 1 := by omega
                    clear SB hpx hq2
                    go_wp2
                    go_roundw
                    case rel =>
                      exact ⟨i + 1, hlast, rfl, rfl, by go_num, hb2.trans (hb.mono hwr), HNX.out⟩
                    case measure => simp [intOf]; omega
                · have e1 : ((p : Int) == (x2 : Int)) = false := by rw [beq_eq_false_iff_ne]; omega
                  clear SB hpx
                  go_wp2
                  go_roundw
                  case rel =>
                    exact ⟨i + 1, hlast, rfl, rfl, by go_num, hb2.trans (hb.mono hwr), HNX.out⟩
                  case measure => simp [intOf]; omega
          · have hcalm := Lib.hid (calm_of L fun j s t ha hb => hno j s t (by
              have := (List.getElem?_eq_some_iff.1 hb).1
              omega) ha hb)
            have ii : (L.length : Int) ≤ (i : Int) + 1 := by omega
            have ii3 : (i : Int) < (L.length : Int) := by omega
            have own9 := Lib.hid (own_below OWL.out hb2)
            clear hno hlast
            go_wp2
            go_roundw
            case rel =>
              exact ⟨L, false, rfl, CHL.out, HNE.out, hN, fun _ => hcalm.out, own9.out, HBEL.out.trans (hb2.mono hBw)⟩
            case measure => simp [lenV, bitV]
end Go.Proofs.YtpbahbigimnboaaDoor
