/-
  massiflaw4.CutBreaks: the walk.
-/
import Derived.Test.YtpbahbigimnboaaDoorRefMerge
import Derived.Test.YtpbahbigimnboaaDoorSliceI
import Derived.Outline
import Derived.Deep.DeepCutAuto
namespace Go.Proofs.YtpbahbigimnboaaDoor
open Go.RowKit
set_option linter.unusedVariables false

theorem split_one {L : List (Nat × Nat)} {i : Nat} {s : Nat × Nat} (h1 : L[i]? = some s) : L = L.take i ++ s :: L.drop (i + 1) := by
  have a1 : i < L.length := (List.getElem?_eq_some_iff.1 h1).1
  conv => lhs; rw [← List.take_append_drop i L, List.drop_eq_getElem_cons a1]
  rw [List.getElem?_eq_getElem a1] at h1
  rw [Option.some.inj h1]
theorem break_chain {L : List (Nat × Nat)} {i a b h x : Nat} (h1 : L[i]? = some (h + 1, x)) (c : Chain a b L) : Chain a b (L.take i ++ [(h, 2 * x), (h, 2 * x + 1)] ++ L.drop (i + 1)) := by
  rw [split_one h1, chain_append] at c
  obtain ⟨y, c1, rs, es, c2⟩ := c
  dsimp only at rs es c2
  obtain ⟨r1, r2⟩ := right_left rs
  rw [List.append_assoc, chain_append]
  refine ⟨y, c1, r1, ?_, r2, ?_, ?_⟩
  · dsimp only
    rw [← es, Nat.pow_succ, Nat.mul_comm (2 ^ h) 2, ← Nat.mul_assoc, Nat.mul_comm x 2]
  · rfl
  · dsimp only
    rw [Nat.pow_succ, Nat.mul_comm (2 ^ h) 2, ← Nat.mul_assoc] at c2
    rw [show 2 * x + 1 + 1 = (x + 1) * 2 by omega]
    exact c2
theorem spots_two (w : World) (h k h' k' : Nat) : SpotsOf (w.alloc (.cells #[.int .u8 (h : Int), .int .u64 (k : Int), .int .u8 (h' : Int), .int .u64 (k' : Int)] 28 (0, 0))) (.slice (some ⟨w.heap.size, 0, none⟩) 2 2) [(h, k), (h', k')] := by
  refine ⟨some ⟨w.heap.size, 0, none⟩, 2, rfl, Nat.le_refl _, by unfold maxLen; omega, (fun e => by cases e), .inr ⟨w.heap.size, 0, rfl, fun j x hj => ?_⟩⟩
  match j, hj with
  | 0, hj =>
    have e : (h, k) = x := Option.some.inj hj
    subst e
    rw [cell_of_row _ _ _ _ _ _ (heap_alloc_new _ _), cell_of_row _ _ _ _ _ _ (heap_alloc_new _ _)]
    exact ⟨rfl, rfl⟩
  | 1, hj =>
    have e : (h', k') = x := Option.some.inj hj
    subst e
    rw [cell_of_row _ _ _ _ _ _ (heap_alloc_new _ _), cell_of_row _ _ _ _ _ _ (heap_alloc_new _ _)]
    exact ⟨rfl, rfl⟩
  | j + 2, hj => simp at hj
theorem rm_own2 {w : World} {B Z : Nat} {v : Value} {T U D : List (Nat × Nat)} (h : w.ownsRow Z 28 2 v (0 + T.length + U.length + D.length) (spotC [] ++ spotC T ++ spotC U ++ spotC D)) (hZ : B ≤ Z) :
    w.ownsRow B 28 2 v (T ++ U ++ D).length (spotC (T ++ U ++ D)) := by
  have e : (T ++ U ++ D).length = 0 + T.length + U.length + D.length := by simp; omega
  rw [e, spotC_append, spotC_append]
  exact own_mono h hZ
theorem tmod_abs (x : Int) (n : Nat) (h : 0 < n) : ∃ k : Nat, k < n ∧ (x.tmod (n : Int) = (k : Int) ∨ (0 < k ∧ x.tmod (n : Int) = -(k : Int))) := by
  cases x with
  | ofNat m => exact ⟨m % n, Nat.mod_lt _ h, .inl rfl⟩
  | negSucc m =>
    by_cases h0 : (m + 1) % n = 0
    · refine ⟨0, h, .inl ?_⟩
      have : (Int.negSucc m).tmod (n : Int) = -(((m + 1) % n : Nat) : Int) := rfl
      rw [this, h0]
      rfl
    · exact ⟨(m + 1) % n, Nat.mod_lt _ h, .inr ⟨by omega, rfl⟩⟩
theorem spots_kids (w : World) (h y : Nat) : SpotsOf (w.alloc (.cells #[.int .u8 (h : Int), .int .u64 (2 * (y : Int)), .int .u8 (h : Int), .int .u64 (2 * (y : Int) + 1)] 28 (0, 0))) (.slice (some ⟨w.heap.size, 0, none⟩) 2 2) [(h, 2 * y), (h, 2 * y + 1)] :=
  spots_two w h (2 * y) h (2 * y + 1)
theorem cb_len {T D : List (Nat × Nat)} {u v : Nat × Nat} {k n : Nat} (hT : T.length = k) (hD : D.length = n - (k + 1)) (h : n ≤ 600) (hk : k < n) : 0 + T.length ≤ 8796093022208 ∧ 0 + T.length + [u, v].length ≤ 8796093022208 ∧ 0 + T.length + [u, v].length + D.length ≤ 8796093022208 ∧ (T ++ [u, v] ++ D).length = n + 1 := by
  rw [List.length_append, List.length_append, hT, hD]
  simp
  omega
def CbRel (n B : Nat) (bl : List Int) (w : World) (v i : Value) (wr : World) : Prop :=
  ∃ (j : Nat) (L : List (Nat × Nat)), j ≤ bl.length ∧ i = .int .i64 (j : Int) ∧ Chain 0 n L ∧ L.length ≤ 124 + j ∧ wr.ownsRow B 28 2 v L.length (spotC L) ∧ Below B w wr
set_option maxHeartbeats 4000000 in
set_option maxRecDepth 20000 in
theorem walkCutBreaks (a0 : Int) (v1 : Value) (bl : List Int) (w0 : (Lit.int .u64 a0).wf = true) (w : World) (s1 : IntsOf w v1 bl) (y1 : Ints bl) (T : TabAt w) :
    Calls Tryd.prog 7 #[.int .u64 a0, v1] w fun e w' => e = .returned (.bool true) ∧ Below w.heap.size w w' := by
  obtain ⟨n, rfl, hn⟩ := nat_of_u64 w0
  obtain ⟨aB, cB, rfl, b1, b2, b3, b4⟩ := s1.form
  have bm : (bl.length : Int) ≤ 9223372036854775807 := by unfold maxLen at b2; omega
  have TT := Lib.hid T
  have B3 := Lib.hid b3
  have B4 := Lib.hid b4
  have YY := Lib.hid y1
  clear w0 T s1 b1 b2 b3 b4 y1
  by_cases hbig : 4611686018427387904 < n
  · have i0 : (4611686018427387904 : Int) < (n : Int) := by omega
    clear hbig
    go_enter Tryd.func7, Tryd.ntmps7
    go_wp2
    go_ret
    exact ⟨rfl, Below.refl _ _⟩
  have hb : n ≤ 4611686018427387904 := by omega
  have i0 : decide ((4611686018427387904 : Int) < (n : Int)) = false := decide_eq_false (by omega)
  have i1 : (n : Int) ≤ 4611686018427387904 := by omega
  by_cases hz : n = 0
  · subst hz
    go_enter Tryd.func7, Tryd.ntmps7
    go_wp2
    go_ret
    exact ⟨rfl, Below.refl _ _⟩
  have i2 : ((n : Int) == 0) = false := by rw [beq_eq_false_iff_ne]; omega
  by_cases hlong : 400 < bl.length
  · have i3 : (400 : Int) < (bl.length : Int) := by omega
    clear hbig hz
    go_enter Tryd.func7, Tryd.ntmps7
    go_wp2
    go_ret
    exact ⟨rfl, Below.refl _ _⟩
  have bl4 : bl.length ≤ 400 := by omega
  have i3 : (bl.length : Int) ≤ 400 := by omega
  have i4 : decide ((400 : Int) < (bl.length : Int)) = false := decide_eq_false (by omega)
  have S0 := fun w => cutSpan_yes (a := 0) (b := n) (by omega) hb w
  have l124 := spanL_124 (a := 0) (b := n) hb
  have CH := span_chain hb (Nat.zero_le _)
  have ne : spanL 0 n ≠ [] := by rw [spanL_go (by omega) hb]; simp
  have lp : 0 < (spanL 0 n).length := List.length_pos_iff.2 ne
  have CHH := Lib.hid CH
  have HN0 := Lib.hid (show 0 < n by omega)
  clear hbig hz hlong hn CH ne
  generalize hS : spanL 0 n = S at *
  have HS := Lib.hid hS
  have ls : (S.length : Int) ≤ 124 := by omega
  have lsp : (0 : Int) < (S.length : Int) := by omega
  have lz : ((S.length : Int) == 0) = false := by rw [beq_eq_false_iff_ne]; omega
  have O0 := Lib.hid (own_made0 (w := w) (B := w.heap.size) (Nat.le_refl _))
  have bE := Lib.hid (show Below w.heap.size w (w.alloc (.cells #[] 28 (0, 0))) from (Below.refl _ _).alloc (Nat.le_refl _) _)
  have LEN0 := Lib.hid (show 0 + S.length ≤ 8796093022208 by omega)
  clear hS
  go_enter Tryd.func7, Tryd.ntmps7
  go_wp2_with fail
  refine (S0 _ (TT.out.below bE.out)).mono ?_
  rintro e w1 ⟨vS, rfl, ownS, q1⟩
  have b1 := bE.out.trans (q1.mono bE.out.size)
  have sS := SpotsOf.of_own ownS
  have O1 := own_below O0.out q1
  clear ownS q1
  go_wp2_with (at_builtin; refine app_spots (.tmp 26) (.tmp 28) rfl rfl w.heap.size _ 0 _ rfl O1 _ _ rfl sS LEN0.out b1.size ?_; intro v2 w2 own2 hg2 _; have b2 := b1.grown hg2 b1.size (fun c hc => (O1.lt c hc).1); rw [Nat.zero_add] at own2; obtain ⟨a2, c2, rfl, hs2⟩ := own_shape own2; clear hs2)
  have OW2 := Lib.hid (show w2.ownsRow w.heap.size 28 2 (.slice a2 S.length c2) S.length (spotC S) from own2)
  clear own2 hg2 O1 sS b1
  generalize hB : w.heap.size = B at *
  have HB := Lib.hid hB
  clear hB
  go_loopw [5, 6] (fun v i wr => CbRel n B bl w v i wr) (fun _ i _ => bl.length - (intOf i).toNat)
  case atStart => exact ⟨0, S, Nat.zero_le _, rfl, CHH.out, l124, OW2.out, b2⟩
  case round =>
    obtain ⟨j, L, hj, rfl, ch, hL, own, hbel⟩ := hrel
    have hBw : B ≤ wr.heap.size := by rw [← HB.out]; exact hbel.size
    clear b2
    have L0 : 0 < L.length := by
      cases L with
      | nil => have e : 0 = n := ch; have := HN0.out; omega
      | cons s t => simp
    have Li : (L.length : Int) ≤ 600 := by omega
    have Lp : (0 : Int) < (L.length : Int) := by omega
    have Lz : ((L.length : Int) == 0) = false := by rw [beq_eq_false_iff_ne]; omega
    by_cases hlt : j < bl.length
    · obtain ⟨x, hx⟩ : ∃ x, bl[j]? = some x := ⟨bl[j], List.getElem?_eq_getElem hlt⟩
      obtain ⟨b, off, rfl⟩ := B3.out j _ hx
      have cx := B4.out b off rfl j _ hx
      have hb0 := World.block_lt_of_cell? _ _ cx
      have hbl : b < B := by rw [← HB.out]; exact hb0
      rw [← hbel.cell (p := ⟨b, off + j, none⟩) hbl] at cx
      obtain ⟨xr1, xr2⟩ := YY.out _ (List.mem_of_getElem? hx)
      have ji : (j : Int) < (bl.length : Int) := by omega
      obtain ⟨a, cap, rfl, hsh⟩ := own_shape own
      obtain ⟨g, rfl, hgB, hg, hcap, cells⟩ := hsh L0
      have CC := Lib.hid cells
      have CHL := Lib.hid ch
      have OWL := Lib.hid own
      have HBEL := Lib.hid hbel
      clear cells hsh ch own hbel hx hb0
      obtain ⟨k, kL, hk⟩ := tmod_abs x L.length L0
      obtain ⟨⟨h, y⟩, h1⟩ : ∃ s, L[k]? = some s := ⟨L[k], List.getElem?_eq_getElem kL⟩
      have rt := chain_right _ _ _ CHL.out _ (List.mem_of_getElem? h1)
      have h62 : h ≤ 62 := rt.1
      have yk : y ≤ 4611686018427387904 := Nat.le_of_lt (right_k rt)
      obtain ⟨t1, t2⟩ := spotC_get _ k _ h1
      have c1 := CC.out _ _ t1
      have c2 := CC.out _ _ t2
      rw [Nat.mul_comm] at c1 c2
      dsimp only at c1 c2
      have kLi : (k : Int) < (L.length : Int) := by omega
      have H1 := Lib.hid h1
      have k6 : k ≤ 4000 := by omega
      clear rt t1 t2 h1 xr1 xr2
      rcases hk with hk | ⟨k0, hk⟩
      all_goals
        first
          | (have kd : decide ((k : Int) < 0) = false := decide_eq_false (by omega))
          | (have kd : -(k : Int) < 0 := by omega
             obtain ⟨wk, wki⟩ := put_w k k6)
        cases h with
        | zero =>
          go_wp2
          go_roundw
          case rel => exact ⟨j + 1, L, by omega, by go_num, CHL.out, by omega, OWL.out.alloc _, HBEL.out.alloc hBw _⟩
          case measure => simp [intOf]; omega
        | succ h =>
          go_upto_region 14 with (fail)
          generalize hW : World.alloc wr _ = wd
          have f1 : wd.cell? ⟨wr.heap.size, 0, none⟩ = some (.int .u8 ((h : Int) + 1)) := by rw [← hW, cell_of_row _ _ _ _ _ _ (heap_alloc_new _ _)]; rfl
          have f2 : wd.cell? ⟨wr.heap.size, 1, none⟩ = some (.int .u64 (y : Int)) := by rw [← hW, cell_of_row _ _ _ _ _ _ (heap_alloc_new _ _)]; rfl
          have l1 : wr.heap.size < wd.heap.size := by rw [← hW]; simp
          have hb9 : Below wr.heap.size wr wd := by rw [← hW]; exact (Below.refl _ _).alloc (Nat.le_refl _) _
          have BD := Lib.hid (HBEL.out.trans (hb9.mono hBw))
          have ZB := Lib.hid (Nat.le_trans hBw hb9.size)
          clear hb9
          generalize wr.heap.size = d1 at *
          have JC := Lib.hid (break_chain H1.out CHL.out)
          have sp := SpotsOf.of_own (show wd.ownsRow B 28 2 (.slice (some ⟨g, 0, none⟩) L.length cap) L.length (spotC L) by rw [← hW]; exact OWL.out.alloc _)
          have tl : (L.take k).length = k := by rw [List.length_take]; omega
          have dl : (L.drop (k + 1)).length = L.length - (k + 1) := List.length_drop
          have spT := spots_take sp (Nat.le_of_lt kL)
          have spD := spots_drop sp (show k + 1 ≤ L.length from kL)
          have hgd : g < wd.heap.size := Nat.lt_trans hg l1
          obtain ⟨ln1, ln2, ln3, ln4⟩ := cb_len (u := (h, 2 * y)) (v := (h, 2 * y + 1)) tl dl (by omega) kL
          have LN := Lib.hid (And.intro ln1 (And.intro ln2 (And.intro ln3 ln4)))
          obtain ⟨k2, hk2⟩ : ∃ k2, k + 1 = k2 := ⟨_, rfl⟩
          rw [hk2] at spD dl JC LN
          have ek2 : (k : Int) + 1 = (k2 : Int) := by omega
          have k2l : (k2 : Int) ≤ (L.length : Int) := by omega
          have k2l' : k2 ≤ L.length := by omega
          have k2c : (k2 : Int) ≤ (cap : Int) := by omega
          have k2c' : k2 ≤ cap := by omega
          have ic : (k : Int) ≤ (cap : Int) := by omega
          have ic' : k ≤ cap := by omega
          have lc : (L.length : Int) ≤ (cap : Int) := by omega
          have SPT1 := Lib.hid (spT.below (show Below wd.heap.size wd (wd.alloc (.cells #[] 28 (0, 0))) from (Below.refl _ _).alloc (Nat.le_refl _) _))
          have SPD := Lib.hid spD
          have SPE := Lib.hid (show cap = k2 → SpotsOf wd (.slice (some ⟨g, 0, none⟩) 0 0) (L.drop k2) from fun e => by
            rw [List.drop_eq_nil_of_le (by omega)]
            exact spots_none)
          have OWN0 := Lib.hid (own_made0 (w := wd) (B := wd.heap.size) (Nat.le_refl _))
          have HS1 := Lib.hid (show wd.heap.size ≤ (wd.alloc (.cells #[] 28 (0, 0))).heap.size by simp)
          clear hW sp spT spD tl dl hk2 ln1 ln2 ln3 ln4 c1 c2
          by_cases kc : cap = k2
          · subst kc
            go_wp2_with (at_builtin; first
              | (refine app_spots (.tmp 57) (.tmp 60) rfl rfl wd.heap.size _ 0 _ rfl OWN0.out _ (L.take k) rfl SPT1.out LN.out.1 HS1.out ?_; intro v5 w5 own5 hg5 _; have z5 := size_grown hg5; have r5 : ∀ c, (Value.slice (some ⟨wd.heap.size, 0, none⟩) 0 0).ownBlock = some c → d1 < c := (fun c hc => (Option.some.inj hc) ▸ l1); have f15 := box_far f1 hg5 r5; have f25 := box_far f2 hg5 r5; have R5 := Lib.hid r5; clear r5)
              | (refine app_spots (.tmp 62) (.tmp 78) rfl rfl wd.heap.size v5 _ _ rfl (own5.alloc _) _ [(h, 2 * y), (h, 2 * y + 1)] rfl (spots_kids _ _ _) LN.out.2.1 (by simp; omega) ?_; intro v6 w6 own6 hg6 _; have z6 := size_grown hg6)
              | (refine app_spots (.tmp 80) (.tmp 84) rfl rfl wd.heap.size v6 _ _ rfl own6 _ (L.drop cap) rfl (SPD6 (SPE.out rfl) hg5 hg6 own5 hgd) LN.out.2.2.1 (by omega) ?_; intro v7 w7 own7 hg7 _; have O7 := rm_own2 own7 ZB.out; have B7 := rm_below hg5 hg6 hg7 own5 own6; obtain ⟨a7, c7, N7, e7, rfl⟩ := rm_shape O7))
            go_roundw
            case rel => exact ⟨j + 1, _, by omega, by go_num, JC.out, by rw [LN.out.2.2.2]; omega, O7, BD.out.trans (B7.mono ZB.out)⟩
            case measure => simp [intOf]; omega
          · have kc1 : ¬ ((cap : Int) = (k2 : Int)) := by omega
            have kc3 : (k2 : Int) < (cap : Int) := by omega
            have kc2 : decide (cap = k2) = false := decide_eq_false kc
            go_wp2_with (at_builtin; first
              | (refine app_spots (.tmp 57) (.tmp 60) rfl rfl wd.heap.size _ 0 _ rfl OWN0.out _ (L.take k) rfl SPT1.out LN.out.1 HS1.out ?_; intro v5 w5 own5 hg5 _; have z5 := size_grown hg5; have r5 : ∀ c, (Value.slice (some ⟨wd.heap.size, 0, none⟩) 0 0).ownBlock = some c → d1 < c := (fun c hc => (Option.some.inj hc) ▸ l1); have f15 := box_far f1 hg5 r5; have f25 := box_far f2 hg5 r5; have R5 := Lib.hid r5; clear r5)
              | (refine app_spots (.tmp 62) (.tmp 78) rfl rfl wd.heap.size v5 _ _ rfl (own5.alloc _) _ [(h, 2 * y), (h, 2 * y + 1)] rfl (spots_kids _ _ _) LN.out.2.1 (by simp; omega) ?_; intro v6 w6 own6 hg6 _; have z6 := size_grown hg6)
              | (refine app_spots (.tmp 80) (.tmp 84) rfl rfl wd.heap.size v6 _ _ rfl own6 _ (L.drop k2) rfl (SPD6 SPD.out hg5 hg6 own5 hgd) LN.out.2.2.1 (by omega) ?_; intro v7 w7 own7 hg7 _; have O7 := rm_own2 own7 ZB.out; have B7 := rm_below hg5 hg6 hg7 own5 own6; obtain ⟨a7, c7, N7, e7, rfl⟩ := rm_shape O7))
            go_roundw
            case rel => exact ⟨j + 1, _, by omega, by go_num, JC.out, by rw [LN.out.2.2.2]; omega, O7, BD.out.trans (B7.mono ZB.out)⟩
            case measure => simp [intOf]; omega
    · obtain rfl : j = bl.length := by omega
      have ne : L ≠ [] := List.length_pos_iff.1 L0
      have MG := Lib.hid (merge_chain (Nat.zero_le _) hb ch)
      have OV := Lib.hid (overV_some (overL_chain.2 ⟨ne, ch⟩))
      have SM := Lib.hid (small_of_chain ch)
      have sp := SpotsOf.of_own own
      have SP := Lib.hid sp
      have bAll : Below w.heap.size w wr := by rw [HB.out]; exact hbel
      obtain ⟨a, cap, rfl, hsh⟩ := own_shape own
      clear hsh own ch ne hbel
      go_wp2_with fail
      refine (row_any _ sp (by omega)).mono ?_
      rintro e w4 ⟨g4, cap4, rfl, RA, q4⟩
      have b4 := bAll.trans (q4.mono bAll.size)
      have s4 := RA.spots
      have SP4 := Lib.hid (SP.out.below q4)
      clear RA q4 sp
      go_wp2_with fail
      refine (Merge_any _ s4 SM.out (by omega)).mono ?_
      rintro e w5 ⟨v5, rfl, own5, q5⟩
      rw [MG.out.1, HS.out] at own5
      rw [MG.out.2]
      have b5 := b4.trans (q5.mono b4.size)
      have s5 := SpotsOf.of_own own5
      have sp5 := SP4.out.below q5
      clear own5 q5 s4
      go_wp2_with fail
      refine (row_any _ sp5 (by omega)).mono ?_
      rintro e w6 ⟨g6, cap6, rfl, RA, q6⟩
      have b6 := b5.trans (q6.mono b5.size)
      have s6 := RA.spots
      have s56 := s5.below q6
      clear RA q6 sp5 s5
      go_wp2_with fail
      refine (Over_any _ s6 SM.out (by omega)).mono ?_
      rintro e w7 ⟨rfl, q7⟩
      rw [OV.out]
      have b7 := b6.trans (q7.mono b6.size)
      have s57 := s56.below q7
      clear q7 s6 s56
      go_wp2_with fail
      refine (S0 _ (TT.out.below b7)).mono ?_
      rintro e w8 ⟨v8, rfl, own8, q8⟩
      have b8 := b7.trans (q8.mono b7.size)
      have s58 := s57.below q8
      have s8 := SpotsOf.of_own own8
      clear q8 own8 s57
      go_wp2_with fail
      refine (same_any _ s58 s8).mono ?_
      rintro e w9 ⟨rfl, q9⟩
      rw [decide_eq_true (rfl : S = S)]
      have b9 := b8.trans (q9.mono b8.size)
      clear q9 s58 s8
      go_wp2_with fail
      refine (awake4_any _ (TT.out.below b9)).mono ?_
      rintro e w10 ⟨rfl, q10⟩
      go_wp2
      go_ret
      have b10 := b9.trans (q10.mono b9.size)
      exact ⟨rfl, by first | exact b10 | (rw [HB.out] at b10; exact b10)⟩
end Go.Proofs.YtpbahbigimnboaaDoor
