/-
  The walk of hash.inputs.
-/
import Derived.Test.YtcifnfffoiiceaaDoorSteps
import Derived.Test.YtcifnfffoiiceaaDoorTexts
import Derived.Test.YtcifnfffoiiceaaDoorCompProg
import Derived.Test.YtcifnfffoiiceaaDoorHWrite
namespace Go.Proofs.YtcifnfffoiiceaaDoor
open Go.RowKit
set_option linter.unusedVariables false
set_option pp.deepTerms true
set_option pp.maxSteps 1000000

theorem own_slice_at {w : World} {Z n : Nat} {v : Value} {L : List Nat} (h : w.ownsRow Z 5 1 v n (u8s L)) : SliceOf u8c w v L := SliceOf.of_own h (u8s_eq _)
/-- One element more. -/
theorem app_wide4 {Z s : Nat} {t : TypeId} {w : World} {v : Value} {Ls : List (List Nat)} {ops : Array Oper} {rest : List Oper} {o : Oper} {a : Act} {Q : Exit → Act → World → Prop} (st : TypeId) (z : Value) (bytes : Nat) (s0 : 0 < s) (hst : Tryd.prog.underlying st = some (.slice t))
    (info : (Tryd.prog.info? t).map (fun i => (i.zero, i.size, i.bytes)) = some (some z, s, bytes)) (hz : z.cells.size = s) (hby : bytes ≤ 1000) (x1 x2 : Operand) (hgd : o.guard = none)
    (ho : o.op = .call { callee := .builtin .append, args := #[x1, x2], argTypes := #[st, st] })
    (hs : a.eval x1 = v) (hP : WideAt Z t s w v Ls) (b : Nat) (L : List Nat) {t' : TypeId} (hx : a.eval x2 = .slice (some ⟨b, 0, none⟩) 1 1) (hb : w.heap[b]? = some (.cells (cellsOf' u8c L) t' (0, 0)))
    (hL : L.length = s) (hZ : Z ≤ w.heap.size) (hl : Ls.length ≤ 1000000)
    (h : ∀ v' w', WideAt Z t s w' v' (Ls ++ [L]) → Below Z w w' → w.grownBy w' v.ownBlock → wpList Tryd.prog ops Q rest (a.put o.dst v') w') : wpList Tryd.prog ops Q (o :: rest) a w := by
  obtain ⟨i0, hi, hz0, hz1, hz2⟩ := info_parts info
  refine wpList_append_own w hgd x1 x2 st ho Z t i0 z s bytes hst hi hz0 hz1 hz2 hz s0 v Ls.length _ hs hP.1 ⟨b, 0, none⟩ 1 1 (L.map u8c) hx (by rw [List.length_map, hL, Nat.one_mul]) ?_ ?_ (by unfold maxLen; omega) ?_ hZ fun v' w' own' hg _ => ?_
  · intro j u hj
    have e : (⟨b, 0, none⟩ : Addr).add j = ⟨b, 0 + j, none⟩ := Go.WideShapes.add_plain _ _ _
    rw [e, Nat.zero_add]
    obtain ⟨c, hc, rfl⟩ := Option.map_eq_some_iff.1 (by rw [List.getElem?_map] at hj; exact hj)
    exact co_cell hb hc
  · intro u hu
    obtain ⟨c, _, rfl⟩ := List.mem_map.1 hu
    rfl
  · have : (Ls.length + 1) * bytes ≤ 1000001 * 1000 := Nat.mul_le_mul (by omega) hby
    omega
  · have q : Below Z w w' := (Below.refl Z w).grown hg hZ (fun k hk => (hP.1.lt k hk).1)
    refine h v' w' ⟨by rw [List.length_append, List.flatten_append, List.map_append]; simpa using own', fun M hM => ?_⟩ q hg
    rcases List.mem_append.1 hM with hM | hM
    · exact hP.2 M hM
    · rw [List.mem_singleton] at hM; rw [hM]; exact hL
theorem touch_below {g Z : Nat} {w w' w2 : World} (h : TouchB g w w') (q : Below Z w' w2) (hZ : w.heap.size ≤ Z) : TouchB g w w2 :=
  ⟨q.os.trans h.os, q.tape.trans h.tape, q.output.trans h.output, Nat.le_trans h.size q.size, fun k hk hne => (q.block k (by omega)).trans (h.block k hk hne)⟩
theorem yields_arrptr {ops : Array Oper} {S : World → Prop} {o : Oper} {a : Act} {x : Operand} {g off n cap : Nat} (hw : Region.wanted o (yielded ops a.tmps) = true) (ho : o.op = .sliceToArrayPointer 24 x)
    (hx : a.eval x = .slice (some ⟨g, off, none⟩) n cap) (hn : 64 ≤ n) : YieldsIf Tryd.prog ops S o (.pointer (some ⟨g, off, none⟩)) a := by
  refine .inl ⟨hw, fun w _ => ?_⟩
  unfold execOp
  rw [ho]
  simp only [hx, Sem.run_bind, run_arrptr w hn, Result.andThen_ok, Sem.run_pure]
theorem yields_build_in {ops : Array Oper} {S : World → Prop} {o : Oper} {a : Act} {x y : Operand} {A C : List Nat} (hw : Region.wanted o (yielded ops a.tmps) = true) (ho : o.op = .build 90 #[(0, x), (1, y)])
    (hx : a.eval x = .agg (cellsOf' u8c A)) (hy : a.eval y = .agg (cellsOf' u8c C)) (hA : A.length = 32) (hC : C.length = 64) : YieldsIf Tryd.prog ops S o (.agg (cellsOf' u8c (A ++ C))) a := by
  refine .inl ⟨hw, fun w _ => ?_⟩
  unfold execOp
  rw [ho]
  simp only [List.map_toArray, List.map_cons, List.map_nil, hx, hy, Sem.run_bind, run_build_in w hA hC, Result.andThen_ok, Sem.run_pure]
theorem box_range' {w : World} {g : Nat} {l : List Nat} {t : TypeId} (h : w.heap[g]? = some (.cells (cellsOf' u8c l) t (0, 0))) : w.rangeAt g 0 (l.map u8c) := row_range (cur := l.map u8c) h (fun j v hj => by rw [Nat.zero_add]; exact hj)
set_option maxRecDepth 16000 in
set_option maxHeartbeats 4000000 in
theorem inputs_any {wd : Int} {l : List Nat} {v : Value} (W : World) (D : DoorAt W) (S : SliceOf u8c W v l) (hv : ∀ b, v.ownBlock = some b → b < W.heap.size) (bl : Bytes l) (hl : l.length ≤ 100000) :
    Calls Tryd.prog 62 #[.int .i64 wd, v] W fun e w' => ∃ v', e = .returned v' ∧ WideAt W.heap.size 90 96 w' v' (inputsN wd l) ∧ Below W.heap.size W w' := by
  have HS := Lib.hid S
  have HV := Lib.hid hv
  have HBL := Lib.hid bl
  have HDW := Lib.hid D
  have HCF := Lib.hid (cell_first D)
  have CO := Lib.hid (cut_any (w := wd) (l := firstN) first_len)
  have bgl := begin_len wd
  obtain ⟨st0, hst⟩ : ∃ st, beginN wd = st := ⟨_, rfl⟩
  have hst2 : cutL wd firstN = st0 := by rw [← hst]; unfold beginN; rfl
  rw [hst2] at CO
  rw [hst] at bgl
  have HST0 := Lib.hid hst
  have hs0 : (cellsOf' u8c st0).size = 32 := by rw [co_size, bgl]
  obtain ⟨a, cap, rfl, s1, s2, s3⟩ := S
  obtain ⟨n, hn⟩ : ∃ n, l.length = n := ⟨_, rfl⟩
  have TA := Lib.hid (fun w => tail_any (n := n) (by omega) w)
  have HN := Lib.hid hn
  rw [hn] at s1 hl ⊢
  have ni : (n : Int) ≤ 100000 := by omega
  have hb1 := D.1
  clear hst hst2 hn s3 D hv bl
  obtain ⟨Z, hZ⟩ : ∃ Z, W.heap.size = Z := ⟨_, rfl⟩
  have HZ := Lib.hid hZ
  rw [hZ] at hb1 ⊢
  clear hZ
  go_enter Tryd.func62, Tryd.ntmps62
  go_wp2_with (first
    | (refine wpList_load_mid rfl 23 _ rfl 1 0 rfl (firstN.map u8c) _ HCF.out Tryd.underlying23 rfl (by rw [List.length_map, first_len]; exact size_32) ?_)
    | (go_at_call 47; refine (CO.out _).mono ?_; rintro e w1 ⟨rfl, q1⟩)
    | (refine wpList_store_row rfl 23 _ _ rfl w1.heap.size (cellsOf' u8c st0) rfl rfl 23 _ (heap_alloc_new _ _) (by rw [hs0]; exact size_32) (by rw [hs0]; rfl) (co_one u8c_one) ?_))
  obtain ⟨sb, hsb⟩ : ∃ sb, w1.heap.size = sb := ⟨_, rfl⟩
  have z1 : Z ≤ w1.heap.size := (by have := q1.size; have := HZ.out; omega)
  generalize hW2 : World.setRow _ _ _ = w2
  have G2 : w2.heap[sb]? = some (.cells (cellsOf' u8c st0) 23 (0, 0)) := (by rw [← hW2, ← hsb]; exact setRow_heap _ _ _ _ _ _ (heap_alloc_new _ _))
  have b2 : Below Z W w2 := (by rw [← hW2]; exact below_setRow ((by rw [← HZ.out]; exact q1 : Below Z W w1).alloc z1 _) z1 _)
  have z2 : w2.heap.size = sb + 1 := (by rw [← hW2, ← hsb]; simp)
  have zs : Z ≤ sb := (by rw [← hsb]; exact z1)
  clear hW2 q1 z1; rw [hsb]; clear hsb
  refine (TA.out w2).mono ?_; rintro e w3 ⟨v3, rfl, own3, q3⟩
  obtain ⟨g3, c3, rfl, z3, l3, k3, m3⟩ := own_form3 own3 (by rw [tail_len]; omega)
  have b3 : Below Z W w3 := b2.trans (q3.mono (by omega))
  have sS : SliceOf u8c w3 (.slice a n cap) l := (by have := HS.out.below (by rw [HZ.out]; exact b3); rwa [HN.out] at this)
  have PA := parts_new (w := w3) (vs := [.slice a n cap, .slice (some ⟨g3, 0, none⟩) (tailN n).length c3]) (Ls := [l, tailN n]) rfl (by show 2 ≤ maxLen; decide) (each2 (P := fun x L => SliceOf u8c w3 x L ∧ ∀ b, x.ownBlock = some b → b < w3.heap.size) ⟨sS, fun b hb => by rw [← HN.out] at hb; exact Nat.lt_of_lt_of_le (HV.out b hb) b3.size⟩ ⟨own_slice_at own3, fun b hb => by cases hb; exact l3⟩)
  have ef : ([l, tailN n] : List (List Nat)).flatten = textN l := (by unfold textN; rw [HN.out]; simp)
  have tl : (textN l).length ≤ 200000 := (by rw [text_len, HN.out]; omega)
  have tp : 0 < (textN l).length := (by rw [text_len]; omega)
  have CC := Lib.hid (Concat_any PA (by rw [ef]; omega) (by rw [ef]; exact tp) (by show 2 ≤ 1000000; decide))
  have G3 := (q3.block sb (by omega)).trans G2
  have z3b : sb < w3.heap.size := (by have := q3.size; omega)
  have HEF := Lib.hid ef
  have HB3 := Lib.hid b3
  clear own3 q3 sS PA k3 m3 l3 z3 G2 b2 z2 b3 ef
  go_wp2_with (first | (go_at_call 60; refine CC.out.mono ?_; rintro e w4 ⟨v4, rfl, own4, q4⟩; rw [HEF.out] at own4))
  have b34 : Below w3.heap.size w3 w4 := ((Below.refl _ _).alloc (Nat.le_refl _) _).trans (q4.mono (by simp))
  have G4 : w4.heap[sb]? = some (.cells (cellsOf' u8c (stateN wd (textN l) 0)) 23 (0, 0)) := by rw [state_zero, HST0.out]; exact (b34.block sb z3b).trans G3
  have zw3 : Z ≤ w3.heap.size := by omega
  have b4 : Below Z W w4 := HB3.out.trans (b34.mono zw3)
  have D4 := Lib.hid (HDW.out.low hb1 b4)
  obtain ⟨zb, hzb⟩ : ∃ zb, w4.heap.size = zb := ⟨_, rfl⟩
  have HZB := Lib.hid hzb
  have z34 : sb < zb := by have := b34.size; omega
  have S4 : SliceOf u8c w4 v4 ((textN l).drop (64 * 0)) := own_slice_at own4
  have V4 : ∀ g, v4.ownBlock = some g → sb < g ∧ g < zb := fun g hg => by
    obtain ⟨h1, h2⟩ := own4.lt g hg
    simp at h1
    omega
  have HB4 := Lib.hid b4
  obtain ⟨B, hB⟩ : ∃ B, countN l = B := ⟨_, rfl⟩
  have HB := Lib.hid hB
  have MB : (textN l).length = 64 * B := by
    have := text_whole l
    unfold countN at hB
    rw [hB] at this
    exact this
  have HMB := Lib.hid MB
  have t4 : TouchB sb w4 w4 := TouchB.refl _ _
  clear own4 q4 b34 G3 b4 hzb hB MB HB3 CC
  go_loopw [5, 7] (fun o b wr => ∃ k : Nat, k ≤ B ∧ SliceOf u8c w4 b ((textN l).drop (64 * k)) ∧ (∀ g, b.ownBlock = some g → sb < g ∧ g < zb) ∧ WideAt zb 90 96 wr o ((inputsN wd l).take k) ∧ wr.heap[sb]? = some (.cells (cellsOf' u8c (stateN wd (textN l) k)) 23 (0, 0)) ∧ TouchB sb w4 wr) (fun _ b _ => lenOf b)
  case atStart => exact ⟨0, by omega, S4, V4, WideAt.nil, G4, t4⟩
  case round =>
    obtain ⟨k, hk, sv, hv', hw, hG, ht⟩ := hrel
    clear S4 V4 G4 t4
    have hL : ((textN l).drop (64 * k)).length = 64 * B - 64 * k := by rw [List.length_drop, HMB.out]
    by_cases hlt : k < B
    · obtain ⟨gs, o, cp, rfl, c1, c2, cg⟩ := slice_at sv (n := 64 * B - 64 * k) hL (by omega)
      obtain ⟨hg1, hg2⟩ := hv' gs rfl
      obtain ⟨N, hN⟩ : ∃ N, 64 * B - 64 * k = N := ⟨_, rfl⟩
      have HNN := Lib.hid hN
      rw [hN] at c1 ⊢
      have N64 : 64 ≤ N := by omega
      obtain ⟨C, hC⟩ : ∃ C, chunk (textN l) k = C := ⟨_, rfl⟩
      obtain ⟨st, hst⟩ : ∃ st, stateN wd (textN l) k = st := ⟨_, rfl⟩
      have C64 : C.length = 64 := by rw [← hC]; exact chunk_at (by rw [HB.out]; exact hlt)
      have bC : Bytes C := by rw [← hC]; exact chunk_bytes (text_bytes HBL.out) k
      have S32 : st.length = 32 := by rw [← hst]; exact state_len _ _ _
      have bS : Bytes st := by rw [← hst]; exact state_bytes _ _ _
      have NX := state_succ wd (textN l) k
      have IT := inputs_take (wd := wd) (l := l) (k := k) (by rw [HB.out]; exact hlt)
      rw [hC, hst] at NX IT
      rw [hst] at hG
      have rC : w4.rangeAt gs o (C.map u8c) := fun j u hj => by
        obtain ⟨c, hc, rfl⟩ := Option.map_eq_some_iff.1 (by rw [List.getElem?_map] at hj; exact hj)
        have hj2 : j < 64 := by have := (List.getElem?_eq_some_iff.1 hc).1; omega
        rw [← hC, chunk_get hj2] at hc
        exact cg j c (by rw [List.getElem?_drop]; exact hc)
      obtain ⟨wk, hwk⟩ : ∃ w, w = wr := ⟨_, rfl⟩
      subst hwk
      have rC2 : wk.rangeAt gs o (C.map u8c) := fun j u hj => ht.cell (rC j u hj) (by show gs ≠ sb; omega)
      have zk : zb ≤ wk.heap.size := by have := ht.size; have := HZB.out; omega
      have T0 : wk.drew.rangeAt sb 0 (st.map u8c) ∧ wk.drew.rangeAt gs o (C.map u8c) := ⟨(World.rangeAt_drew _ _ _ _).2 (box_range' hG), (World.rangeAt_drew _ _ _ _).2 rC2⟩
      have zS : (Tryd.prog.info? 23).map (·.size) = some (st.map u8c).length := by rw [List.length_map, S32]; exact size_32
      have zC : (Tryd.prog.info? 24).map (·.size) = some (C.map u8c).length := by rw [List.length_map, C64]; exact size_64
      have I96 : (st ++ C).length = 96 := by rw [List.length_append, S32, C64]
      have hIs : (cellsOf' u8c (st ++ C)).size = 96 := by rw [co_size, I96]
      have N0i : (0 : Int) < (N : Int) := by omega
      have N64i : (64 : Int) ≤ (N : Int) := by omega
      have cpi : (N : Int) ≤ (cp : Int) := by omega
      have cp64 : (64 : Int) ≤ (cp : Int) := by omega
      have HCC := Lib.hid (And.intro C64 (And.intro bC (And.intro S32 bS)))
      have HG := Lib.hid hG
      have HW := Lib.hid hw
      have HT := Lib.hid ht
      have HCG := Lib.hid cg
      have HNX := Lib.hid NX
      have HIT := Lib.hid IT
      clear hN hC hst C64 bC S32 bS hG hw ht rC rC2 sv hv' cg NX IT
      go_wp2_with fail
      refine wp_region_held (S := fun w => w.rangeAt sb 0 (st.map u8c) ∧ w.rangeAt gs o (C.map u8c)) (by kernel_rfl) ?_
      change wpAnyH _ _ _ _ _ _ _ _ (World.drew _)
      refine anyH_take (i := 0) (d := 24) (v := .agg (cellsOf' u8c st)) rfl rfl (by kernel_rfl) (by kernel_rfl) (by kernel_rfl) (fun _ _ _ h => h) (yieldsIf_load_mid (by kernel_rfl) 23 (.tmp 6) rfl sb 0 (by kernel_rfl) (st.map u8c) _ (fun w h => h.1) Tryd.underlying23 rfl zS) T0 ?_
      refine anyH_take (i := 1) (d := 25) (v := .slice (some ⟨gs, o, none⟩) N cp) rfl rfl (by kernel_rfl) (by kernel_rfl) (by kernel_rfl) (fun _ _ _ h => h) (Or.inl ⟨by kernel_rfl, fun w _ => by kernel_rfl⟩) T0 ?_
      refine anyH_take (i := 2) (d := 26) (v := .pointer (some ⟨gs, o, none⟩)) rfl rfl (by kernel_rfl) (by kernel_rfl) (by kernel_rfl) (fun _ _ _ h => h) (yields_arrptr (by kernel_rfl) rfl (n := N) (cap := cp) (by kernel_rfl) N64) T0 ?_
      refine anyH_take (i := 3) (d := 27) (v := .agg (cellsOf' u8c C)) rfl rfl (by kernel_rfl) (by kernel_rfl) (by kernel_rfl) (fun _ _ _ h => h) (yieldsIf_load_mid (by kernel_rfl) 24 (.tmp 26) rfl gs o (by kernel_rfl) (C.map u8c) _ (fun w h => h.2) Tryd.underlying24 rfl zC) T0 ?_
      refine anyH_take (i := 4) (d := 28) (v := .agg (cellsOf' u8c (st ++ C))) rfl rfl (by kernel_rfl) (by kernel_rfl) (by kernel_rfl) (fun _ _ _ h => h) (yields_build_in (by kernel_rfl) rfl (by kernel_rfl) (by kernel_rfl) HCC.out.2.2.1 HCC.out.1) T0 ?_
      obtain ⟨xb, hxb⟩ : ∃ xb, wk.heap.size = xb := ⟨_, rfl⟩
      have HXB := Lib.hid hxb
      refine anyH_one (i := 5) (by kernel_rfl) rfl ?_
      go_wp2_with fail
      generalize hW5 : World.drew (World.alloc _ _) = w5
      have sx : sb < xb := by omega
      have gx : gs < xb := by omega
      have G5 : w5.heap[xb]? = some (.cells (cellsOf' u8c (List.replicate 96 0)) 90 (0, 0)) := by rw [← hW5, ← hxb]; exact heap_alloc_new wk _
      have B5 : Below xb wk w5 := by rw [← hW5, ← hxb]; exact ((Below.refl _ _).alloc (Nat.le_refl _) _).drew
      have Z5 : w5.heap.size = xb + 1 := by rw [← hW5, ← hxb]; simp
      have T5 : w5.rangeAt sb 0 (st.map u8c) ∧ w5.rangeAt gs o (C.map u8c) := ⟨below_range B5 sx ((World.rangeAt_drew _ _ _ _).1 T0.1), below_range B5 gx ((World.rangeAt_drew _ _ _ _).1 T0.2)⟩
      clear hW5
      refine ⟨T5, ?_⟩
      refine anyH_one (i := 6) (by kernel_rfl) rfl ?_
      refine wpList_store_row rfl 90 _ _ rfl xb (cellsOf' u8c (st ++ C)) (by rw [← hxb]; kernel_rfl) (by kernel_rfl) 90 _ G5 (by rw [hIs]; exact size_in) (by rw [hIs]; rfl) (co_one u8c_one) ?_
      have G6 := setRow_heap _ _ _ (cellsOf' u8c (st ++ C)) _ _ G5
      have B6 : Below xb wk (w5.setRow xb (cellsOf' u8c (st ++ C))) := below_setRow B5 (Nat.le_refl _) _
      have Z6 : (w5.setRow xb (cellsOf' u8c (st ++ C))).heap.size = xb + 1 := by rw [← Z5]; simp
      generalize w5.setRow xb (cellsOf' u8c (st ++ C)) = w6 at *
      have T6 : w6.rangeAt sb 0 (st.map u8c) ∧ w6.rangeAt gs o (C.map u8c) := ⟨below_range B6 sx ((World.rangeAt_drew _ _ _ _).1 T0.1), below_range B6 gx ((World.rangeAt_drew _ _ _ _).1 T0.2)⟩
      go_wp2_with fail
      refine ⟨T6, wpAnyH_done (by kernel_rfl) ?_ _⟩
      have HG6 := Lib.hid (And.intro G6 (And.intro B6 Z6))
      clear T6 T5 T0 G5 B5 Z5 G6 B6 Z6
      have hw6 := HW.out.below (by rw [HXB.out]; exact HG6.out.2.1)
      have hw7 := hw6.below ((Below.refl _ _).alloc (Nat.le_refl _) (.cells (cellsOf' u8c (st ++ C)) 90 (0, 0)))
      have z6 : zb ≤ w6.heap.size := by have := HG6.out.2.2; have := HXB.out; omega
      have zx : zb ≤ xb := by have := HXB.out; omega
      have z7 : zb ≤ (w6.alloc (.cells (cellsOf' u8c (st ++ C)) 90 (0, 0))).heap.size := by simp; omega
      have q6 : Below zb wk (w6.alloc (.cells (cellsOf' u8c (st ++ C)) 90 (0, 0))) := (HG6.out.2.1.mono zx).alloc z6 _
      have kk : ((inputsN wd l).take k).length ≤ 1000000 := by rw [List.length_take]; have := HMB.out; omega
      have G6a : (w6.alloc (.cells (cellsOf' u8c (st ++ C)) 90 (0, 0))).heap[xb]? = some (.cells (cellsOf' u8c (st ++ C)) 90 (0, 0)) := by rw [Below.heap_alloc _ _ _ (by have := HG6.out.2.2; omega)]; exact HG6.out.1
      have xo : ∀ g, (u5 : Value).ownBlock = some g → g < xb := fun g hg => by have := (HW.out.1.lt g hg).2; rw [HXB.out] at this; exact this
      have s6 : xb < (w6.alloc (.cells (cellsOf' u8c (st ++ C)) 90 (0, 0))).heap.size := by have := HG6.out.2.2; simp; omega
      have hNs : (cellsOf' u8c (compressN wd st C)).size = 32 := by rw [co_size, compress_len]
      have hSs : (cellsOf' u8c st).size = 32 := by rw [co_size, HCC.out.2.2.1]
      clear hw6
      go_wp2_with (first
        | (at_builtin; refine app_wide4 87 _ 96 (by decide) Tryd.underlying87 info_in (by kernel_rfl) (by decide) (.tmp 29) (.tmp 31) rfl rfl (by kernel_rfl) hw7 w6.heap.size (st ++ C) (by kernel_rfl) (heap_alloc_new w6 _) I96 z7 kk ?_; intro v7 w7 W7 q7 g7; have HW7 := Lib.hid W7; have HQ7 := Lib.hid (q6.trans q7); have HX7 := Lib.hid ((g7.block xb s6 (fun e => by have := xo xb e.symm; omega)).trans G6a); have R7 := Lib.hid (And.intro (row_range (o := 0) (cs := st.map u8c) (cur := (st ++ C).map u8c) HX7.out (fun j v h => by rw [Nat.zero_add, List.map_append, List.getElem?_append_left (List.getElem?_eq_some_iff.1 h).1]; exact h)) (row_range (o := 32) (cs := C.map u8c) (cur := (st ++ C).map u8c) HX7.out (fun j v h => by rw [List.map_append, List.getElem?_append_right (by rw [List.length_map, HCC.out.2.2.1]; omega), List.length_map, HCC.out.2.2.1, Nat.add_sub_cancel_left]; exact h))); have BZ := (HT.out.below (B := Z) (by have := HZB.out; omega) zs).trans (HQ7.out.mono (by omega)); have CP := Lib.hid (Compress_any (wd := wd) HCC.out.2.2.1 HCC.out.1 HCC.out.2.2.2 HCC.out.2.1 w7 (D4.out.low hb1 BZ)); have GS7 := (HQ7.out.block sb z34).trans HG.out; have zw7 : zb ≤ w7.heap.size := (by have := HQ7.out.size; omega); clear W7 q7 g7 hw7 q6 G6a xo s6 BZ)
        | (refine wpList_load_row rfl 90 _ rfl xb rfl 90 _ (0, 0) _ HG6.out.1 Tryd.underlying90 rfl (by rw [hIs]; exact size_in) ?_)
        | (refine wpList_build1 (s := 96) (by decide) (by decide) Tryd.underlying87 info_in (by kernel_rfl) (C := st ++ C) I96 rfl (.tmp 30) rfl rfl ?_)
        | (refine wpList_load_mid rfl 23 _ rfl xb 0 rfl (st.map u8c) _ R7.out.1 Tryd.underlying23 rfl zS ?_)
        | (refine wpList_load_mid rfl 24 _ rfl xb 32 rfl (C.map u8c) _ R7.out.2 Tryd.underlying24 rfl zC ?_)
        | (go_at_call 12; refine CP.out.mono ?_; rintro e w8 ⟨rfl, q8⟩; have GS8 := Lib.hid ((q8.block sb (by omega)).trans GS7))
        | (refine wpList_store_row rfl 23 _ _ rfl sb (cellsOf' u8c (compressN wd st C)) rfl rfl 23 _ GS8.out (by rw [hNs]; exact size_32) (by rw [hNs, hSs]) (co_one u8c_one) ?_))
      refine ⟨⟨k + 1, by omega, ?_, ?_, ?_, ?_, ?_⟩, ?_⟩
      · rw [show 64 * (k + 1) = 64 * k + 64 by omega, ← List.drop_drop]
        split
        · rename_i hcp
          rw [show N - 64 = 0 by omega, List.drop_eq_nil_of_le (by rw [hL, HNN.out]; omega)]
          exact slice_none (by omega)
        · exact slice_rest (by rw [hL, HNN.out]) N64 c1 c2 HCG.out
      · intro g hg
        split at hg <;> (cases hg; exact ⟨hg1, hg2⟩)
      · rw [HIT.out]
        exact ((HW7.out.below q8).touch ((TouchB.refl _ _).setRow _) (by omega))
      · rw [HNX.out]
        exact setRow_heap _ _ _ _ _ _ GS8.out
      · exact ((touch_below HT.out HQ7.out (by rw [HZB.out]; exact Nat.le_refl _)).trans (TouchB.of_below q8)).setRow _
      · show N - 64 < N
        omega
    · obtain rfl : k = B := by omega
      obtain ⟨ab, cb, rfl, _⟩ := sv
      rw [hL, Nat.sub_self]
      rw [List.take_of_length_le (by rw [inputs_len, HB.out]; exact Nat.le_refl _)] at hw
      have HWF := Lib.hid (hw.low (Z' := Z) (by have := HB4.out.size; have := HZ.out; have := HZB.out; omega))
      have HTF := Lib.hid (HB4.out.trans (ht.below (B := Z) (by have := HZB.out; omega) zs))
      clear hw hG ht hv' 
      go_wp2
      go_ret
      exact ⟨_, rfl, HWF.out, HTF.out⟩
end Go.Proofs.YtcifnfffoiiceaaDoor
