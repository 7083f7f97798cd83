/-
  The walk of HashSums.
-/
import Derived.Test.YtcifnfffoiiceaaDoorGiven
import Derived.Test.YtcifnfffoiiceaaDoorHelds
import Derived.Test.YtcifnfffoiiceaaDoorAwake2
namespace Go.Proofs.YtcifnfffoiiceaaDoor
open Go.RowKit
set_option linter.unusedVariables false
set_option pp.deepTerms true
set_option pp.maxSteps 1000000

set_option maxRecDepth 16000 in
set_option maxHeartbeats 40000000 in
theorem walkHashSums (w : World) (D : DoorAt w) {wd : Int} {v : Value} {vs : List Value} {Ls : List (List Nat)} (w0 : (Lit.int .i64 wd).wf = true) (sP : PartsIn w v vs Ls) (bP : ∀ L ∈ Ls, Bytes L) (lP : ∀ L ∈ Ls, L.length ≤ 140737488351232) :
    Calls Tryd.prog 4 #[.int .i64 wd, v] w fun e w' => e = .returned (.bool true) ∧ Below w.heap.size w w' := by
  have HP := Lib.hid sP
  have HD := Lib.hid D
  have HBP := Lib.hid bP
  have HLP := Lib.hid lP
  have hb1 := D.1
  obtain ⟨a, cap, rfl, c1, c2, c3, c4⟩ := sP.1.form
  have C3 := Lib.hid c3
  have C4 := Lib.hid c4
  have NL := Lib.hid sP.2.1
  obtain ⟨N, hN⟩ : ∃ N, vs.length = N := ⟨_, rfl⟩
  rw [hN] at c1 NL ⊢
  have HNN := Lib.hid hN
  have Ni : (N : Int) ≤ 9223372036854775807 := by unfold maxLen at c2; omega
  obtain ⟨Z, hZ⟩ : ∃ Z, w.heap.size = Z := ⟨_, rfl⟩
  have HZ := Lib.hid hZ
  rw [hZ] at hb1 ⊢
  clear D w0 bP lP sP c3 c4 c2 hN hZ
  go_enter Tryd.func4, Tryd.ntmps4
  go_wp2_with fail
  go_loopw [5, 6] (fun s i wr => ∃ k : Nat, k ≤ N ∧ i = .int .i64 (k : Int) ∧ s = .int .i64 ((k + (Ls.take k).flatten.length : Nat) : Int) ∧ k + (Ls.take k).flatten.length ≤ 3000 ∧ wr = w) (fun _ i _ => N - (intOf i).toNat)
  case atStart => exact ⟨0, by omega, rfl, rfl, by simp, rfl⟩
  case round =>
    obtain ⟨k, hk, rfl, rfl, hs, rfl⟩ := hrel
    by_cases hlt : k < N
    · obtain ⟨x, hx⟩ : ∃ x, vs[k]? = some x := ⟨vs[k]'(by rw [HNN.out]; exact hlt), List.getElem?_eq_getElem _⟩
      obtain ⟨L, hL⟩ : ∃ L, Ls[k]? = some L := ⟨Ls[k]'(by rw [← NL.out]; exact hlt), List.getElem?_eq_getElem _⟩
      obtain ⟨b, off, rfl⟩ := C3.out k x hx
      have cx := C4.out b off rfl k x hx
      have sx := HP.out.2.2 k x L hx hL
      have lL := HLP.out L (List.mem_of_getElem? hL)
      have fl : (Ls.take (k + 1)).flatten = (Ls.take k).flatten ++ L := by rw [take_snoc' hL, List.flatten_append]; simp
      obtain ⟨ax, cpx, rfl, _⟩ := sx
      have FL := Lib.hid (show (Ls.take (k + 1)).flatten.length = (Ls.take k).flatten.length + L.length by rw [fl, List.length_append])
      obtain ⟨m, hm⟩ : ∃ m, k + (Ls.take k).flatten.length = m := ⟨_, rfl⟩
      obtain ⟨q, hq⟩ : ∃ q, L.length = q := ⟨_, rfl⟩
      have HM := Lib.hid hm
      have HQ := Lib.hid hq
      rw [hm] at hs ⊢
      rw [hq] at cx lL
      have mi : (m : Int) ≤ 3000 := by omega
      have qi : (q : Int) ≤ 140737488351232 := by omega
      have ki : (k : Int) < (N : Int) := by omega
      have k0 : (0 : Int) ≤ (k : Int) := by omega
      clear hx hL fl hm hq
      by_cases hbig : 3000 < m + (1 + q)
      · have hb2 : (3000 : Int) < (m : Int) + (1 + (q : Int)) := by omega
        go_wp2
        go_ret
        exact ⟨rfl, Below.refl _ _⟩
      · have hb2 : ¬ (3000 : Int) < (m : Int) + (1 + (q : Int)) := by omega
        go_wp2
        go_roundw
        case rel => exact ⟨k + 1, by omega, by go_num, (by congr 1; have := FL.out; have := HM.out; have := HQ.out; push_cast; omega), by have := FL.out; have := HM.out; have := HQ.out; omega, trivial⟩
        case measure => simp [intOf]; omega
    · obtain rfl : k = N := by omega
      obtain ⟨m5, h5⟩ : ∃ m, k + (Ls.take k).flatten.length = m := ⟨_, rfl⟩
      rw [h5]
      clear h5
      rw [List.take_of_length_le (by rw [← NL.out]; exact Nat.le_refl _)] at hs
      obtain ⟨M, hM⟩ : ∃ M, k + Ls.flatten.length = M := ⟨_, rfl⟩
      have HS := Lib.hid hs
      have kl : k ≤ 3000 := by omega
      have b0 : Below Z wr wr := Below.refl _ _
      have g0 : Given Z wr (.slice none 0 0) [] (Ls.take 0) := ⟨RowsOwn.nil, fun j x L hx => by simp at hx, fun i j x y _ hx => by simp at hx⟩
      clear hlt hk hs hM
      go_wp2_with fail
      obtain ⟨w, hw⟩ : ∃ u, u = wr := ⟨_, rfl⟩
      subst hw
      go_loopw [7, 8] (fun o i wx => ∃ (n : Nat) (gs : List Value), n ≤ k ∧ i = .int .i64 (n : Int) ∧ gs.length = n ∧ Given Z wx o gs (Ls.take n) ∧ Below Z w wx) (fun _ i _ => k - (intOf i).toNat)
      case atStart => exact ⟨0, [], by omega, rfl, rfl, g0, b0⟩
      case round =>
        obtain ⟨n, gs, hn, rfl, hgl, hg, qx⟩ := hrel
        clear g0 b0
        obtain ⟨wx, hwx⟩ : ∃ u, u = wr := ⟨_, rfl⟩
        subst hwx
        by_cases hlt : n < k
        · obtain ⟨x, hx⟩ : ∃ x, vs[n]? = some x := ⟨vs[n]'(by rw [HNN.out]; exact hlt), List.getElem?_eq_getElem _⟩
          obtain ⟨L, hL⟩ : ∃ L, Ls[n]? = some L := ⟨Ls[n]'(by rw [← NL.out]; exact hlt), List.getElem?_eq_getElem _⟩
          obtain ⟨b, off, rfl⟩ := C3.out n x hx
          have cw := C4.out b off rfl n x hx
          have sw := HP.out.2.2 n x L hx hL
          have bw : b < Z := by rw [← HZ.out]; exact World.block_lt_of_cell? _ _ cw
          have cx : wx.cell? ⟨b, off + n, none⟩ = some x := (qx.cell (p := ⟨b, off + n, none⟩) bw).trans cw
          have sx := sw.below (by rw [HZ.out]; exact qx)
          have TK : Hid (Ls.take (n + 1) = Ls.take n ++ [L]) := Lib.hid (take_snoc' hL)
          have lL : L.length ≤ 3000 := by
            have e : Ls.flatten = (Ls.take (n + 1)).flatten ++ (Ls.drop (n + 1)).flatten := by rw [← List.flatten_append, List.take_append_drop]
            have h1 : Ls.flatten.length = (Ls.take (n + 1)).flatten.length + (Ls.drop (n + 1)).flatten.length := by rw [← List.length_append, ← e]
            rw [TK.out, List.flatten_append, List.length_append] at h1
            have h2 : [L].flatten.length = L.length := by simp
            rw [h2] at h1
            have := HS.out
            omega
          have RW := Lib.hid (row2_any wx sx (by omega))
          have zx : Z ≤ wx.heap.size := by have := qx.size; have := HZ.out; omega
          have HG := Lib.hid hg
          have HGL := Lib.hid hgl
          have HQX := Lib.hid qx
          have ni : (n : Int) < (k : Int) := by omega
          have n0 : (0 : Int) ≤ (n : Int) := by omega
          obtain ⟨ax, cpx, rfl, _⟩ := sx
          clear hx hL cw sw hg hgl qx
          go_wp2_with fail
          refine RW.out.mono ?_
          rintro e w1 ⟨v1, rfl, r1, q1⟩
          have bk := r1.block
          have hf := r1.form
          obtain ⟨g1, cp1, rfl, _, _, _⟩ := hf
          have ro1 := HG.out.1.below q1
          have ro2 := ro1.below ((Below.refl _ _).alloc (Nat.le_refl _) (.cells #[.slice (some ⟨g1, 0, none⟩) L.length cp1] 29 (0, 0)))
          have q2 : Below w1.heap.size w1 (w1.alloc (.cells #[.slice (some ⟨g1, 0, none⟩) L.length cp1] 29 (0, 0))) := (Below.refl _ _).alloc (Nat.le_refl _) _
          have z1 : wx.heap.size ≤ w1.heap.size := q1.size
          have s2 : (w1.alloc (.cells #[.slice (some ⟨g1, 0, none⟩) L.length cp1] 29 (0, 0))).heap.size = w1.heap.size + 1 := by simp
          obtain ⟨bk1, bk2⟩ := bk g1 rfl
          have RO2 := Lib.hid ro2
          have R1 := Lib.hid (r1.below q2)
          have HQ1 := Lib.hid q1
          have f1 : Z ≤ (w1.alloc (.cells #[.slice (some ⟨g1, 0, none⟩) L.length cp1] 29 (0, 0))).heap.size := by rw [s2]; omega
          have f2 : gs.length ≤ 100000 := by rw [HGL.out]; omega
          have f3 : g1 < (w1.alloc (.cells #[.slice (some ⟨g1, 0, none⟩) L.length cp1] 29 (0, 0))).heap.size := by rw [s2]; omega
          have f4 := Lib.hid (show ∀ g, g < wx.heap.size → ¬ g = g1 from fun g h e => by omega)
          have F := Lib.hid (And.intro f1 (And.intro f2 f3))
          clear ro1 ro2 r1 q1 bk RW f1 f2 f3 s2
          go_wp2_with (at_builtin; refine app_rows (.tmp 36) (.tmp 42) rfl rfl rfl RO2.out w1.heap.size _ L rfl (heap_alloc_new _ _) rfl R1.out.slice (fun b hb => by cases hb; exact ⟨F.out.2.2, fun e => f4.out _ (HG.out.1.1.lt _ e).2 rfl⟩) F.out.1 F.out.2.1 ?_; intro v9 w9 RO9 hg9 q9 or9; have HRO9 := Lib.hid RO9; have HG9 := Lib.hid hg9; have HQ9 := Lib.hid q9; clear RO9 hg9 q9)
          have qa : Below wx.heap.size wx (w1.alloc (.cells #[.slice (some ⟨g1, 0, none⟩) L.length cp1] 29 (0, 0))) := HQ1.out.alloc z1 _
          have G9 := Lib.hid (HG.out.more qa R1.out zx HRO9.out HG9.out)
          have q9 : Below Z w w9 := HQX.out.trans ((qa.mono zx).trans HQ9.out)
          go_roundw
          case rel => exact ⟨n + 1, gs ++ [.slice (some ⟨g1, 0, none⟩) L.length cp1], by omega, by go_num, by rw [List.length_append, HGL.out]; rfl, by rw [TK.out]; exact G9.out, q9⟩
          case measure => simp [intOf]; omega
        · obtain rfl : n = k := by omega
          rw [List.take_of_length_le (by rw [← NL.out]; exact Nat.le_refl _)] at hg
          have RS := Lib.hid (refSum_any (wd := wd) (HP.out.below (by rw [HZ.out]; exact qx)) HBP.out (by have := HS.out; omega) (by rw [HNN.out]; omega))
          have HG := Lib.hid hg
          have HGL := Lib.hid hgl
          have HQX := Lib.hid qx
          obtain ⟨X, hX⟩ : ∃ X, sumN wd Ls.flatten = X := ⟨_, rfl⟩
          have XL := Lib.hid (show X.length = 32 by rw [← hX]; exact sum_len wd _)
          rw [hX, HNN.out] at RS
          have HX := Lib.hid hX
          obtain ⟨oa, oc, rfl, d1, d2, d3, d4⟩ := hg.1.at.1.form
          rw [hgl] at d1
          rw [hgl] at HG ⊢
          clear hg hgl qx hlt hn hX d2 d3 d4
          go_wp2_with fail
          refine RS.out.mono ?_
          rintro e w3 ⟨rfl, q3⟩
          have zx : Z ≤ wx.heap.size := by have := HQX.out.size; have := HZ.out; omega
          have hXs : (cellsOf' u8c X).size = 32 := by rw [co_size, XL.out]
          have z3 : wx.heap.size ≤ w3.heap.size := q3.size
          obtain ⟨w4, h4⟩ : ∃ u, (w3.alloc (.cells (cellsOf' u8c X) 23 (0, 0))) = u := ⟨_, rfl⟩
          have q4 : Below w3.heap.size w3 w4 := by rw [← h4]; exact (Below.refl _ _).alloc (Nat.le_refl _) _
          have g4 : w4.heap[w3.heap.size]? = some (.cells (cellsOf' u8c X) 23 (0, 0)) := by rw [← h4]; exact heap_alloc_new _ _
          have s4 : w4.heap.size = w3.heap.size + 1 := by rw [← h4]; simp
          have G4 := Lib.hid (HG.out.below (q3.trans (q4.mono z3)))
          have Q4 := Lib.hid (HQX.out.trans ((q3.mono zx).trans (q4.mono (Nat.le_trans zx z3))))
          have HB4 := Lib.hid g4
          have H4 := Lib.hid h4
          have HD4 := Lib.hid (HD.out.low hb1 Q4.out)
          have z4 : Hid (Z ≤ w4.heap.size) := Lib.hid (by omega)
          have zX : (Tryd.prog.info? 23).map (·.size) = some (X.map u8c).length := by rw [List.length_map, XL.out]; exact size_32
          have EX := Lib.hid (fun (w : World) => by have := run_eql_h w XL.out XL.out; rwa [decide_eq_true rfl] at this : ∀ w, (Op.equalIn 10000 23 (.agg (cellsOf' u8c X)) (.agg (cellsOf' u8c X))).run Tryd.prog w = .ok true w)
          have b9 : w3.heap.size < w4.heap.size := by omega
          have B9 := Lib.hid b9
          clear RS q3 zx z3 h4 q4 g4 s4 b9 HG HQX
          go_wp2_with (refine wpList_store_rowK rfl rfl 23 (.tmp 9) (.tmp 46) rfl w3.heap.size (cellsOf' u8c X) (by kernel_rfl) (by kernel_rfl) 23 _ (heap_alloc_new _ _) (hc_all XL.out) (hold32 XL.out) (co_one u8c_one) ?_; rw [setRow_alloc, H4.out])
          refine wp_region_held (S := fun w' => Below w4.heap.size w4 w') (by kernel_rfl) ?_
          change wpAnyH _ _ _ _ _ _ _ _ (World.drew _)
          have T0 : Below w4.heap.size w4 w4.drew := (Below.refl _ _).drew
          refine anyH_take (i := 0) (d := 47) (v := .int .i64 wd) rfl rfl (by kernel_rfl) (by kernel_rfl) (by kernel_rfl) (fun _ _ _ h => h) (Or.inl ⟨by kernel_rfl, fun w _ => by kernel_rfl⟩) T0 ?_
          refine anyH_take (i := 1) (d := 48) (v := (.slice oa n oc)) rfl rfl (by kernel_rfl) (by kernel_rfl) (by kernel_rfl) (fun _ _ _ h => h) (Or.inl ⟨by kernel_rfl, fun w _ => by kernel_rfl⟩) T0 ?_
          refine anyH_take (i := 3) (d := 50) (v := .agg (cellsOf' u8c X)) rfl rfl (by kernel_rfl) (by kernel_rfl) (by kernel_rfl) (fun _ _ _ h => h) (yieldsIf_load_mid (by kernel_rfl) 23 (.tmp 9) rfl w3.heap.size 0 (by kernel_rfl) (X.map u8c) _ (fun w h => box_rangeK ((h.block _ B9.out).trans HB4.out)) Tryd.underlying23 rfl zX) T0 ?_
          have C1 := hashSum_any (wd := wd) (G4.out.below T0).1.at HBP.out (HD4.out.below T0) (by have := HS.out; omega) (by have := HGL.out; omega)
          rw [HX.out] at C1
          refine anyH_enter1 (i := 2) (d := 49) (by kernel_rfl) rfl rfl (by kernel_rfl) (C1) (by kernel_rfl) ?_
          intro y1 p1
          have T1 := T0.trans (p1.mono T0.size)
          refine ⟨T1, ?_⟩
          refine anyH_take (i := 4) (d := 51) (v := .bool false) rfl rfl (by kernel_rfl) (by kernel_rfl) (by kernel_rfl) (fun _ _ _ h => h) (yields_neA (p := true) (by kernel_rfl) rfl (X := cellsOf' u8c X) (Y := cellsOf' u8c X) (by kernel_rfl) (by kernel_rfl) guard_h EX.out) T1 ?_
          refine anyH_take (i := 5) (d := 52) (v := .bool false) rfl rfl (by kernel_rfl) (by kernel_rfl) (by kernel_rfl) (fun _ _ _ h => h) (Or.inl ⟨by kernel_rfl, fun w _ => by kernel_rfl⟩) T1 ?_
          refine anyH_take (i := 6) (d := 53) (v := .int .i64 wd) rfl rfl (by kernel_rfl) (by kernel_rfl) (by kernel_rfl) (fun _ _ _ h => h) (Or.inl ⟨by kernel_rfl, fun w _ => by kernel_rfl⟩) T1 ?_
          refine anyH_take (i := 7) (d := 54) (v := (.slice oa n oc)) rfl rfl (by kernel_rfl) (by kernel_rfl) (by kernel_rfl) (fun _ _ _ h => h) (Or.inl ⟨by kernel_rfl, fun w _ => by kernel_rfl⟩) T1 ?_
          refine anyH_take (i := 9) (d := 56) (v := .agg (cellsOf' u8c X)) rfl rfl (by kernel_rfl) (by kernel_rfl) (by kernel_rfl) (fun _ _ _ h => h) (yieldsIf_load_mid (by kernel_rfl) 23 (.tmp 9) rfl w3.heap.size 0 (by kernel_rfl) (X.map u8c) _ (fun w h => box_rangeK ((h.block _ B9.out).trans HB4.out)) Tryd.underlying23 rfl zX) T1 ?_
          have C2 := hashSum_any (wd := wd) (G4.out.below T1).1.at HBP.out (HD4.out.below T1) (by have := HS.out; omega) (by have := HGL.out; omega)
          rw [HX.out] at C2
          refine anyH_enter1 (i := 8) (d := 55) (by kernel_rfl) rfl rfl (by kernel_rfl) (C2) (by kernel_rfl) ?_
          intro y2 p2
          have T2 := T1.trans (p2.mono T1.size)
          refine ⟨T2, ?_⟩
          refine anyH_take (i := 10) (d := 57) (v := .bool false) rfl rfl (by kernel_rfl) (by kernel_rfl) (by kernel_rfl) (fun _ _ _ h => h) (yields_neA (p := true) (by kernel_rfl) rfl (X := cellsOf' u8c X) (Y := cellsOf' u8c X) (by kernel_rfl) (by kernel_rfl) guard_h EX.out) T2 ?_
          refine anyH_take (i := 11) (d := 58) (v := .bool false) rfl rfl (by kernel_rfl) (by kernel_rfl) (by kernel_rfl) (fun _ _ _ h => h) (Or.inl ⟨by kernel_rfl, fun w _ => by kernel_rfl⟩) T2 ?_
          refine anyH_take (i := 12) (d := 59) (v := .bool false) rfl rfl (by kernel_rfl) (by kernel_rfl) (by kernel_rfl) (fun _ _ _ h => h) (Or.inl ⟨by kernel_rfl, fun w _ => by kernel_rfl⟩) T2 ?_
          refine anyH_take (i := 13) (d := 60) (v := (.slice oa n oc)) rfl rfl (by kernel_rfl) (by kernel_rfl) (by kernel_rfl) (fun _ _ _ h => h) (Or.inl ⟨by kernel_rfl, fun w _ => by kernel_rfl⟩) T2 ?_
          refine anyH_take (i := 14) (d := 61) (v := .int .i64 (n : Int)) rfl rfl (by kernel_rfl) (by kernel_rfl) (by kernel_rfl) (fun _ _ _ h => h) (Or.inl ⟨by kernel_rfl, fun w _ => by kernel_rfl⟩) T2 ?_
          refine anyH_take (i := 15) (d := 62) (v := (.slice a n cap)) rfl rfl (by kernel_rfl) (by kernel_rfl) (by kernel_rfl) (fun _ _ _ h => h) (Or.inl ⟨by kernel_rfl, fun w _ => by kernel_rfl⟩) T2 ?_
          refine anyH_take (i := 16) (d := 63) (v := .int .i64 (n : Int)) rfl rfl (by kernel_rfl) (by kernel_rfl) (by kernel_rfl) (fun _ _ _ h => h) (Or.inl ⟨by kernel_rfl, fun w _ => by kernel_rfl⟩) T2 ?_
          refine anyH_take (i := 17) (d := 64) (v := .bool false) rfl rfl (by kernel_rfl) (by kernel_rfl) (by kernel_rfl) (fun _ _ _ h => h) (Or.inl ⟨by kernel_rfl, fun w _ => by go_simp⟩) T2 ?_
          refine anyH_take (i := 18) (d := 65) (v := .bool false) rfl rfl (by kernel_rfl) (by kernel_rfl) (by kernel_rfl) (fun _ _ _ h => h) (Or.inl ⟨by kernel_rfl, fun w _ => by kernel_rfl⟩) T2 ?_
          refine wpAnyH_done (by kernel_rfl) ?_ _
          try simp only [Act.put, List.setIfInBounds_toArray, List.set_cons_succ, List.set_cons_zero]
          have G5 := Lib.hid (G4.out.below T2)
          have Q5 := Lib.hid (Q4.out.trans (T2.mono z4.out))
          clear C1 C2 p1 p2 T0 T1 T2 G4 Q4 HB4 B9 H4 HD4 EX zX
          go_wp2_with fail
          have t0 : Turned Ls Ls 0 := Turned.start HBP.out
          have g50 := G5.out
          have q50 := Q5.out
          go_loopw [10] (fun i wr => ∃ (j : Nat) (Ms : List (List Nat)), j ≤ n ∧ i = .int .i64 (j : Int) ∧ Given Z wr (.slice oa n oc) gs Ms ∧ Turned Ls Ms j ∧ Below Z w wr) (fun i _ => n - (intOf i).toNat)
          case atStart => exact ⟨0, Ls, by omega, rfl, g50, t0, q50⟩
          case round =>
            obtain ⟨j, Ms, hj, rfl, hg, ht, qx⟩ := hrel
            clear g50 t0 q50
            obtain ⟨wy, hwy⟩ : ∃ u, u = wr := ⟨_, rfl⟩
            subst hwy
            by_cases hlt : j < n
            · have hlt := hlt
              obtain ⟨x, hx⟩ : ∃ x, gs[j]? = some x := ⟨gs[j]'(by rw [HGL.out]; exact hlt), List.getElem?_eq_getElem _⟩
              obtain ⟨L, hL⟩ : ∃ L, Ls[j]? = some L := ⟨Ls[j]'(by rw [← NL.out]; exact hlt), List.getElem?_eq_getElem _⟩
              obtain ⟨y, hy⟩ : ∃ y, vs[j]? = some y := ⟨vs[j]'(by rw [HNN.out]; exact hlt), List.getElem?_eq_getElem _⟩
              have hM : Ms[j]? = some L := (ht.2.2 j (Nat.le_refl _)).trans hL
              obtain ⟨b, rfl, cg⟩ := hg.1.base hx
              have rg := hg.2.1 j x L hx hM
              obtain ⟨pb, off, rfl⟩ := C3.out j y hy
              have cw := C4.out pb off rfl j y hy
              have bw : pb < Z := by rw [← HZ.out]; exact World.block_lt_of_cell? _ _ cw
              have cp : wy.cell? ⟨pb, off + j, none⟩ = some y := (qx.cell (p := ⟨pb, off + j, none⟩) bw).trans cw
              have sy := (HP.out.2.2 j y L hy hL).below (by rw [HZ.out]; exact qx)
              have lL : L.length ≤ 3000 := by
                have e : Ls.flatten = (Ls.take (j + 1)).flatten ++ (Ls.drop (j + 1)).flatten := by rw [← List.flatten_append, List.take_append_drop]
                have h1 : Ls.flatten.length = (Ls.take (j + 1)).flatten.length + (Ls.drop (j + 1)).flatten.length := by rw [← List.length_append, ← e]
                rw [take_snoc' hL, List.flatten_append, List.length_append] at h1
                have h2 : [L].flatten.length = L.length := by simp
                rw [h2] at h1
                have := HS.out
                omega
              have S1 := same2_any wy.drew (rg.below (Below.refl _ _).drew).slice (sy.below (Below.refl _ _).drew)
              rw [decide_eq_true rfl] at S1
              have HS1 := Lib.hid S1
              have HR := Lib.hid rg
              have HG6 := Lib.hid hg
              have HT6 := Lib.hid (ht.next (Nat.le_succ j))
              have HQ6 := Lib.hid qx
              have HLL := Lib.hid lL
              have Hx := Lib.hid hx
              have ji : (j : Int) < (n : Int) := by omega
              have j0 : (0 : Int) ≤ (j : Int) := by omega
              have T0 : wy.drew.cell? ⟨b, j, none⟩ = some x ∧ wy.drew.cell? ⟨pb, off + j, none⟩ = some y ∧ Below wy.heap.size wy wy.drew := ⟨cg, cp, (Below.refl _ _).drew⟩
              have bb : b < wy.heap.size := World.block_lt_of_cell? _ _ cg
              have bp : pb < wy.heap.size := World.block_lt_of_cell? _ _ cp
              have HBB := Lib.hid (And.intro bb bp)
              clear S1 rg hg ht qx lL hx hL hy hM cw bw sy cg cp bb bp
              go_wp2_with fail
              · refine wp_region_held (S := fun w' => w'.cell? ⟨b, j, none⟩ = some x ∧ w'.cell? ⟨pb, off + j, none⟩ = some y ∧ Below wy.heap.size wy w') (by kernel_rfl) ?_
                change wpAnyH _ _ _ _ _ _ _ _ (World.drew _)
                refine anyH_take (i := 0) (d := 72) (v := (.slice (some ⟨b, 0, none⟩) n oc)) rfl rfl (by kernel_rfl) (by kernel_rfl) (by kernel_rfl) (fun _ _ _ h => h) (Or.inl ⟨by kernel_rfl, fun w _ => by kernel_rfl⟩) T0 ?_
                refine anyH_take (i := 1) (d := 73) (v := .int .i64 (j : Int)) rfl rfl (by kernel_rfl) (by kernel_rfl) (by kernel_rfl) (fun _ _ _ h => h) (Or.inl ⟨by kernel_rfl, fun w _ => by kernel_rfl⟩) T0 ?_
                refine anyH_take (i := 2) (d := 74) (v := .pointer (some ⟨b, j, none⟩)) rfl rfl (by kernel_rfl) (by kernel_rfl) (by kernel_rfl) (fun _ _ _ h => h) (Or.inl ⟨by kernel_rfl, fun w hw => by obtain ⟨h1, h2, h3⟩ := hw; go_simp⟩) T0 ?_
                refine anyH_take (i := 3) (d := 75) (v := x) rfl rfl (by kernel_rfl) (by kernel_rfl) (by kernel_rfl) (fun _ _ _ h => h) (Or.inl ⟨by kernel_rfl, fun w hw => by obtain ⟨h1, h2, h3⟩ := hw; go_simp⟩) T0 ?_
                refine anyH_take (i := 4) (d := 76) (v := (.slice (some ⟨pb, off, none⟩) n cap)) rfl rfl (by kernel_rfl) (by kernel_rfl) (by kernel_rfl) (fun _ _ _ h => h) (Or.inl ⟨by kernel_rfl, fun w _ => by kernel_rfl⟩) T0 ?_
                refine anyH_take (i := 5) (d := 77) (v := .int .i64 (j : Int)) rfl rfl (by kernel_rfl) (by kernel_rfl) (by kernel_rfl) (fun _ _ _ h => h) (Or.inl ⟨by kernel_rfl, fun w _ => by kernel_rfl⟩) T0 ?_
                refine anyH_take (i := 6) (d := 78) (v := .pointer (some ⟨pb, off + j, none⟩)) rfl rfl (by kernel_rfl) (by kernel_rfl) (by kernel_rfl) (fun _ _ _ h => h) (Or.inl ⟨by kernel_rfl, fun w hw => by obtain ⟨h1, h2, h3⟩ := hw; go_simp⟩) T0 ?_
                refine anyH_take (i := 7) (d := 79) (v := y) rfl rfl (by kernel_rfl) (by kernel_rfl) (by kernel_rfl) (fun _ _ _ h => h) (Or.inl ⟨by kernel_rfl, fun w hw => by obtain ⟨h1, h2, h3⟩ := hw; go_simp⟩) T0 ?_
                refine anyH_enter1 (i := 8) (d := 80) (by kernel_rfl) rfl rfl (by kernel_rfl) (HS1.out) (by kernel_rfl) ?_
                intro y1 p1
                have T1 : y1.cell? ⟨b, j, none⟩ = some x ∧ y1.cell? ⟨pb, off + j, none⟩ = some y ∧ Below wy.heap.size wy y1 := ⟨(p1.cell (p := ⟨b, j, none⟩) HBB.out.1).trans T0.1, (p1.cell (p := ⟨pb, off + j, none⟩) HBB.out.2).trans T0.2.1, T0.2.2.trans p1⟩
                refine ⟨T1, ?_⟩
                refine anyH_take (i := 9) (d := 81) (v := .bool false) rfl rfl (by kernel_rfl) (by kernel_rfl) (by kernel_rfl) (fun _ _ _ h => h) (Or.inl ⟨by kernel_rfl, fun w _ => by kernel_rfl⟩) T1 ?_
                refine anyH_take (i := 10) (d := 82) (v := .bool false) rfl rfl (by kernel_rfl) (by kernel_rfl) (by kernel_rfl) (fun _ _ _ h => h) (Or.inl ⟨by kernel_rfl, fun w _ => by kernel_rfl⟩) T1 ?_
                refine anyH_take (i := 11) (d := 83) (v := (.slice (some ⟨b, 0, none⟩) n oc)) rfl rfl (by kernel_rfl) (by kernel_rfl) (by kernel_rfl) (fun _ _ _ h => h) (Or.inl ⟨by kernel_rfl, fun w _ => by kernel_rfl⟩) T1 ?_
                refine anyH_take (i := 12) (d := 84) (v := .int .i64 (j : Int)) rfl rfl (by kernel_rfl) (by kernel_rfl) (by kernel_rfl) (fun _ _ _ h => h) (Or.inl ⟨by kernel_rfl, fun w _ => by kernel_rfl⟩) T1 ?_
                refine anyH_take (i := 13) (d := 85) (v := .pointer (some ⟨b, j, none⟩)) rfl rfl (by kernel_rfl) (by kernel_rfl) (by kernel_rfl) (fun _ _ _ h => h) (Or.inl ⟨by kernel_rfl, fun w hw => by obtain ⟨h1, h2, h3⟩ := hw; go_simp⟩) T1 ?_
                refine anyH_take (i := 14) (d := 86) (v := x) rfl rfl (by kernel_rfl) (by kernel_rfl) (by kernel_rfl) (fun _ _ _ h => h) (Or.inl ⟨by kernel_rfl, fun w hw => by obtain ⟨h1, h2, h3⟩ := hw; go_simp⟩) T1 ?_
                have K1 := marked_any (HR.out.below T1.2.2) (by have := HLL.out; omega)
                refine anyH_enter1 (i := 15) (d := 87) (by kernel_rfl) rfl rfl (by kernel_rfl) K1 (by kernel_rfl) ?_
                rintro _ rfl
                refine ⟨T1, ?_⟩
                refine anyH_take (i := 16) (d := 88) (v := .bool false) rfl rfl (by kernel_rfl) (by kernel_rfl) (by kernel_rfl) (fun _ _ _ h => h) (Or.inl ⟨by kernel_rfl, fun w _ => by kernel_rfl⟩) T1 ?_
                refine anyH_take (i := 17) (d := 89) (v := .bool false) rfl rfl (by kernel_rfl) (by kernel_rfl) (by kernel_rfl) (fun _ _ _ h => h) (Or.inl ⟨by kernel_rfl, fun w _ => by kernel_rfl⟩) T1 ?_
                refine wpAnyH_done (by kernel_rfl) ?_ _
                try simp only [Act.put, List.setIfInBounds_toArray, List.set_cons_succ, List.set_cons_zero]
                have G7 := HG6.out.below T1.2.2
                have Q7 := HQ6.out.trans (T1.2.2.mono (by have := HQ6.out.size; have := HZ.out; omega))
                have T7 := HT6.out
                clear T0 T1 p1 K1 HS1
                go_wp2_with fail
                obtain ⟨g, cx, rfl, _, _, _⟩ := HR.out.form
                obtain ⟨q, hq⟩ : ∃ q, L.length = q := ⟨_, rfl⟩
                rw [hq] at Hx HLL ⊢
                have q3 : q ≤ 3000 := HLL.out
                clear hq HR HG6 HT6 HQ6 HBB HLL
                go_loopw [11] (fun kk wr => ∃ (k : Nat) (Ns : List (List Nat)), k ≤ q ∧ kk = .int .i64 (k : Int) ∧ Given Z wr (.slice (some ⟨b, 0, none⟩) n oc) gs Ns ∧ Turned Ls Ns (j + 1) ∧ Below Z w wr) (fun kk _ => q - (intOf kk).toNat)
                case atStart => exact ⟨0, Ms, by omega, rfl, G7, T7, Q7⟩
                case round =>
                  obtain ⟨k, Ns, hk, rfl, hg, ht, qx⟩ := hrel
                  clear G7 T7 Q7
                  obtain ⟨wv, hwv⟩ : ∃ u, u = wr := ⟨_, rfl⟩
                  subst hwv
                  obtain ⟨b', eb, cg⟩ := hg.1.base Hx.out
                  cases eb
                  have hjN : j < Ns.length := by rw [ht.len, ← NL.out]; omega
                  obtain ⟨M, hM⟩ : ∃ M, Ns[j]? = some M := ⟨Ns[j]'hjN, List.getElem?_eq_getElem _⟩
                  have rg := hg.2.1 j _ M Hx.out hM
                  have ml : M.length = q := by obtain ⟨_, _, e, _⟩ := rg; injection e with _ h2 _; exact h2.symm
                  by_cases hkq : k < q
                  · have hkq := hkq
                    obtain ⟨c, hc⟩ : ∃ c, M[k]? = some c := ⟨M[k]'(by omega), List.getElem?_eq_getElem _⟩
                    obtain ⟨cc, fz⟩ := rg.cell hc
                    have c256 : c < 256 := ht.1 M (List.mem_of_getElem? hM) c (List.mem_of_getElem? hc)
                    have gZ := (rg.block g rfl).1
                    obtain ⟨d, hd⟩ : ∃ d, (c + 1) % 256 = d := ⟨_, rfl⟩
                    have d256 : d < 256 := by omega
                    have di : IntKind.u8.wrap ((c : Int) + 1) = (d : Int) := by simp [IntKind.wrap, IntKind.bits, IntKind.signed]; omega
                    have G9 := Given.put (k := k) d (hg.below (Below.refl _ _).drew) Hx.out hM (by omega)
                    obtain ⟨_, eb, S9⟩ := G9.1.base Hx.out
                    cases eb
                    have T9 := Lib.hid (ht.put (k := k) hM d256)
                    have Q9 := Lib.hid (qx.drew.setCell (p := ⟨g, k, none⟩) gZ (.int .u8 (d : Int)))
                    have HG9 := Lib.hid G9
                    have HS9 := Lib.hid S9
                    have ccd : wv.drew.cell? ⟨g, k, none⟩ = some (.int .u8 (c : Int)) := cc
                    have fzd : wv.drew.frozen? ⟨g, k, none⟩ = false := fz
                    have cgd : wv.drew.cell? ⟨b, j, none⟩ = some (.slice (some ⟨g, 0, none⟩) q cx) := cg
                    have ki : (k : Int) < (q : Int) := by omega
                    have k0 : (0 : Int) ≤ (k : Int) := by omega
                    have HDI := Lib.hid di
                    clear hg ht qx hM hjN rg ml hc c256 gZ d256 di G9 S9 hd
                    go_wp2_with fail
                    · refine wp_region_held (S := fun w' => w'.cell? ⟨b, j, none⟩ = some (.slice (some ⟨g, 0, none⟩) q cx)) (by kernel_rfl) ?_
                      change wpAnyH _ _ _ _ _ _ _ _ (World.drew _)
                      refine anyH_take (i := 0) (d := 99) (v := (.slice (some ⟨b, 0, none⟩) n oc)) rfl rfl (by kernel_rfl) (by kernel_rfl) (by kernel_rfl) (fun _ _ _ h => h) (Or.inl ⟨by kernel_rfl, fun w _ => by kernel_rfl⟩) cgd ?_
                      refine anyH_take (i := 1) (d := 100) (v := .int .i64 (j : Int)) rfl rfl (by kernel_rfl) (by kernel_rfl) (by kernel_rfl) (fun _ _ _ h => h) (Or.inl ⟨by kernel_rfl, fun w _ => by kernel_rfl⟩) cgd ?_
                      refine anyH_take (i := 2) (d := 101) (v := .pointer (some ⟨b, j, none⟩)) rfl rfl (by kernel_rfl) (by kernel_rfl) (by kernel_rfl) (fun _ _ _ h => h) (Or.inl ⟨by kernel_rfl, fun w hw => by obtain h1 := hw; go_simp⟩) cgd ?_
                      refine anyH_take (i := 3) (d := 102) (v := (.slice (some ⟨g, 0, none⟩) q cx)) rfl rfl (by kernel_rfl) (by kernel_rfl) (by kernel_rfl) (fun _ _ _ h => h) (Or.inl ⟨by kernel_rfl, fun w hw => by obtain h1 := hw; go_simp⟩) cgd ?_
                      refine anyH_take (i := 4) (d := 103) (v := .int .i64 (k : Int)) rfl rfl (by kernel_rfl) (by kernel_rfl) (by kernel_rfl) (fun _ _ _ h => h) (Or.inl ⟨by kernel_rfl, fun w _ => by kernel_rfl⟩) cgd ?_
                      refine anyH_take (i := 5) (d := 104) (v := (.slice (some ⟨b, 0, none⟩) n oc)) rfl rfl (by kernel_rfl) (by kernel_rfl) (by kernel_rfl) (fun _ _ _ h => h) (Or.inl ⟨by kernel_rfl, fun w _ => by kernel_rfl⟩) cgd ?_
                      refine anyH_take (i := 6) (d := 105) (v := .int .i64 (j : Int)) rfl rfl (by kernel_rfl) (by kernel_rfl) (by kernel_rfl) (fun _ _ _ h => h) (Or.inl ⟨by kernel_rfl, fun w _ => by kernel_rfl⟩) cgd ?_
                      refine anyH_take (i := 7) (d := 106) (v := .pointer (some ⟨b, j, none⟩)) rfl rfl (by kernel_rfl) (by kernel_rfl) (by kernel_rfl) (fun _ _ _ h => h) (Or.inl ⟨by kernel_rfl, fun w hw => by obtain h1 := hw; go_simp⟩) cgd ?_
                      refine anyH_take (i := 8) (d := 107) (v := (.slice (some ⟨g, 0, none⟩) q cx)) rfl rfl (by kernel_rfl) (by kernel_rfl) (by kernel_rfl) (fun _ _ _ h => h) (Or.inl ⟨by kernel_rfl, fun w hw => by obtain h1 := hw; go_simp⟩) cgd ?_
                      refine anyH_take (i := 9) (d := 108) (v := .int .i64 (k : Int)) rfl rfl (by kernel_rfl) (by kernel_rfl) (by kernel_rfl) (fun _ _ _ h => h) (Or.inl ⟨by kernel_rfl, fun w _ => by kernel_rfl⟩) cgd ?_
                      refine anyH_take (i := 10) (d := 109) (v := .pointer (some ⟨g, k, none⟩)) rfl rfl (by kernel_rfl) (by kernel_rfl) (by kernel_rfl) (fun _ _ _ h => h) (Or.inl ⟨by kernel_rfl, fun w hw => by obtain h1 := hw; go_simp⟩) cgd ?_
                      refine anyH_step (i := 11) (d := 110) (v := .int .u8 (c : Int)) (w2 := wv.drew) (by kernel_rfl) rfl rfl (by kernel_rfl) (by go_simp) ⟨cgd, ?_⟩
                      refine anyH_take (i := 12) (d := 111) (v := .int .u8 (d : Int)) rfl rfl (by kernel_rfl) (by kernel_rfl) (by kernel_rfl) (fun _ _ _ h => h) (Or.inl ⟨by kernel_rfl, fun w hw => by have := HDI.out; go_simp⟩) cgd ?_
                      refine anyH_take (i := 13) (d := 112) (v := .pointer (some ⟨g, k, none⟩)) rfl rfl (by kernel_rfl) (by kernel_rfl) (by kernel_rfl) (fun _ _ _ h => h) (Or.inl ⟨by kernel_rfl, fun w hw => by obtain h1 := hw; go_simp⟩) cgd ?_
                      refine anyH_one (i := 14) (by kernel_rfl) rfl ?_
                      go_wp2_with fail
                      refine ⟨HS9.out, ?_⟩
                      refine wpAnyH_done (by kernel_rfl) ?_ _
                      try simp only [Act.put, List.setIfInBounds_toArray, List.set_cons_succ, List.set_cons_zero]
                      clear cc fz ccd fzd cgd cg
                      go_wp2_with fail
                      go_roundw
                      case rel => exact ⟨k + 1, _, by omega, by go_num, HG9.out, T9.out, Q9.out⟩
                      case measure => simp [intOf]; omega
                  · obtain rfl : k = q := by omega
                    have HG9 := Lib.hid hg
                    have T9 := Lib.hid ht
                    have Q9 := Lib.hid qx
                    clear hg ht qx hM rg ml hkq hk hjN
                    go_wp2_with fail
                    go_roundw
                    case rel => exact ⟨j + 1, Ns, by omega, by go_num, HG9.out, T9.out, Q9.out⟩
                    case measure => simp [intOf]; omega
                
            · obtain rfl : j = n := by omega
              obtain ⟨Y, hY⟩ : ∃ Y, sumN wd Ms.flatten = Y := ⟨_, rfl⟩
              have YL := Lib.hid (show Y.length = 32 by rw [← hY]; exact sum_len wd _)
              have FL := Lib.hid (show Ms.flatten.length ≤ 3000 by rw [ht.flat]; have := HS.out; omega)
              have HYE := Lib.hid hY
              have ML := Lib.hid (show Ms.length = j by rw [ht.len, ← NL.out])
              have HG8 := Lib.hid hg
              have HT8 := Lib.hid ht
              have HQ8 := Lib.hid qx
              obtain ⟨Zy, hZy⟩ : ∃ u, wy.heap.size = u := ⟨_, rfl⟩
              have HZY := Lib.hid hZy
              have zy : Z ≤ Zy := by have := qx.size; have := HZ.out; omega
              have r0 : RowsOwn Zy wy (.slice none 0 0) [] (Ms.take 0) := RowsOwn.nil
              have b0 : Below Zy wy wy := Below.refl _ _
              clear hY hg ht qx hZy hlt hj
              go_wp2_with fail
              go_loopw [12, 13] (fun t i wr => ∃ (m : Nat) (ts : List Value), m ≤ j ∧ i = .int .i64 (m : Int) ∧ ts.length = m ∧ RowsOwn Zy wr t ts (Ms.take m) ∧ Below Zy wy wr) (fun _ i _ => j - (intOf i).toNat)
              case atStart => exact ⟨0, [], by omega, rfl, rfl, r0, b0⟩
              case round =>
                obtain ⟨m, ts, hm, rfl, htl, ho, qx⟩ := hrel
                clear r0 b0
                obtain ⟨wx, hwx⟩ : ∃ u, u = wr := ⟨_, rfl⟩
                subst hwx
                by_cases hlt : m < j
                · have hlt := hlt
                  obtain ⟨x, hx⟩ : ∃ x, gs[m]? = some x := ⟨gs[m]'(by rw [HGL.out]; exact hlt), List.getElem?_eq_getElem _⟩
                  obtain ⟨L, hL⟩ : ∃ L, Ms[m]? = some L := ⟨Ms[m]'(by rw [ML.out]; exact hlt), List.getElem?_eq_getElem _⟩
                  have hg := HG8.out.below (show Below wy.heap.size wy wx by rw [HZY.out]; exact qx)
                  obtain ⟨b, rfl, cg⟩ := hg.1.base hx
                  have rg := hg.2.1 m x L hx hL
                  have lL : L.length ≤ 3000 := by
                    have e : Ms.flatten = (Ms.take (m + 1)).flatten ++ (Ms.drop (m + 1)).flatten := by rw [← List.flatten_append, List.take_append_drop]
                    have h1 : Ms.flatten.length = (Ms.take (m + 1)).flatten.length + (Ms.drop (m + 1)).flatten.length := by rw [← List.length_append, ← e]
                    rw [take_snoc' hL, List.flatten_append, List.length_append] at h1
                    have h2 : [L].flatten.length = L.length := by simp
                    rw [h2] at h1
                    have := FL.out
                    omega
                  have TK : Hid (Ms.take (m + 1) = Ms.take m ++ [L]) := Lib.hid (take_snoc' hL)
                  have bb : b < wx.heap.size := World.block_lt_of_cell? _ _ cg
                  have zx : Zy ≤ wx.heap.size := by have := qx.size; have := HZY.out; omega
                  have b1 : Below wx.heap.size wx (wx.alloc (.cells #[] 5 (0, 0))) := (Below.refl _ _).alloc (Nat.le_refl _) _
                  have cg1 : (wx.alloc (.cells #[] 5 (0, 0))).cell? ⟨b, m, none⟩ = some x := (b1.cell (p := ⟨b, m, none⟩) bb).trans cg
                  have own1 := own_made0b (w := wx) (Nat.le_refl _)
                  have s1 : (wx.alloc (.cells #[] 5 (0, 0))).heap.size = wx.heap.size + 1 := by simp
                  have S1 := Lib.hid (rg.below b1).slice
                  have z1 : wx.heap.size ≤ (wx.alloc (.cells #[] 5 (0, 0))).heap.size := by omega
                  have HA := Lib.hid (And.intro own1 (And.intro z1 b1))
                  have HO := Lib.hid ho
                  have HTL := Lib.hid htl
                  have HQX9 := Lib.hid qx
                  have HLL := Lib.hid lL
                  have mi : (m : Int) < (j : Int) := by omega
                  have m0 : (0 : Int) ≤ (m : Int) := by omega
                  have jn : j ≤ 3000 := kl
                  clear hx hL hg rg lL s1 z1 own1 b1 ho htl qx cg
                  go_wp2_with (first
                    | (at_builtin; refine app_u8 (.tmp 120) (.tmp 124) rfl rfl wx.heap.size _ 0 [] rfl HA.out.1 _ L rfl S1.out (by have := HLL.out; omega) HA.out.2.1 ?_; intro v1 w1 own1 hg1; rw [Nat.zero_add, List.nil_append] at own1; have q1 : Below wx.heap.size wx w1 := HA.out.2.2.grown hg1 HA.out.2.1 (fun k hk => (HA.out.1.lt k hk).1); have z1 : wx.heap.size ≤ w1.heap.size := q1.size; have SL := SliceOf.of_own own1 (u8s_eq _); have lt1 := own1.lt; have q2 : Below w1.heap.size w1 (w1.alloc (.cells #[v1] 29 (0, 0))) := (Below.refl _ _).alloc (Nat.le_refl _) _; have RO2 := Lib.hid ((HO.out.below q1).below q2); have SL2 := Lib.hid (SL.below q2); have s2 : (w1.alloc (.cells #[v1] 29 (0, 0))).heap.size = w1.heap.size + 1 := (by simp); obtain ⟨a1, c1, rfl, _⟩ := SL; have F := Lib.hid (And.intro lt1 (And.intro z1 (And.intro s2 (And.intro q1 (And.intro q2 zx))))); clear own1 hg1 lt1 z1 s2 q1 q2)
                    | (at_builtin; refine app_rows (.tmp 119) (.tmp 126) rfl rfl rfl RO2.out w1.heap.size _ L rfl (heap_alloc_new _ _) rfl SL2.out (fun b hb => ⟨by have := (F.out.1 b hb).2; rw [F.out.2.2.1]; omega, fun e => by have h1 := (HO.out.1.lt _ e).2; have h2 := (F.out.1 b hb).1; omega⟩) (by rw [F.out.2.2.1]; have := F.out.2.1; have := F.out.2.2.2.2.2; omega) (by rw [HTL.out]; omega) ?_; intro v9 w9 RO9 hg9 q9 or9; have HRO9 := Lib.hid RO9; have HQ9 := Lib.hid q9; clear RO9 hg9 q9))
                  have q9 : Below Zy wy w9 := HQX9.out.trans ((F.out.2.2.2.1.mono zx).trans ((F.out.2.2.2.2.1.mono (Nat.le_trans zx F.out.2.1)).trans HQ9.out))
                  go_roundw
                  case rel => exact ⟨m + 1, ts ++ [.slice a1 L.length c1], by omega, by go_num, by rw [List.length_append, HTL.out]; rfl, by rw [TK.out]; exact HRO9.out, q9⟩
                  case measure => simp [intOf]; omega
                · obtain rfl : m = j := by omega
                  rw [List.take_of_length_le (by rw [ML.out]; exact Nat.le_refl _)] at ho
                  have hg := HG8.out.below (show Below wy.heap.size wy wx by rw [HZY.out]; exact qx)
                  have Q9 := HQ8.out.trans (qx.mono zy)
                  have D9 := HD.out.low hb1 Q9
                  have C1 := hashSum_any (wd := wd) hg.1.at HT8.out.1 D9 (by have := FL.out; omega) (by have := HGL.out; omega)
                  rw [HYE.out] at C1
                  have HC1 := Lib.hid C1
                  have HO := Lib.hid ho
                  have HTL := Lib.hid htl
                  have HQ9 := Lib.hid Q9
                  obtain ⟨ta, tc, rfl, _⟩ := ho.at.1.form
                  rw [htl] at HO ⊢
                  have EY := Lib.hid (fun (w : World) => by have := run_eql_h w YL.out YL.out; rwa [decide_eq_true rfl] at this : ∀ w, (Op.equalIn 10000 23 (.agg (cellsOf' u8c Y)) (.agg (cellsOf' u8c Y))).run Tryd.prog w = .ok true w)
                  clear hg Q9 D9 C1 ho htl qx hlt hm
                  go_wp2_with fail
                  refine HC1.out.mono ?_
                  rintro e w7 ⟨rfl, q7⟩
                  have C2 := refSum_any (wd := wd) (HO.out.below q7).at.toIn HT8.out.1 (by have := FL.out; omega) (by have := HTL.out; omega)
                  rw [HYE.out] at C2
                  have HC2 := Lib.hid C2
                  have Q7 := Lib.hid (HQ9.out.trans (q7.mono (by have := HQ9.out.size; have := HZ.out; omega)))
                  clear C2 q7 HC1 HO
                  go_wp2_with fail
                  refine HC2.out.mono ?_
                  rintro e w8 ⟨rfl, q8⟩
                  have Q8 := Lib.hid (Q7.out.trans (q8.mono (by have := Q7.out.size; have := HZ.out; omega)))
                  have A8 := Lib.hid (awake2_any (HD.out.low hb1 Q8.out))
                  clear q8 HC2 Q7
                  go_wp2_with (with_reducible refine wpList_yieldsK (S := fun _ => True) (v := .bool true) (yields_eqA (by kernel_rfl) rfl (X := cellsOf' u8c Y) (Y := cellsOf' u8c Y) (by kernel_rfl) (by kernel_rfl) guard_h EY.out) trivial ?_)
                  refine A8.out.mono ?_
                  rintro e w10 ⟨rfl, q10⟩
                  have Q10 := Q8.out.trans (q10.mono (by have := Q8.out.size; have := HZ.out; omega))
                  clear q10 A8
                  go_wp2_with fail
                  go_ret
                  exact ⟨rfl, Q10⟩
end Go.Proofs.YtcifnfffoiiceaaDoor
