/-
  The walk of a hasher's Write.
-/
import Derived.Test.YtcifnfffoiiceaaDoorHNew
import Derived.Test.YtcifnfffoiiceaaDoorReads3
namespace Go.Proofs.YtcifnfffoiiceaaDoor
open Go.RowKit
set_option linter.unusedVariables false
set_option pp.deepTerms true
set_option pp.maxSteps 1000000

/-- 'copy' into a block, all other blocks as they were. -/
theorem copy_touch {P : Program} {w : World} {ops : Array Oper} {rest : List Oper} {o : Oper} {a : Act} {Q : Exit → Act → World → Prop} (hgd : o.guard = none) (d s : Operand) (dT sT : TypeId)
    (ho : o.op = .call { callee := .builtin .copy, args := #[d, s], argTypes := #[dT, sT] }) (elem : TypeId) (hu : P.underlying dT = some (.slice elem)) (hsz : (P.info? elem).map (·.size) = some 1)
    (g off dLen dCap : Nat) (ad : Addr) (sLen sCap : Nat) (hd : a.eval d = .slice (some ⟨g, off, none⟩) dLen dCap) (hs : a.eval s = .slice (some ad) sLen sCap)
    (cur : List Value) (t : TypeId) (hg : w.heap[g]? = some (.cells cur.toArray t (0, 0))) (cs : List Value) (hn : cs.length = Nat.min sLen dLen)
    (hsrc : ∀ j v, cs[j]? = some v → w.cell? (ad.add j) = some v) (hfit : off + cs.length ≤ cur.length) (h1 : ∀ v ∈ cs, v.oneCell' = true)
    (h : ∀ w', w'.heap[g]? = some (.cells (Go.splice cur off cs).toArray t (0, 0)) → TouchB g w w' → wpList P ops Q rest (a.put o.dst (goInt cs.length)) w') : wpList P ops Q (o :: rest) a w := by
  refine wpList_copy_own hgd d s dT sT ho elem hu hsz g off dLen dCap ad sLen sCap hd hs cur.toArray t hg cs hn hsrc (by simpa using hfit) h1 ?_
  exact h _ (show _ = _ by simpa [Go.splice] using setRow_heap w g _ _ t _ hg) ((TouchB.refl _ _).setRow _)
/-- How many values a slice has. -/
def lenOf : Value → Nat
  | .slice _ n _ => n
  | _ => 0
theorem SliceOf.lenOf {α : Type} {mk : α → Value} {w : World} {v : Value} {l : List α} (h : SliceOf mk w v l) : lenOf v = l.length := by
  obtain ⟨a, cap, rfl, _⟩ := h
  rfl
theorem load_cell {a : Act} {g : Nat} {w : World} {n : Int} {x : Nat} {d : Option Nat} {ty : TypeId} {ps : String} {af : Array Edge} {gd : Option (Nat × Bool)} (ha : a.eval (.tmp x) = .pointer (some ⟨g, 0, none⟩)) (hc : w.cell? ⟨g, 0, none⟩ = some (.int .i64 n)) :
    (execOp a.eval ⟨d, .load 3 (.tmp x), ty, ps, af, gd⟩).run Tryd.prog w.drew = .ok (.value (.int .i64 n)) w.drew := by
  have h2 : a.tmps[x]?.getD undef = .pointer (some ⟨g, 0, none⟩) := by simpa [Act.eval] using ha
  go_simp
theorem hc_all {st : List Nat} (h : st.length = 32) : (Tryd.prog.info? 23).map (·.size) = some (cellsOf' u8c st).size := by rw [co_size, h]; exact size_32
theorem heap_store_st {w : World} {g : Nat} {wd : Int} {st st' R : List Nat} {n : Nat} {t : TypeId} (hs : st.length = 32) (hs' : st'.length = 32) (hR : R.length = 64) (h : w.heap[g]? = some (.cells (hCells wd st R n).toArray t (0, 0))) :
    (w.setCells g 1 (cellsOf' u8c st').toList).heap[g]? = some (.cells (hCells wd st' R n).toArray t (0, 0)) := by
  have e : (cellsOf' u8c st').toList = st'.map u8c := by simp [cellsOf']
  rw [e, heap_setCells _ _ _ _ h (by rw [hc_len hs hR, List.length_map, hs']; decide), hc_splice_st hs hs']
theorem slice_rest {w : World} {g o n cap q : Nat} {L : List Nat} (hn : L.length = n) (hq : q ≤ n) (h1 : n ≤ cap) (h2 : cap ≤ maxLen) (hc : ∀ (j x : Nat), L[j]? = some x → w.cell? ⟨g, o + j, none⟩ = some (u8c x)) : SliceOf u8c w (.slice (some ⟨g, o + q, none⟩) (n - q) (cap - q)) (L.drop q) :=
  ⟨some ⟨g, o + q, none⟩, cap - q, by rw [List.length_drop, hn], by rw [List.length_drop, hn]; omega, by omega, (fun e => by cases e), .inr ⟨g, o + q, rfl, fun j x hj => by
    rw [List.getElem?_drop] at hj
    rw [Nat.add_assoc]
    exact hc _ _ hj⟩⟩
theorem slice_none {w : World} {a : Addr} {cap : Nat} (h : cap ≤ maxLen) : SliceOf u8c w (.slice (some a) 0 cap) [] := ⟨some a, cap, rfl, Nat.zero_le _, h, (fun e => by cases e), .inl rfl⟩
theorem heap_set_n {w : World} {g : Nat} {wd : Int} {st R : List Nat} {n n' : Nat} {t : TypeId} (hs : st.length = 32) (hR : R.length = 64) (h : w.heap[g]? = some (.cells (hCells wd st R n).toArray t (0, 0))) :
    (w.setCell ⟨g, 97, none⟩ (.int .u64 (n' : Int))).heap[g]? = some (.cells (hCells wd st R n').toArray t (0, 0)) := by
  rw [heap_setCell_same w g 97 _ t _ h]
  have e : (hCells wd st R n).toArray.setIfInBounds 97 (.int .u64 (n' : Int)) = ((hCells wd st R n).set 97 (.int .u64 (n' : Int))).toArray := by simp
  rw [e, hc_set_n hs hR]
theorem heap_cell_n {w : World} {g : Nat} {wd : Int} {st R : List Nat} {n : Nat} {t : TypeId} (hs : st.length = 32) (hR : R.length = 64) (h : w.heap[g]? = some (.cells (hCells wd st R n).toArray t (0, 0))) : w.cell? ⟨g, 97, none⟩ = some (.int .u64 (n : Int)) := by
  rw [cell_of_row _ _ _ _ _ _ h]
  simpa using hc_n (wd := wd) (n := n) hs hR
set_option maxRecDepth 8000 in
set_option maxHeartbeats 4000000 in
theorem Write_any {W : World} {g : Nat} {wd : Int} {T B : List Nat} {v : Value} (H : HashAt W g wd T) (D : DoorAt W) (hg : 1 < g) (S : SliceOf u8c W v B) (hv : v.ownBlock ≠ some g) (bB : Bytes B) (hl : T.length + B.length ≤ 1152921504606846976) :
    Calls Tryd.prog 21 #[.pointer (some ⟨g, 0, none⟩), v] W fun e w' => (∃ x, e = .returned x) ∧ HashAt w' g wd (T ++ B) ∧ TouchB g W w' := by
  have HD := Lib.hid D
  have HB := Lib.hid bB
  have H0 : HashAt W g wd (T ++ B.take 0) := by simpa using H
  have S0 : SliceOf u8c W v (B.drop 0) := S
  clear H S D bB
  go_enter Tryd.func21, Tryd.ntmps21
  go_wp2_with fail
  go_loopw [1] (fun x wr => ∃ k : Nat, k ≤ B.length ∧ SliceOf u8c wr x (B.drop k) ∧ x.ownBlock ≠ some g ∧ HashAt wr g wd (T ++ B.take k) ∧ TouchB g W wr) (fun x _ => lenOf x)
  case atStart => exact ⟨0, by omega, S0, hv, H0, TouchB.refl _ _⟩
  case round =>
    obtain ⟨k, hk, sv, hv', hh, ht⟩ := hrel
    clear S0 hv H0
    have hL : (B.drop k).length = B.length - k := List.length_drop
    by_cases h0 : k = B.length
    · subst h0
      rw [List.take_length] at hh
      obtain ⟨a, cap, rfl, _⟩ := sv
      rw [hL, Nat.sub_self]
      go_wp2_with fail
      exact bodyPost_end (results_none rfl _ _ _) rfl ⟨⟨_, rfl⟩, hh, ht⟩
    · obtain ⟨bT, R, hR, hp⟩ := hh
      obtain ⟨gs, o, cap, rfl, c1, c2, cg⟩ := slice_at sv (n := B.length - k) hL (by omega)
      have hgs : gs ≠ g := by intro e; exact hv' (by rw [e]; rfl)
      have hB' : B = B.take k ++ B.drop k := (List.take_append_drop k B).symm
      have bL : Bytes (B.drop k) := fun c hc => HB.out c (List.mem_of_mem_drop hc)
      have tl : (T ++ B.take k).length = T.length + k := by rw [List.length_append, List.length_take]; omega
      have N0 : 0 < B.length - k := by omega
      have HK : Hid (∀ q, k + q ≤ B.length → T ++ B.take (k + q) = (T ++ B.take k) ++ (B.drop k).take q ∧ B.drop (k + q) = (B.drop k).drop q) := Lib.hid fun q _ => ⟨by rw [List.append_assoc, List.take_add], by rw [List.drop_drop]⟩
      obtain ⟨N, hN⟩ : ∃ N, B.length - k = N := ⟨_, rfl⟩
      obtain ⟨L, hLe⟩ : ∃ L, B.drop k = L := ⟨_, rfl⟩
      obtain ⟨T', hT'⟩ : ∃ T', T ++ B.take k = T' := ⟨_, rfl⟩
      rw [hN] at hL c1 N0 ⊢
      rw [hLe] at hL cg bL HK
      rw [hT'] at bT hR hp tl HK
      have hl2 : T'.length + N ≤ 1152921504606846976 := by omega
      have kN : k + N = B.length := by omega
      have HTB := Lib.hid hT'
      clear sv hv' hB' hN hLe hT'
      have sl := state_len wd T' (T'.length / 64)
      have sb := state_bytes wd T' (T'.length / 64)
      have HRest := Lib.hid hR
      have Rl := hR.len
      have Rb := hR.bytes
      obtain ⟨st, hst⟩ : ∃ st, stateN wd T' (T'.length / 64) = st := ⟨_, rfl⟩
      rw [hst] at sl sb hp
      obtain ⟨n0, hn0⟩ : ∃ n0, T'.length = n0 := ⟨_, rfl⟩
      have RM := Lib.hid (fun (b : List Nat) h1 h2 => (⟨(rest_more hR (b := b) h1 h2).1, (rest_more hR (b := b) h1 h2).2.1, (rest_more hR (b := b) h1 h2).2.2 wd⟩ : _ ∧ _ ∧ _))
      have RF := Lib.hid (fun (b : List Nat) h1 h2 => (⟨(rest_full hR (b := b) h1 h2).1, (rest_full hR (b := b) h1 h2).2 wd⟩ : _ ∧ _))
      rw [hst, hn0] at RM RF
      rw [hn0] at hl2 hp
      have HST := Lib.hid hst
      have HN0 := Lib.hid hn0
      clear hR hst tl hn0
      obtain ⟨c, hc⟩ : ∃ c, n0 % 64 = c := ⟨_, rfl⟩
      rw [hc] at RM RF
      have e1 : (n0 : Int) % 64 = (c : Int) := by omega
      have c63 : c ≤ 63 := by omega
      have c63i : (c : Int) ≤ 64 := by omega
      have cne : ¬ (64 : Int) = (c : Int) := by omega
      have cne2 : ¬ 64 = c := by omega
      have cell0 := heap_cell_n sl Rl hp
      obtain ⟨q, hq⟩ : ∃ q, Nat.min N (64 - c) = q := ⟨_, rfl⟩
      have hq' : min N (64 - c) = q := hq
      have q0 : 0 < q := by omega
      have qN : q ≤ N := by omega
      have qc : q ≤ 64 - c := by omega
      have ways : (q = N ∧ c + q < 64) ∨ (q = N ∧ c + q = 64) ∨ (q < N ∧ c + q = 64) := by omega
      clear hq'
      have bq : (L.take q).length = q := by rw [List.length_take]; omega
      have bb : Bytes (L.take q) := fun x hx => bL x (List.mem_of_mem_take hx)
      have CS : Hid (∀ (j : Nat) (v : Value), (u8s (L.take q))[j]? = some v → wr.cell? ((⟨gs, o, none⟩ : Addr).add j) = some v) := Lib.hid (copy_cells fun j x hj => by
        rw [List.getElem?_take] at hj
        split at hj
        · exact cg j x hj
        · cases hj)
      have cslen : (u8s (L.take q)).length = q := by rw [u8s_length, bq]
      have SP : Hid (Go.splice (hCells wd st R n0) (33 + c) (u8s (L.take q)) = hCells wd st (Go.splice R c (L.take q)) n0) := Lib.hid (hc_splice_rest (wd := wd) (R := R) (n := n0) sl (o := c) (b := L.take q) (by omega))
      have HP := Lib.hid hp
      obtain ⟨R', hR'⟩ : ∃ R', Go.splice R c (L.take q) = R' := ⟨_, rfl⟩
      rw [hR'] at SP
      have Rl' : R'.length = 64 := by rw [← hR', Go.length_splice _ _ _ (by omega), Rl]
      have HR' := Lib.hid hR'
      have HQ := Lib.hid hq
      have qi : (q : Int) ≤ (N : Int) := by omega
      have ci : (N : Int) ≤ (cap : Int) := by omega
      have qcap : (q : Int) ≤ (cap : Int) := by omega
      have N0i : (0 : Int) < (N : Int) := by omega
      have nq : (n0 : Int) + (q : Int) = ((n0 + q : Nat) : Int) := by omega
      have nqb : ((n0 + q : Nat) : Int) ≤ 1152921504606846976 := by omega
      obtain ⟨n1, hn1⟩ : ∃ n1, n0 + q = n1 := ⟨_, rfl⟩
      rw [hn1] at nq nqb
      have HT := Lib.hid ht
      have CGL := Lib.hid cg
      have hpl : (hCells wd st R n0).length = 98 := hc_len sl Rl
      clear hp hq hR' ht cg
      rcases ways with ⟨qe, qs⟩ | ⟨qe, qs⟩ | ⟨ql, qs⟩
      · subst qe
        have e5 : (n1 : Int) % 64 = ((c + q : Nat) : Int) := by omega
        have e6 : (((c + q : Nat) : Int) == 0) = false := by rw [beq_eq_false_iff_ne]; omega
        obtain ⟨r, hr⟩ : ∃ r, c + q = r := ⟨_, rfl⟩
        rw [hr] at e5 e6
        go_wp2_with (refine copy_touch rfl (.tmp 19) (.tmp 20) 29 29 rfl 5 Tryd.underlying29 size_u8' g (33 + c) (64 - c) (64 - c) ⟨gs, o, none⟩ q cap rfl rfl (hCells wd st R n0) 83 HP.out (u8s (L.take q)) (by rw [cslen]; exact HQ.out.symm) CS.out (by rw [hpl, cslen]; omega) u8s_one ?_; rw [cslen]; intro w1 hp1 ht1; rw [SP.out] at hp1; have cell1 := heap_cell_n sl Rl' hp1; have fr1 : w1.frozen? ⟨g, 97, none⟩ = false := frozen_of_row _ _ _ _ _ hp1; have HP1 := Lib.hid hp1; clear hp1)
        refine ⟨⟨k + q, by omega, ?_, ?_, ?_, HT.out.trans (ht1.setCell _ _)⟩, ?_⟩
        · rw [(HK.out q (by omega)).2, List.drop_eq_nil_of_le (by omega)]
          split <;> exact slice_none (by omega)
        · split <;> (intro e; exact hgs (by simpa [Value.ownBlock] using e))
        · rw [(HK.out q (by omega)).1]
          obtain ⟨r1, r2, r3⟩ := RM.out (L.take q) bb (by rw [bq]; omega)
          rw [HR'.out] at r1
          refine ⟨fun x hx => ?_, R', r1, ?_⟩
          · rw [List.mem_append] at hx
            rcases hx with hx | hx
            · exact bT x hx
            · exact bb x hx
          · rw [r3, List.length_append, bq, HN0.out, hn1]
            exact heap_set_n sl Rl' HP1.out
        · show 0 < q
          omega
      · subst qe
        have e5 : (n1 : Int) % 64 = 0 := by omega
        go_wp2_with (refine copy_touch rfl (.tmp 19) (.tmp 20) 29 29 rfl 5 Tryd.underlying29 size_u8' g (33 + c) (64 - c) (64 - c) ⟨gs, o, none⟩ q cap rfl rfl (hCells wd st R n0) 83 HP.out (u8s (L.take q)) (by rw [cslen]; exact HQ.out.symm) CS.out (by rw [hpl, cslen]; omega) u8s_one ?_; rw [cslen]; intro w1 hp1 ht1; rw [SP.out] at hp1; have cell1 := heap_cell_n sl Rl' hp1; have fr1 : w1.frozen? ⟨g, 97, none⟩ = false := frozen_of_row _ _ _ _ _ hp1; have HP1 := Lib.hid hp1; clear hp1)
        all_goals
          have hp2 := heap_set_n (n' := n1) sl Rl' HP1.out
          have ht2 : TouchB g wr (w1.setCell ⟨g, 97, none⟩ (.int .u64 (n1 : Int))) := ht1.setCell _ _
          generalize w1.setCell ⟨g, 97, none⟩ (.int .u64 (n1 : Int)) = w2 at *
          have c0 : w2.cell? ⟨g, 0, none⟩ = some (.int .i64 wd) := by rw [cell_of_row _ _ _ _ _ _ hp2]; rfl
          have rs : w2.drew.rangeAt g 1 (st.map u8c) := row_range (w := w2.drew) hp2 (fun j v h => hc_st sl h)
          have rr : w2.drew.rangeAt g 33 (R'.map u8c) := row_range (w := w2.drew) hp2 (fun j v h => hc_rest sl h)
          have zs : (Tryd.prog.info? 23).map (·.size) = some (st.map u8c).length := by rw [List.length_map, sl]; exact size_32
          have zr : (Tryd.prog.info? 24).map (·.size) = some (R'.map u8c).length := by rw [List.length_map, Rl']; exact size_64
          refine wp_region_any (by kernel_rfl) ?_
          change wpAny _ _ _ _ _ _ _ (World.drew _)
          refine any_take (i := 0) (d := 40) (v := .pointer (some ⟨g, 0, none⟩)) rfl rfl (by kernel_rfl) (by kernel_rfl) (by kernel_rfl) (fun _ _ _ h => h) (Or.inl ⟨by rfl, fun w => by go_simp⟩) ?_
          refine any_take (i := 1) (d := 41) (v := .pointer (some ⟨g, 0, none⟩)) rfl rfl (by kernel_rfl) (by kernel_rfl) (by kernel_rfl) (fun _ _ _ h => h) (Or.inl ⟨by rfl, fun w => by go_simp⟩) ?_
          refine any_take (i := 2) (d := 42) (v := .pointer (some ⟨g, 0, none⟩)) rfl rfl (by kernel_rfl) (by kernel_rfl) (by kernel_rfl) (fun _ _ _ h => h) (Or.inl ⟨by rfl, fun w => by go_simp⟩) ?_
          refine any_take (i := 3) (d := 43) (v := .pointer (some ⟨g, 0, none⟩)) rfl rfl (by kernel_rfl) (by kernel_rfl) (by kernel_rfl) (fun _ _ _ h => h) (Or.inl ⟨by rfl, fun w => by go_simp⟩) ?_
          refine any_take (i := 5) (d := 45) (v := .pointer (some ⟨g, 0, none⟩)) rfl rfl (by kernel_rfl) (by kernel_rfl) (by kernel_rfl) (fun _ _ _ h => h) (Or.inl ⟨by rfl, fun w => by go_simp⟩) ?_
          refine any_take (i := 6) (d := 46) (v := .pointer (some ⟨g, 0, none⟩)) rfl rfl (by kernel_rfl) (by kernel_rfl) (by kernel_rfl) (fun _ _ _ h => h) (Or.inl ⟨by rfl, fun w => by go_simp⟩) ?_
          refine any_take (i := 7) (d := 47) (v := .pointer (some ⟨g, 1, none⟩)) rfl rfl (by kernel_rfl) (by kernel_rfl) (by kernel_rfl) (fun _ _ _ h => h) (Or.inl ⟨by rfl, fun w => by go_simp⟩) ?_
          refine any_take (i := 9) (d := 49) (v := .pointer (some ⟨g, 0, none⟩)) rfl rfl (by kernel_rfl) (by kernel_rfl) (by kernel_rfl) (fun _ _ _ h => h) (Or.inl ⟨by rfl, fun w => by go_simp⟩) ?_
          refine any_take (i := 10) (d := 50) (v := .pointer (some ⟨g, 0, none⟩)) rfl rfl (by kernel_rfl) (by kernel_rfl) (by kernel_rfl) (fun _ _ _ h => h) (Or.inl ⟨by rfl, fun w => by go_simp⟩) ?_
          refine any_take (i := 11) (d := 51) (v := .pointer (some ⟨g, 33, none⟩)) rfl rfl (by kernel_rfl) (by kernel_rfl) (by kernel_rfl) (fun _ _ _ h => h) (Or.inl ⟨by rfl, fun w => by go_simp⟩) ?_
          refine three_reads (i1 := 4) (i2 := 8) (i3 := 12) (d1 := 44) (d2 := 48) (d3 := 52) (x1 := 43) (x2 := 47) (x3 := 51) (v1 := .int .i64 wd) (v2 := .agg (st.map u8c).toArray) (v3 := .agg (R'.map u8c).toArray) (p1 := .pointer (some ⟨g, 0, none⟩)) (p2 := .pointer (some ⟨g, 1, none⟩)) (p3 := .pointer (some ⟨g, 33, none⟩)) (fun a K ha hK => op_reads rfl rfl _ (load_cell ha c0) hK) (fun a K ha hK => op_load_mid rfl rfl 23 _ rfl g 1 ha _ _ rs Tryd.underlying23 rfl zs hK) (fun a K ha hK => op_load_mid rfl rfl 24 _ rfl g 33 ha _ _ rr Tryd.underlying24 rfl zr hK) (by kernel_rfl) (by kernel_rfl) (by kernel_rfl) (by decide) (by kernel_rfl) (by kernel_rfl) (by kernel_rfl) (by kernel_rfl) (by kernel_rfl) (by kernel_rfl) (by kernel_rfl) ?_
          refine any_seq4 (k := 13) rfl rfl rfl rfl rfl (by kernel_rfl) ?_
          have bR' : Bytes R' := by rw [← HR'.out]; exact splice_bytes Rb bb
          have CP : Calls Tryd.prog 12 #[.int .i64 wd, .agg (st.map u8c).toArray, .agg (R'.map u8c).toArray] w2.drew fun e w' => e = .returned (.agg (cellsOf' u8c (compressN wd st R'))) ∧ Below w2.drew.heap.size w2.drew w' := Compress_any sl Rl' sb bR' _ (HD.out.touch ((HT.out.trans ht2).drew) hg)
          have cl := compress_len wd st R'
          have gl2 : g < w2.drew.heap.size := lt_of_heap (w := w2) hp2
          obtain ⟨Z, hZ⟩ : ∃ Z, compressN wd st R' = Z := ⟨_, rfl⟩
          rw [hZ] at CP cl
          have HZ := Lib.hid hZ
          have HP2 : Hid (w2.drew.heap[g]? = some (.cells (hCells wd st R' n1).toArray 83 (0, 0))) := Lib.hid hp2
          have HT2 : Hid (TouchB g wr w2.drew) := Lib.hid ht2.drew
          clear hZ rs rr zs zr c0 hp2 ht2
          go_wp2_with (first | (go_at_call 12; refine CP.mono ?_; rintro e w3 ⟨rfl, q3⟩; have HP3 := Lib.hid ((q3.block g gl2).trans HP2.out); have HT3 := Lib.hid (HT2.out.trans (TouchB.of_below q3))) | (refine wpList_store_midTo rfl 23 _ _ rfl rfl g 1 (cellsOf' u8c Z) rfl rfl (row_there HP3.out (by rw [co_size, cl, hc_len sl Rl']; decide)) (hc_all cl) (co_one u8c_one) ?_))
          refine ⟨⟨k + q, by omega, ?_, ?_, ?_, HT.out.trans (HT3.out.setCells _ _)⟩, ?_⟩
          · rw [(HK.out q (by omega)).2, List.drop_eq_nil_of_le (by omega)]
            exact slice_none (by omega)
          · intro e; exact hgs (by simpa [Value.ownBlock] using e)
          · rw [(HK.out q (by omega)).1]
            obtain ⟨r1, r3⟩ := RF.out (L.take q) bb (by rw [bq]; omega)
            rw [HR'.out] at r1 r3
            refine ⟨fun x hx => ?_, R', r1, ?_⟩
            · rw [List.mem_append] at hx
              rcases hx with hx | hx
              · exact bT x hx
              · exact bb x hx
            · rw [r3, HZ.out, List.length_append, bq, HN0.out, hn1]
              exact heap_store_st sl cl Rl' HP3.out
          · show 0 < q
            omega
      · have e5 : (n1 : Int) % 64 = 0 := by omega
        have cq : ¬ (cap : Int) = (q : Int) := by omega
        have cq2 : ¬ cap = q := by omega
        go_wp2_with (refine copy_touch rfl (.tmp 19) (.tmp 20) 29 29 rfl 5 Tryd.underlying29 size_u8' g (33 + c) (64 - c) (64 - c) ⟨gs, o, none⟩ N cap rfl rfl (hCells wd st R n0) 83 HP.out (u8s (L.take q)) (by rw [cslen]; exact HQ.out.symm) CS.out (by rw [hpl, cslen]; omega) u8s_one ?_; rw [cslen]; intro w1 hp1 ht1; rw [SP.out] at hp1; have cell1 := heap_cell_n sl Rl' hp1; have fr1 : w1.frozen? ⟨g, 97, none⟩ = false := frozen_of_row _ _ _ _ _ hp1; have HP1 := Lib.hid hp1; clear hp1)
        all_goals
          have hp2 := heap_set_n (n' := n1) sl Rl' HP1.out
          have ht2 : TouchB g wr (w1.setCell ⟨g, 97, none⟩ (.int .u64 (n1 : Int))) := ht1.setCell _ _
          generalize w1.setCell ⟨g, 97, none⟩ (.int .u64 (n1 : Int)) = w2 at *
          have c0 : w2.cell? ⟨g, 0, none⟩ = some (.int .i64 wd) := by rw [cell_of_row _ _ _ _ _ _ hp2]; rfl
          have rs : w2.drew.rangeAt g 1 (st.map u8c) := row_range (w := w2.drew) hp2 (fun j v h => hc_st sl h)
          have rr : w2.drew.rangeAt g 33 (R'.map u8c) := row_range (w := w2.drew) hp2 (fun j v h => hc_rest sl h)
          have zs : (Tryd.prog.info? 23).map (·.size) = some (st.map u8c).length := by rw [List.length_map, sl]; exact size_32
          have zr : (Tryd.prog.info? 24).map (·.size) = some (R'.map u8c).length := by rw [List.length_map, Rl']; exact size_64
          refine wp_region_any (by kernel_rfl) ?_
          change wpAny _ _ _ _ _ _ _ (World.drew _)
          refine any_take (i := 0) (d := 40) (v := .pointer (some ⟨g, 0, none⟩)) rfl rfl (by kernel_rfl) (by kernel_rfl) (by kernel_rfl) (fun _ _ _ h => h) (Or.inl ⟨by rfl, fun w => by go_simp⟩) ?_
          refine any_take (i := 1) (d := 41) (v := .pointer (some ⟨g, 0, none⟩)) rfl rfl (by kernel_rfl) (by kernel_rfl) (by kernel_rfl) (fun _ _ _ h => h) (Or.inl ⟨by rfl, fun w => by go_simp⟩) ?_
          refine any_take (i := 2) (d := 42) (v := .pointer (some ⟨g, 0, none⟩)) rfl rfl (by kernel_rfl) (by kernel_rfl) (by kernel_rfl) (fun _ _ _ h => h) (Or.inl ⟨by rfl, fun w => by go_simp⟩) ?_
          refine any_take (i := 3) (d := 43) (v := .pointer (some ⟨g, 0, none⟩)) rfl rfl (by kernel_rfl) (by kernel_rfl) (by kernel_rfl) (fun _ _ _ h => h) (Or.inl ⟨by rfl, fun w => by go_simp⟩) ?_
          refine any_take (i := 5) (d := 45) (v := .pointer (some ⟨g, 0, none⟩)) rfl rfl (by kernel_rfl) (by kernel_rfl) (by kernel_rfl) (fun _ _ _ h => h) (Or.inl ⟨by rfl, fun w => by go_simp⟩) ?_
          refine any_take (i := 6) (d := 46) (v := .pointer (some ⟨g, 0, none⟩)) rfl rfl (by kernel_rfl) (by kernel_rfl) (by kernel_rfl) (fun _ _ _ h => h) (Or.inl ⟨by rfl, fun w => by go_simp⟩) ?_
          refine any_take (i := 7) (d := 47) (v := .pointer (some ⟨g, 1, none⟩)) rfl rfl (by kernel_rfl) (by kernel_rfl) (by kernel_rfl) (fun _ _ _ h => h) (Or.inl ⟨by rfl, fun w => by go_simp⟩) ?_
          refine any_take (i := 9) (d := 49) (v := .pointer (some ⟨g, 0, none⟩)) rfl rfl (by kernel_rfl) (by kernel_rfl) (by kernel_rfl) (fun _ _ _ h => h) (Or.inl ⟨by rfl, fun w => by go_simp⟩) ?_
          refine any_take (i := 10) (d := 50) (v := .pointer (some ⟨g, 0, none⟩)) rfl rfl (by kernel_rfl) (by kernel_rfl) (by kernel_rfl) (fun _ _ _ h => h) (Or.inl ⟨by rfl, fun w => by go_simp⟩) ?_
          refine any_take (i := 11) (d := 51) (v := .pointer (some ⟨g, 33, none⟩)) rfl rfl (by kernel_rfl) (by kernel_rfl) (by kernel_rfl) (fun _ _ _ h => h) (Or.inl ⟨by rfl, fun w => by go_simp⟩) ?_
          refine three_reads (i1 := 4) (i2 := 8) (i3 := 12) (d1 := 44) (d2 := 48) (d3 := 52) (x1 := 43) (x2 := 47) (x3 := 51) (v1 := .int .i64 wd) (v2 := .agg (st.map u8c).toArray) (v3 := .agg (R'.map u8c).toArray) (p1 := .pointer (some ⟨g, 0, none⟩)) (p2 := .pointer (some ⟨g, 1, none⟩)) (p3 := .pointer (some ⟨g, 33, none⟩)) (fun a K ha hK => op_reads rfl rfl _ (load_cell ha c0) hK) (fun a K ha hK => op_load_mid rfl rfl 23 _ rfl g 1 ha _ _ rs Tryd.underlying23 rfl zs hK) (fun a K ha hK => op_load_mid rfl rfl 24 _ rfl g 33 ha _ _ rr Tryd.underlying24 rfl zr hK) (by kernel_rfl) (by kernel_rfl) (by kernel_rfl) (by decide) (by kernel_rfl) (by kernel_rfl) (by kernel_rfl) (by kernel_rfl) (by kernel_rfl) (by kernel_rfl) (by kernel_rfl) ?_
          refine any_seq4 (k := 13) rfl rfl rfl rfl rfl (by kernel_rfl) ?_
          have bR' : Bytes R' := by rw [← HR'.out]; exact splice_bytes Rb bb
          have CP : Calls Tryd.prog 12 #[.int .i64 wd, .agg (st.map u8c).toArray, .agg (R'.map u8c).toArray] w2.drew fun e w' => e = .returned (.agg (cellsOf' u8c (compressN wd st R'))) ∧ Below w2.drew.heap.size w2.drew w' := Compress_any sl Rl' sb bR' _ (HD.out.touch ((HT.out.trans ht2).drew) hg)
          have cl := compress_len wd st R'
          have gl2 : g < w2.drew.heap.size := lt_of_heap (w := w2) hp2
          obtain ⟨Z, hZ⟩ : ∃ Z, compressN wd st R' = Z := ⟨_, rfl⟩
          rw [hZ] at CP cl
          have HZ := Lib.hid hZ
          have HP2 : Hid (w2.drew.heap[g]? = some (.cells (hCells wd st R' n1).toArray 83 (0, 0))) := Lib.hid hp2
          have HT2 : Hid (TouchB g wr w2.drew) := Lib.hid ht2.drew
          clear hZ rs rr zs zr c0 hp2 ht2
          go_wp2_with (first | (go_at_call 12; refine CP.mono ?_; rintro e w3 ⟨rfl, q3⟩; have HP3 := Lib.hid ((q3.block g gl2).trans HP2.out); have HT3 := Lib.hid (HT2.out.trans (TouchB.of_below q3))) | (refine wpList_store_midTo rfl 23 _ _ rfl rfl g 1 (cellsOf' u8c Z) rfl rfl (row_there HP3.out (by rw [co_size, cl, hc_len sl Rl']; decide)) (hc_all cl) (co_one u8c_one) ?_))
          refine ⟨⟨k + q, by omega, ?_, ?_, ?_, HT.out.trans (HT3.out.setCells _ _)⟩, ?_⟩
          · rw [(HK.out q (by omega)).2]
            exact slice_rest hL (by omega) c1 c2 (fun j x hj => (HT3.out.setCells _ _).cell (CGL.out j x hj) hgs)
          · intro e; exact hgs (by simpa [Value.ownBlock] using e)
          · rw [(HK.out q (by omega)).1]
            obtain ⟨r1, r3⟩ := RF.out (L.take q) bb (by rw [bq]; omega)
            rw [HR'.out] at r1 r3
            refine ⟨fun x hx => ?_, R', r1, ?_⟩
            · rw [List.mem_append] at hx
              rcases hx with hx | hx
              · exact bT x hx
              · exact bb x hx
            · rw [r3, HZ.out, List.length_append, bq, HN0.out, hn1]
              exact heap_store_st sl cl Rl' HP3.out
          · show N - q < N
            omega
end Go.Proofs.YtcifnfffoiiceaaDoor
