/-
  The walk of massifref2.Sum.
-/
import Derived.Test.YtcifnfffoiiceaaDoorRefText
namespace Go.Proofs.YtcifnfffoiiceaaDoor
open Go.RowKit
set_option linter.unusedVariables false
set_option pp.deepTerms true
set_option pp.maxSteps 1000000

/-- A slice of slices of bytes, that is only read. -/
def PartsIn (w : World) (v : Value) (vs : List Value) (Ls : List (List Nat)) : Prop :=
  SliceOf (fun x : Value => x) w v vs ∧ vs.length = Ls.length ∧ ∀ (i : Nat) (x : Value) (L : List Nat), vs[i]? = some x → Ls[i]? = some L → SliceOf u8c w x L
theorem PartsAt.toIn {w : World} {v : Value} {vs : List Value} {Ls : List (List Nat)} (h : PartsAt w v vs Ls) : PartsIn w v vs Ls := ⟨h.1, h.2.1, fun i x L hx hL => (h.2.2 i x L hx hL).1⟩
theorem PartsIn.below {w w' : World} {v : Value} {vs : List Value} {Ls : List (List Nat)} (h : PartsIn w v vs Ls) (hb : Below w.heap.size w w') : PartsIn w' v vs Ls :=
  ⟨h.1.below hb, h.2.1, fun i x L hx hL => (h.2.2 i x L hx hL).below hb⟩
set_option maxRecDepth 8000 in
set_option maxHeartbeats 4000000 in
theorem refSum_any {W : World} {wd : Int} {v : Value} {vs : List Value} {Ls : List (List Nat)} (H : PartsIn W v vs Ls) (hB : ∀ L ∈ Ls, Bytes L) (hl : Ls.flatten.length ≤ 100000) (hn : vs.length ≤ 4611686018427387904) :
    Calls Tryd.prog 16 #[.int .i64 wd, v] W fun e w' => e = .returned (.agg (cellsOf' u8c (sumN wd Ls.flatten))) ∧ Below W.heap.size W w' := by
  have HP := Lib.hid H
  have HBs := Lib.hid hB
  have HL := Lib.hid hl
  have HN := Lib.hid hn
  clear H hB hl hn
  go_enter Tryd.func16, Tryd.ntmps16
  go_wp2_with fail
  obtain ⟨Z, hZ⟩ : ∃ Z, W.heap.size = Z := ⟨_, rfl⟩
  generalize hW1 : World.alloc W _ = w1
  rw [hZ]
  have G1 : Hid (w1.heap[Z]? = some (.cells (cellsOf' u8c (List.replicate 32 0)) 23 (0, 0))) := Lib.hid (by rw [← hW1, ← hZ, heap_alloc_new]; rfl)
  have b1 : Below Z W w1 := by rw [← hW1, ← hZ]; exact (Below.refl _ _).alloc (Nat.le_refl _) _
  have z1 : w1.heap.size = Z + 1 := by rw [← hW1, ← hZ]; simp
  have HZ := Lib.hid hZ
  have HZ1 := Lib.hid z1
  obtain ⟨a, cap, rfl, c1, c2, c3, c4⟩ := HP.out.1.form
  have C3 := Lib.hid c3
  have C4 := Lib.hid c4
  have NL := Lib.hid HP.out.2.1
  obtain ⟨N, hN⟩ : ∃ N, vs.length = N := ⟨_, rfl⟩
  rw [hN] at c1 HN NL ⊢
  have HNN := Lib.hid hN
  have Ni : (N : Int) ≤ 4611686018427387904 := by have := HN.out; omega
  have HB1 := Lib.hid b1
  have br : Below (Z + 1) w1 w1 := Below.refl _ _
  clear hW1 z1 c3 c4 hN hZ b1
  go_loopw [5, 6] (fun o i wr => ∃ n : Nat, n ≤ N ∧ i = .int .i64 (n : Int) ∧ wr.ownsRow (Z + 1) 5 1 o (Ls.take n).flatten.length (u8s (Ls.take n).flatten) ∧ Below (Z + 1) w1 wr) (fun _ i _ => N - (intOf i).toNat)
  case atStart => exact ⟨0, by omega, rfl, ⟨rfl, .inl ⟨rfl, rfl⟩⟩, br⟩
  case round =>
    obtain ⟨n, hn, rfl, own, q⟩ := hrel
    clear br
    have zr : Z + 1 ≤ wr.heap.size := by have := q.size; have := HZ1.out; omega
    by_cases hlt : n < N
    · obtain ⟨x, hx⟩ : ∃ x, vs[n]? = some x := ⟨vs[n]'(by rw [HNN.out]; exact hlt), List.getElem?_eq_getElem _⟩
      obtain ⟨L, hL⟩ : ∃ L, Ls[n]? = some L := ⟨Ls[n]'(by rw [← NL.out]; exact hlt), List.getElem?_eq_getElem _⟩
      have sx := HP.out.2.2 n x L hx hL
      obtain ⟨b, off, rfl⟩ := C3.out n x hx
      have cW := C4.out b off rfl n x hx
      have bW : b < Z := by rw [← HZ.out]; exact World.block_lt_of_cell? W _ cW
      have q0 : Below Z W wr := HB1.out.trans (q.mono (Nat.le_succ _))
      have cx : wr.cell? ⟨b, off + n, none⟩ = some x := (q0.cell (p := ⟨b, off + n, none⟩) bW).trans cW
      have sx2 : SliceOf u8c wr x L := sx.below (by rw [HZ.out]; exact q0)
      have fl : (Ls.take (n + 1)).flatten = (Ls.take n).flatten ++ L := by rw [take_snoc' hL, List.flatten_append]; simp
      have ln : (Ls.take n).flatten.length + L.length ≤ 100000 := by
        have e : Ls.flatten = (Ls.take (n + 1)).flatten ++ (Ls.drop (n + 1)).flatten := by rw [← List.flatten_append, List.take_append_drop]
        have := HL.out
        rw [e, fl, List.length_append, List.length_append] at this
        omega
      have FL := Lib.hid fl
      have Ni2 : (n : Int) < (N : Int) := by omega
      have N0 : (0 : Int) ≤ (n : Int) := by omega
      have HO := Lib.hid own
      have HS := Lib.hid sx2
      have HQ := Lib.hid q
      clear hx hL sx cW q0 fl own sx2 q
      go_wp2_with (first
        | (at_builtin; refine app_u8 (.tmp 14) (.tmp 18) rfl rfl (Z + 1) _ (Ls.take n).flatten.length _ rfl HO.out _ L rfl HS.out (by omega) zr ?_; intro v9 w9 own9 hg9; have q9 : Below (Z + 1) w1 w9 := HQ.out.grown hg9 zr (fun k hk => (HO.out.lt k hk).1); have HO9 := Lib.hid own9; clear own9 hg9))
      go_roundw
      case rel =>
        refine ⟨n + 1, by omega, by go_num, ?_, q9⟩
        have := HO9.out
        rw [← u8s_append, ← FL.out, ← List.length_append, ← FL.out] at this
        exact this
      case measure => simp [intOf]; omega
    · obtain rfl : n = N := by omega
      rw [List.take_of_length_le (by rw [← NL.out]; exact Nat.le_refl _)] at own
      have bB : Bytes Ls.flatten := by
        intro c hc
        obtain ⟨L, hL, hcL⟩ := List.mem_flatten.1 hc
        exact HBs.out L hL c hcL
      obtain ⟨T, hT⟩ : ∃ T, Ls.flatten = T := ⟨_, rfl⟩
      rw [hT] at own bB HL
      have S5 : SliceOf u8c wr _ T := SliceOf.of_own own (u8s_eq _)
      have BK := Lib.hid (Blocks_any wr S5 HL.out)
      have HBB := Lib.hid bB
      have HQ := Lib.hid q
      obtain ⟨B, hB⟩ : ∃ B, countN T = B := ⟨_, rfl⟩
      have Bi : B ≤ 100002 := by have := count_le T; have := HL.out; omega
      have Bi2 : (B : Int) ≤ 100002 := by omega
      have HBc := Lib.hid hB
      have HT := Lib.hid hT
      obtain ⟨D, hD⟩ : ∃ D, sumN wd T = D := ⟨_, rfl⟩
      have sl := sum_len wd T
      have ST := sum_text wd T
      rw [hD] at sl ST
      rw [hB] at ST
      have HST := Lib.hid ST
      have HD := Lib.hid hD
      have hDs : (cellsOf' u8c D).size = 32 := by rw [co_size, sl]
      have Bs : ((B + 1 : Nat) : Int) - 1 = (B : Int) := by omega
      clear own S5 q bB hT ST hD hB
      go_wp2_with (first
        | (go_at_call 57; refine BK.out.mono ?_; rintro e w2 ⟨v2, rfl, W2, q2⟩; have SA := Lib.hid (States_any (wd := wd) w2 W2 HBB.out HL.out); clear W2)
        | (go_at_call 56; refine SA.out.mono ?_; rintro e w3 ⟨v3, rfl, W3, q3⟩; rw [HBc.out] at W3; obtain ⟨a3, cap3, rfl, k1, k2, f3⟩ := W3.form; obtain ⟨g3, rfl, _, gl3, r3⟩ := f3 B _ (states_get (Nat.le_refl _)); rw [states_len] at k1 ⊢; rw [← HST.out] at r3; have R3 := Lib.hid r3; have q32 : Below (Z + 1) w1 w3 := HQ.out.trans ((q2.mono zr).trans (q3.mono (Nat.le_trans zr q2.size))); have G3 := Lib.hid ((q32.block _ (Nat.lt_succ_self Z)).trans G1.out); have b3 : Below Z W w3 := HB1.out.trans (q32.mono (Nat.le_succ Z)); have zD : (Tryd.prog.info? 23).map (·.size) = some (D.map u8c).length := (by rw [List.length_map, sl]; exact size_32); clear W3 f3 r3 k2 q32 q2 q3)
        | (refine wpList_load_mid rfl 23 _ rfl g3 (B * 32) rfl (D.map u8c) _ R3.out Tryd.underlying23 rfl zD ?_)
        | (refine wpList_store_row rfl 23 _ _ rfl Z (cellsOf' u8c D) rfl rfl 23 _ G3.out (by rw [hDs]; exact size_32) (by rw [hDs]; rfl) (co_one u8c_one) ?_))
      refine bodyPost_ret (results_cell_row rfl _ _ Z 23 _ (0, 0) _ rfl (setRow_heap _ _ _ _ _ _ G3.out) Tryd.underlying23 rfl (by rw [hDs]; exact size_32)) rfl ⟨by rw [HT.out, HD.out], by rw [HZ.out]; exact below_setRow b3 (Nat.le_refl _) _⟩
end Go.Proofs.YtcifnfffoiiceaaDoor
