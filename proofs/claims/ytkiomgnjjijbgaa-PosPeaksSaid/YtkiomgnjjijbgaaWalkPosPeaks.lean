/-
  PosPeaks: the walk.
-/
import Derived.Test.YtkiomgnjjijbgaaFour
import Derived.Test.YtkiomgnjjijbgaaAwake3
namespace Go.Proofs.Ytkiomgnjjijbgaa
open Go.RowKit
set_option linter.unusedVariables false

def pick4 (a b c d : Value) : Nat → Value
  | 0 => a
  | 1 => b
  | 2 => c
  | _ => d
def pickN (p l : Nat) (j : Nat) : Nat := if j < 2 then p else l
theorem dis_of {a b c d : Value} {m0 m1 m2 m3 m4 gl : Nat} (ha : ∀ k, a.ownBlock = some k → m0 ≤ k ∧ k < m1) (hb : ∀ k, b.ownBlock = some k → m1 ≤ k ∧ k < m2) (hc : ∀ k, c.ownBlock = some k → m2 ≤ k ∧ k < m3) (hd : ∀ k, d.ownBlock = some k → m3 ≤ k ∧ k < m4)
    (h1 : m1 ≤ m2) (h2 : m2 ≤ m3) (h3 : m3 ≤ m4) (hg : m4 ≤ gl) : Dis (pick4 a b c d) gl := by
  have key : ∀ j, j < 4 → ∀ k, (pick4 a b c d j).ownBlock = some k → (if j = 0 then m0 else if j = 1 then m1 else if j = 2 then m2 else m3) ≤ k ∧ k < (if j = 0 then m1 else if j = 1 then m2 else if j = 2 then m3 else m4) := by
    intro j hj k hk
    match j, hj with
    | 0, _ => exact ha k hk
    | 1, _ => exact hb k hk
    | 2, _ => exact hc k hk
    | 3, _ => exact hd k hk
  refine ⟨fun j k x hj hk hne h h' => ?_, fun j hj h => ?_⟩
  · have p := key j hj x h
    have q := key k hk x h'
    have cj : j = 0 ∨ j = 1 ∨ j = 2 ∨ j = 3 := by omega
    have ck : k = 0 ∨ k = 1 ∨ k = 2 ∨ k = 3 := by omega
    rcases cj with rfl | rfl | rfl | rfl <;> rcases ck with rfl | rfl | rfl | rfl <;> simp at p q <;> omega
  · have p := key j hj _ h
    have cj : j = 0 ∨ j = 1 ∨ j = 2 ∨ j = 3 := by omega
    rcases cj with rfl | rfl | rfl | rfl <;> simp at p <;> omega

set_option maxHeartbeats 2000000 in
set_option maxRecDepth 20000 in
theorem walkPosPeaks (a0 a1 : Int) (w0 : (Lit.int .u64 a0).wf = true) (w1 : (Lit.int .u64 a1).wf = true) (w : World) :
    Calls Try.prog 9 #[.int .u64 a0, .int .u64 a1] w fun e w' => e = .returned (.bool true) ∧ Below w.heap.size w w' := by
  obtain ⟨i, rfl, hi⟩ := nat_of_u64 w0
  obtain ⟨n, rfl, hn⟩ := nat_of_u64 w1
  obtain ⟨P, PK, RPK, hP⟩ := peaks_both (n := n)
  obtain ⟨L, c, PA, RPA, hL⟩ := path_both (i := i) (n := n)
  obtain ⟨k, ck, PE, RPE⟩ := peak_both (i := i) (n := n)
  obtain ⟨i0, hi0, hz0, hz1, hz2⟩ := info_parts info_u64
  clear w0 w1 hi hn
  go_enter Try.func9, Try.ntmps9
  go_wp2_with fail
  refine (RPK _).mono ?_
  rintro e w1 ⟨vW, rfl, ownW, q1⟩
  go_wp2_with fail
  refine (RPA _).mono ?_
  rintro e w2 ⟨vQ, rfl, ownQ, q2⟩
  have ownW2 := own_below ownW q2
  go_wp2_with fail
  refine (PK _).mono ?_
  rintro e w3 ⟨vA, rfl, ownA, q3⟩
  go_wp2_with fail
  refine (PK _).mono ?_
  rintro e w4 ⟨vB, rfl, ownB, q4⟩
  go_wp2_with fail
  refine (PA _).mono ?_
  rintro e w5 ⟨vC, rfl, ownC, q5⟩
  go_wp2_with fail
  refine (PA _).mono ?_
  rintro e w6 ⟨vD, rfl, ownD, q6⟩
  go_wp2_with fail
  refine (PE _).mono ?_
  rintro e w' ⟨rfl, rfl⟩
  go_wp2_with fail
  refine (RPE _).mono ?_
  rintro e w7 ⟨rfl, q7⟩
  have bA := fun j hj => ownA.lt j hj
  have bB := fun j hj => ownB.lt j hj
  have bC := fun j hj => ownC.lt j hj
  have bD := fun j hj => ownD.lt j hj
  have b56 := q5.trans (q6.mono q5.size)
  have b46 := q4.trans (b56.mono q4.size)
  have b36 := q3.trans (b46.mono q3.size)
  have A7 := own_below (own_below ownA b46) q7
  have B7 := own_below (own_below ownB b56) q7
  have C7 := own_below (own_below ownC q6) q7
  have D7 := own_below ownD q7
  have r2 : Below w.heap.size w w2 := q1.trans (q2.mono q1.size)
  have b27 : Below w2.heap.size w2 w7 := b36.trans (q7.mono b36.size)
  have W7 := own_below ownW2 b27
  have Q7 := own_below ownQ b27
  have z3 := q3.size
  have z4 := q4.size
  have z5 := q5.size
  have z6 := q6.size
  have z7 := q7.size
  clear ownA ownB ownC ownD q1 q2 q3 q4 q5 q6 q7 b56 b46 b36 ownW
  go_wp2_with fail
  refine (list_any _ (SliceOf.of_own A7 rfl) (SliceOf.of_own W7 rfl)).mono ?_
  rintro e w8 ⟨rfl, q8⟩
  rw [decide_eq_true (rfl : P = P)]
  go_wp2_with fail
  refine (list_any _ (SliceOf.of_own (own_below B7 q8) rfl) (SliceOf.of_own (own_below W7 q8) rfl)).mono ?_
  rintro e w9 ⟨rfl, q9⟩
  rw [decide_eq_true (rfl : P = P)]
  have b79 := q8.trans (q9.mono q8.size)
  go_wp2_with fail
  refine (list_any _ (SliceOf.of_own (own_below C7 b79) rfl) (SliceOf.of_own (own_below Q7 b79) rfl)).mono ?_
  rintro e w10 ⟨rfl, q10⟩
  rw [decide_eq_true (rfl : L = L)]
  have b710 := b79.trans (q10.mono b79.size)
  go_wp2_with fail
  refine (list_any _ (SliceOf.of_own (own_below D7 b710) rfl) (SliceOf.of_own (own_below Q7 b710) rfl)).mono ?_
  rintro e w11 ⟨rfl, q11⟩
  rw [decide_eq_true (rfl : L = L)]
  have b711 := b710.trans (q11.mono b710.size)
  have A11 := own_below A7 b711
  have B11 := own_below B7 b711
  have C11 := own_below C7 b711
  have D11 := own_below D7 b711
  have b2 : Below w2.heap.size w2 w11 := b27.trans (b711.mono b27.size)
  have z11 := b711.size
  clear A7 B7 C7 D7 W7 Q7 b79 b710 b711 q8 q9 q10 q11 b27
  obtain ⟨aA, cA, rfl, _⟩ := own_shape A11
  obtain ⟨aB, cB, rfl, _⟩ := own_shape B11
  obtain ⟨aC, cC, rfl, _⟩ := own_shape C11
  obtain ⟨aD, cD, rfl, _⟩ := own_shape D11
  go_wp2_with fail
  have D : Dis (pick4 (.slice aA P.length cA) (.slice aB P.length cB) (.slice aC L.length cC) (.slice aD L.length cD)) w11.heap.size := dis_of bA bB bC bD z4 z5 z6 (Nat.le_trans z7 z11)
  generalize hW : World.alloc w11 _ = w12
  have I0 : Inv1 w2.heap.size w11.heap.size (pick4 (.slice aA P.length cA) (.slice aB P.length cB) (.slice aC L.length cC) (.slice aD L.length cD)) (pickN P.length L.length) 0 0 w12 := by
    rw [← hW]
    refine ⟨fun j hj => ?_, fun j hj => ?_, b2.size, by simp⟩
    · match j, hj with
      | 0, _ => exact ⟨_, (own_mono A11 (Nat.le_refl _)).alloc _, fun k _ h => by omega⟩
      | 1, _ => exact ⟨_, (own_mono B11 z3).alloc _, fun k _ h => by omega⟩
      | 2, _ => exact ⟨_, (own_mono C11 (by omega)).alloc _, fun k _ h => by omega⟩
      | 3, _ => exact ⟨_, (own_mono D11 (by omega)).alloc _, fun k _ h => by omega⟩
    · rw [cell_of_row _ _ _ _ _ _ (heap_alloc_new _ _)]
      match j, hj with
      | 0, _ => rfl
      | 1, _ => rfl
      | 2, _ => rfl
      | 3, _ => rfl
  have b12 : Below w2.heap.size w2 w12 := by rw [← hW]; exact b2.alloc b2.size _
  have hN : ∀ j, pickN P.length L.length j ≤ 64 := by intro j; unfold pickN; split <;> omega
  clear hW A11 B11 C11 D11 bA bB bC bD b2
  generalize pick4 (.slice aA P.length cA) (.slice aB P.length cB) (.slice aC L.length cC) (.slice aD L.length cD) = V at *
  generalize pickN P.length L.length = N at *
  generalize hZ : w2.heap.size = Z at *
  generalize w11.heap.size = gl at *
  have DD := Lib.hid D
  have HN := Lib.hid hN
  clear D hN z3 z4 z5 z6 z7 z11
  go_loopw [19] (fun x wr => ∃ j : Nat, j ≤ 4 ∧ x = .int .i64 (j : Int) ∧ Inv1 Z gl V N j 0 wr ∧ Below Z w2 wr) (fun x _ => 4 - (intOf x).toNat)
  case atStart => exact ⟨0, by omega, rfl, I0, b12⟩
  case round =>
    obtain ⟨j, hj, rfl, I, bw⟩ := hrel
    by_cases hlt : j < 4
    · have ji : (j : Int) < 4 := by omega
      go_wp2
      go_loopw [20] (fun y wr => ∃ k : Nat, k ≤ N j ∧ y = .int .i64 (k : Int) ∧ Inv1 Z gl V N j k wr ∧ Below Z w2 wr) (fun y _ => N j - (intOf y).toNat)
      case atStart => exact ⟨0, by omega, rfl, I, bw⟩
      case round =>
        obtain ⟨k, hk, rfl, I', bw'⟩ := hrel
        obtain ⟨xs, hown, _⟩ := I'.1 j hlt
        obtain ⟨a, cap, e, hs⟩ := own_shape hown
        have cl := I'.2.1 j hlt
        rw [e] at cl
        have gls := I'.2.2.2
        have n64 := HN.out j
        by_cases hk2 : k < N j
        · obtain ⟨g, rfl, hg0, hg, hc, cells⟩ := hs (by omega)
          have ki : (k : Int) < (N j : Int) := by omega
          rw [e] at hown
          have hxl : xs.length = N j := by have := hown.1; omega
          obtain ⟨u, hu⟩ : ∃ u, wr.cell? ⟨g, k, none⟩ = some u := ⟨_, cells k _ (List.getElem?_eq_getElem (by omega))⟩
          have fz := hown.frozenAt k
          have NX := Lib.hid (inv1_store I' hlt hk2 e DD.out)
          clear cells hown I I' bw hs hxl
          go_wp2
          go_roundw
          case rel => exact ⟨k + 1, by omega, by go_num, NX.out, bw'.setCell hg0 _⟩
          case measure => simp [intOf]; omega
        · obtain rfl : k = N j := by omega
          have NX := Lib.hid (inv1_next I')
          clear I I' hown hs
          go_wp2
          go_roundw
          case rel => exact ⟨j + 1, by omega, by go_num, NX.out, bw'⟩
          case measure => simp [intOf]; omega
    · obtain rfl : j = 4 := by omega
      have IE := Lib.hid I
      clear I I0 b12
      go_wp2
      generalize hW3 : World.alloc wr _ = wS
      have gls := IE.out.2.2
      have J0 : Inv2 Z gl wr.heap.size V N 0 wS := inv2_start IE.out DD.out hW3.symm rfl rfl
      have bS : Below Z w2 wS := by rw [← hW3]; exact bw.alloc (by omega) _
      clear hW3 IE bw gls
      generalize wr.heap.size = ga at *
      go_loopw [22] (fun x wr => ∃ j : Nat, j ≤ 4 ∧ x = .int .i64 (j : Int) ∧ Inv2 Z gl ga V N j wr ∧ Below Z w2 wr) (fun x _ => 4 - (intOf x).toNat)
      case atStart => exact ⟨0, by omega, rfl, J0, bS⟩
      case round =>
        obtain ⟨j, hj, rfl, J, bw⟩ := hrel
        by_cases hlt : j < 4
        · have ji : (j : Int) < 4 := by omega
          obtain ⟨xs, hown, hm⟩ := inv2_row J hlt
          have hxl : xs.length = N j := by have := hown.1; omega
          obtain ⟨a, cap, e, hs⟩ := own_shape hown
          obtain ⟨_, _, _, _, _, cl, _, _, _, z1, z2, z3, z4, z5⟩ := id J
          have cj := cl j hlt
          rw [e] at cj
          have n64 := HN.out j
          have JJ := Lib.hid J
          have own' := hown
          rw [e] at own'
          have EE := Lib.hid e
          clear J J0 bS hs cl hown e
          go_wp2_with (at_builtin; first | (refine wpList_append_own2 _ rfl (.tmp 138) (.tmp 142) 36 rfl Z 22 i0 (.int .u64 0) 1 8 Try.underlying36 hi0 hz0 hz1 hz2 rfl (by decide) _ (N j) xs rfl (own'.alloc _) ⟨wr.heap.size, 0, none⟩ 1 1 [mark j] rfl rfl (new_cell _ _ _) (one_cell _ _) (by unfold maxLen; omega) (by omega) (by simp; omega) ?_; intro vM wM own1 (hg1 : (wr.alloc (.cells #[mark j] 22 (0, 0))).grownBy wM (Value.slice a (N j) cap).ownBlock) (hb1 : vM.ownBlock = (Value.slice a (N j) cap).ownBlock ∨ vM.ownBlock = some (wr.alloc (.cells #[mark j] 22 (0, 0))).heap.size); rw [← EE.out] at hg1 hb1) | (refine wpList_append_own2 _ rfl (.tmp 143) (.tmp 147) 36 rfl Z 22 i0 (.int .u64 0) 1 8 Try.underlying36 hi0 hz0 hz1 hz2 rfl (by decide) _ (N j + 1) (xs ++ [mark j]) rfl (own1.alloc _) ⟨wM.heap.size, 0, none⟩ 1 1 [mark j] rfl rfl (new_cell _ _ _) (one_cell _ _) (by unfold maxLen; omega) (by omega) (by have := hg1.size; simp at this; simp; omega) ?_; intro vN wN own2 (hg2 : (wM.alloc (.cells #[mark j] 22 (0, 0))).grownBy wN vM.ownBlock) (hb2 : vN.ownBlock = vM.ownBlock ∨ vN.ownBlock = some (wM.alloc (.cells #[mark j] 22 (0, 0))).heap.size); obtain ⟨⟨u, hu⟩, fz, gs, gz⟩ := inv2_cell JJ.out hlt hg1 hb1 hg2; obtain ⟨aN, cN, rfl, _⟩ := own_shape own2))
          have NX := Lib.hid (inv2_step JJ.out hlt hm hxl hg1 hb1 own2 hg2 hb2)
          have bM : Below Z w2 wM := (bw.alloc (by omega) _).grown hg1 (by simp; omega) (fun b hb => (own'.lt b (by rw [← EE.out]; exact hb)).1)
          have bN : Below Z w2 wN := (bM.alloc (by have := hg1.size; simp at this; omega) _).grown hg2 (by have := hg1.size; simp at this; simp; omega) (fun b hb => (own1.lt b hb).1)
          go_roundw
          case rel => exact ⟨_, _, _, _, _, _, _, _, _, _, _, _, _, _, _, _, _, _, _, _, _, ⟨j + 1, by omega, by go_num, NX.out, bN.setCell z3 _⟩, rfl⟩
          case measure => simp [intOf]; omega
        · obtain rfl : j = 4 := by omega
          obtain ⟨V2, _, _, _, rows, _, ca, _⟩ := J
          have ROWS := Lib.hid rows
          have CA := Lib.hid ca
          clear rows ca J0 bS
          go_wp2
          go_loopw [23] (fun x wr' => ∃ j : Nat, j ≤ 4 ∧ x = .int .i64 (j : Int) ∧ wr' = wr) (fun x _ => 4 - (intOf x).toNat)
          case atStart => exact ⟨0, by omega, rfl, rfl⟩
          case round =>
            obtain ⟨j, hj, rfl, rfl⟩ := hrel
            by_cases hlt : j < 4
            · have ji : (j : Int) < 4 := by omega
              obtain ⟨xs, hown, hm⟩ := ROWS.out j hlt
              have cj := CA.out j hlt hlt
              rw [if_pos hlt] at hown hm
              obtain ⟨a, cap, e, hs⟩ := own_shape hown
              obtain ⟨g, rfl, hg0, hg, hc, cells⟩ := hs (by omega)
              rw [e] at cj
              have n64 := HN.out j
              have CC := Lib.hid (show ∀ k, k < N j + 2 → wr.cell? ⟨g, k, none⟩ = some (mark j) from fun k hk => cells k _ (hm k hk))
              clear hs hown hm cells e
              go_wp2
              go_loopw [24] (fun y wr' => ∃ k : Nat, k ≤ N j + 2 ∧ y = .int .i64 (k : Int) ∧ wr' = wr) (fun y _ => N j + 2 - (intOf y).toNat)
              case atStart => exact ⟨0, by omega, rfl, rfl⟩
              case round =>
                obtain ⟨k, hk, rfl, rfl⟩ := hrel
                by_cases hk2 : k < N j + 2
                · have ck := CC.out k hk2
                  unfold mark at ck
                  have ki : (k : Int) < ((N j + 2 : Nat) : Int) := by omega
                  go_wp2
                  go_roundw
                  case rel => exact ⟨k + 1, by omega, by go_num, by trivial⟩
                  case measure => simp [intOf]; omega
                · obtain rfl : k = N j + 2 := by omega
                  go_wp2
                  go_roundw
                  case rel => exact ⟨j + 1, by omega, by go_num, by trivial⟩
                  case measure => simp [intOf]; omega
            · obtain rfl : j = 4 := by omega
              rw [← hZ] at bw
              have W9 := own_below ownW2 bw
              have Q9 := own_below ownQ bw
              go_wp2_with fail
              refine (PA _).mono ?_
              rintro e wE ⟨vE, rfl, ownE, qE⟩
              go_wp2_with fail
              refine (PK _).mono ?_
              rintro e wF ⟨vF, rfl, ownF, qF⟩
              have qEF := qE.trans (qF.mono qE.size)
              go_wp2_with fail
              refine (list_any _ (SliceOf.of_own ownF rfl) (SliceOf.of_own (own_below W9 qEF) rfl)).mono ?_
              rintro e wG ⟨rfl, qG⟩
              rw [decide_eq_true (rfl : P = P)]
              have qEG := qEF.trans (qG.mono qEF.size)
              go_wp2_with fail
              refine (list_any _ (SliceOf.of_own (own_below (own_below ownE qF) qG) rfl) (SliceOf.of_own (own_below Q9 qEG) rfl)).mono ?_
              rintro e wH ⟨rfl, qH⟩
              rw [decide_eq_true (rfl : L = L)]
              have qEH := qEG.trans (qH.mono qEG.size)
              have rH : Below w.heap.size w wH := r2.trans ((bw.trans (qEH.mono bw.size)).mono r2.size)
              clear ownE ownF W9 Q9
              go_wp2_with fail
              refine (awake3_any _).mono ?_
              rintro e wI ⟨rfl, qI⟩
              go_wp2
              go_ret
              exact ⟨rfl, rH.trans (qI.mono rH.size)⟩
end Go.Proofs.Ytkiomgnjjijbgaa
