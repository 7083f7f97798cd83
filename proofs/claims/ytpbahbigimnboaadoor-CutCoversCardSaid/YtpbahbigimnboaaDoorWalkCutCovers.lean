/-
  massiflaw4.CutCovers: the walk.
-/
import Derived.Test.YtpbahbigimnboaaDoorTiles
import Derived.Test.YtpbahbigimnboaaDoorMerge
import Derived.Test.YtpbahbigimnboaaDoorRow4
namespace Go.Proofs.YtpbahbigimnboaaDoor
open Go.RowKit
set_option linter.unusedVariables false

theorem drop_two {L : List (Nat × Nat)} {i : Nat} {s t : Nat × Nat} (h1 : L[i]? = some s) (h2 : L[i + 1]? = some t) : L.drop i = s :: t :: L.drop (i + 2) := by
  have a1 : i < L.length := (List.getElem?_eq_some_iff.1 h1).1
  have a2 : i + 1 < L.length := (List.getElem?_eq_some_iff.1 h2).1
  rw [List.drop_eq_getElem_cons a1, List.drop_eq_getElem_cons a2]
  rw [List.getElem?_eq_getElem a1] at h1
  rw [List.getElem?_eq_getElem a2] at h2
  rw [Option.some.inj h1, Option.some.inj h2]
theorem calm_drop : ∀ (j : Nat) (l : List (Nat × Nat)), Calm l → Calm (l.drop j)
  | 0, l, h => h
  | j + 1, [], h => trivial
  | j + 1, s :: l, h => calm_drop j l (calm_tail h)
theorem chain_drop {l : List (Nat × Nat)} {a b : Nat} (c : Chain a b l) (j : Nat) : ∃ x, Chain x b (l.drop j) := by
  rw [← List.take_append_drop j l, chain_append] at c
  obtain ⟨x, _, c2⟩ := c
  exact ⟨x, c2⟩
theorem pair_half {l : List (Nat × Nat)} {a b j : Nat} {p q : Nat × Nat} (c : Chain a b l) (k : Calm l) (h1 : l[j]? = some p) (h2 : l[j + 1]? = some q) (e : p.1 = q.1) : p.2 / 2 ≠ q.2 / 2 := by
  obtain ⟨x, c1⟩ := chain_drop c j
  have k1 := calm_drop j l k
  rw [drop_two h1 h2] at c1 k1
  exact half_sib c1 k1 e
theorem three_fall {l : List (Nat × Nat)} {a b j : Nat} {p q r : Nat × Nat} (c : Chain a b l) (k : Calm l) (h1 : l[j]? = some p) (h2 : l[j + 1]? = some q) (h3 : l[j + 2]? = some r) (e : q.1 < p.1) : r.1 < q.1 := by
  obtain ⟨x, c1⟩ := chain_drop c j
  have k1 := calm_drop j l k
  have a3 : j + 2 < l.length := (List.getElem?_eq_some_iff.1 h3).1
  rw [drop_two h1 h2, List.drop_eq_getElem_cons a3] at c1 k1
  rw [List.getElem?_eq_getElem a3] at h3
  rw [Option.some.inj h3] at c1 k1
  exact span_falls c1 k1 e
/-- Two heights have fallen. -/
def Fell (S : List (Nat × Nat)) (j : Nat) : Prop := ∃ (i : Nat) (p q : Nat × Nat), j = i + 1 ∧ S[i]? = some p ∧ S[j]? = some q ∧ q.1 < p.1
set_option maxHeartbeats 4000000 in
set_option maxRecDepth 20000 in
theorem walkCutCovers (a0 a1 : Int) (w0 : (Lit.int .u64 a0).wf = true) (w1 : (Lit.int .u64 a1).wf = true) (w : World) (T : TabAt w) :
    Calls Tryd.prog 6 #[.int .u64 a0, .int .u64 a1] w fun e w' => e = .returned (.bool true) ∧ Below w.heap.size w w' := by
  obtain ⟨m, rfl, hm⟩ := nat_of_u64 w0
  obtain ⟨n, rfl, hn⟩ := nat_of_u64 w1
  have TT := Lib.hid T
  clear w0 w1 T
  by_cases hno : n ≤ m ∨ 4611686018427387904 < n
  · have S0 : ∀ w : World, TabAt w → Calls Tryd.prog 11 #[.int .u64 m, .int .u64 n] w fun e w' => ∃ a c, e = .returned (.slice a 0 c) ∧ SpotsOf w' (.slice a 0 c) [] ∧ Below w.heap.size w w' := fun w T => by
      by_cases hb : 4611686018427387904 < n
      · refine (cutSpan_no hb w).mono ?_
        rintro e w' ⟨rfl, rfl⟩
        exact ⟨_, _, rfl, SpotsOf.nil, Below.refl _ _⟩
      · refine (cutSpan_yes (a := m) (b := n) hm (by omega) w T).mono ?_
        rintro e w' ⟨v, rfl, own, q⟩
        rw [spanL_stop (by omega)] at own
        obtain ⟨a, c, rfl, _⟩ := own_shape own
        exact ⟨a, c, rfl, SpotsOf.of_own (l := []) own, q⟩
    have g1 : decide (n ≤ m) = true ∨ (decide (n ≤ m) = false ∧ (4611686018427387904 : Int) < (n : Int)) := by
      by_cases h : n ≤ m
      · exact .inl (decide_eq_true h)
      · exact .inr ⟨decide_eq_false h, by omega⟩
    have OV0 : overV [] = .tuple #[.int .u64 0, .int .u64 0, .bool false] := overV_none rfl
    have O0 := Lib.hid OV0
    clear hno hm hn OV0
    rcases g1 with g1 | ⟨g1, g2⟩
    all_goals
      first
        | (have g3 : (n : Int) ≤ (m : Int) := by have := of_decide_eq_true g1; omega)
        | (have g3 : (m : Int) < (n : Int) := by have := of_decide_eq_false g1; omega)
      go_enter Tryd.func6, Tryd.ntmps6
      go_wp2_with fail
      refine (S0 _ TT.out).mono ?_
      rintro e w1 ⟨a, c, rfl, s1, q1⟩
      go_wp2_with fail
      refine (row_any (l := []) _ s1 (by simp)).mono ?_
      rintro e w2 ⟨g, cap, rfl, RA, q2⟩
      have b2 := q1.trans (q2.mono q1.size)
      have s2 := RA.spots
      clear s1 RA q1 q2
      go_wp2_with fail
      refine (Over_any (l := []) _ s2 (fun s h => by cases h) (by simp)).mono ?_
      rintro e w3 ⟨rfl, q3⟩
      rw [O0.out]
      have b3 := b2.trans (q3.mono b2.size)
      clear q3 s2
      go_wp2_with fail
      refine (awake4_any _ (TT.out.below b3)).mono ?_
      rintro e w4 ⟨rfl, q4⟩
      go_wp2
      go_ret
      exact ⟨rfl, b3.trans (q4.mono b3.size)⟩
  have hmn : m < n := by omega
  have hb : n ≤ 4611686018427387904 := by omega
  have S0 := fun w => cutSpan_yes (a := m) (b := n) hm hb w
  have l124 := spanL_124 (a := m) (b := n) hb
  have CH := span_chain hb (Nat.le_of_lt hmn)
  have CA := span_calm (a := m) hb
  have MG := merge_chain (Nat.le_of_lt hmn) hb CH
  have ne : spanL m n ≠ [] := by rw [spanL_go hmn hb]; simp
  have lp : 0 < (spanL m n).length := List.length_pos_iff.2 ne
  have OV := overV_some (overL_chain.2 ⟨ne, CH⟩)
  have SM := Lib.hid (small_of_chain CH)
  have CHH := Lib.hid CH
  have CAH := Lib.hid CA
  have MGH := Lib.hid MG
  have OVH := Lib.hid OV
  clear CH CA MG OV ne hno hm hn
  generalize hS : spanL m n = S at *
  clear hS
  have i0 : (m : Int) < (n : Int) := by omega
  have i1 : decide ((n : Int) ≤ (m : Int)) = false := decide_eq_false (by omega)
  have i2 : decide (n ≤ m) = false := decide_eq_false (by omega)
  have i3 : decide ((4611686018427387904 : Int) < (n : Int)) = false := decide_eq_false (by omega)
  have i4 : (n : Int) ≤ 4611686018427387904 := by omega
  have li : (S.length : Int) ≤ 124 := by omega
  have li2 : decide ((124 : Int) < (S.length : Int)) = false := decide_eq_false (by omega)
  clear hmn
  go_enter Tryd.func6, Tryd.ntmps6
  go_wp2_with fail
  refine (S0 _ TT.out).mono ?_
  rintro e w1 ⟨vS, rfl, ownS, q1⟩
  obtain ⟨aS, cS, rfl, hsh⟩ := own_shape ownS
  have OW1 := Lib.hid ownS
  have sp1 := SpotsOf.of_own ownS
  clear hsh ownS
  go_wp2_with fail
  refine (row_any _ sp1 (by omega)).mono ?_
  rintro e w2 ⟨g2, cap2, rfl, RA, q2⟩
  have b2 := q1.trans (q2.mono q1.size)
  have OW2 := Lib.hid (own_below OW1.out q2)
  have s2 := RA.spots
  clear RA q2 sp1 OW1
  go_wp2_with fail
  refine (Over_any _ s2 SM.out (by omega)).mono ?_
  rintro e w3 ⟨rfl, q3⟩
  rw [OVH.out]
  have b3 := b2.trans (q3.mono b2.size)
  have OW3 := Lib.hid (own_below OW2.out q3)
  clear q3 s2 OW2 b2 q1
  go_wp2
  go_loopw [9, 10] (fun f x wr => ∃ (j : Nat) (c : Bool), j < S.length ∧ x = .int .i64 ((j + 1 : Nat) : Int) ∧ f = .bool c ∧ (c = true → Fell S j) ∧ Below w3.heap.size w3 wr) (fun _ x _ => S.length - (intOf x).toNat)
  case atStart => exact ⟨0, false, lp, rfl, rfl, (fun h => by cases h), Below.refl _ _⟩
  case round =>
    obtain ⟨j, c, hj, rfl, rfl, hfell, hbr⟩ := hrel
    by_cases hlt : j + 1 < S.length
    · obtain ⟨⟨p, q⟩, h1⟩ : ∃ s, S[j]? = some s := ⟨S[j], List.getElem?_eq_getElem hj⟩
      obtain ⟨⟨x2, y2⟩, h2⟩ : ∃ s, S[j + 1]? = some s := ⟨S[j + 1], List.getElem?_eq_getElem hlt⟩
      have r1 := chain_right _ _ _ CHH.out _ (List.mem_of_getElem? h1)
      have r2 := chain_right _ _ _ CHH.out _ (List.mem_of_getElem? h2)
      have p62 : p ≤ 62 := r1.1
      have x62 : x2 ≤ 62 := r2.1
      have qk : q ≤ 4611686018427387904 := Nat.le_of_lt (right_k r1)
      have yk : y2 ≤ 4611686018427387904 := Nat.le_of_lt (right_k r2)
      obtain ⟨a, cap, e0, hsh⟩ := own_shape OW3.out
      obtain ⟨g, e1, _, hg, _, cells⟩ := hsh (by omega)
      injection e0 with e2 e3 e4
      rw [e1] at e2
      subst e2 e4
      obtain ⟨t1, t2⟩ := spotC_get _ j _ h1
      obtain ⟨t3, t4⟩ := spotC_get _ (j + 1) _ h2
      have cell : ∀ (i : Nat) (u : Value), (spotC S)[i]? = some u → wr.cell? ⟨g, i, none⟩ = some u := fun i u hi => by rw [hbr.cell (p := ⟨g, i, none⟩) hg]; exact cells i u hi
      have c1 := cell _ _ t1
      have c2 := cell _ _ t2
      have c3 := cell _ _ t3
      have c4 := cell _ _ t4
      rw [Nat.mul_comm] at c1 c2 c3 c4
      dsimp only at c1 c2 c3 c4
      have half := pair_half CHH.out CAH.out h1 h2
      dsimp only at half
      have hgw : g < wr.heap.size := Nat.lt_of_lt_of_le hg hbr.size
      have FN := Lib.hid (show x2 < p → Fell S (j + 1) from fun h => ⟨j, _, _, rfl, h1, h2, h⟩)
      have FC : c = true → x2 < p := fun hc => by
        obtain ⟨i, p', q', e, g1, g2, g3⟩ := hfell hc
        subst e
        rw [h1] at g2
        rw [← Option.some.inj g2] at g3
        exact three_fall CHH.out CAH.out g1 h1 h2 g3
      obtain ⟨k1, hk1⟩ : ∃ k1, j + 1 = k1 := ⟨_, rfl⟩
      have ek : (k1 : Int) - 1 = (j : Int) := by omega
      have kb : (k1 : Int) < (S.length : Int) := by omega
      have jb : (j : Int) < (S.length : Int) := by omega
      have i4' : j ≤ 4000 := by omega
      have k4' : k1 ≤ 4000 := by omega
      have k0 : (0 : Int) ≤ (k1 : Int) - 1 := by omega
      rw [hk1] at c3 c4 FN ⊢
      have HK1 := Lib.hid hk1
      clear h1 h2 r1 r2 t1 t2 t3 t4 cell cells hsh e1 hk1 hfell
      obtain ⟨wk1, wki1⟩ := put_w k1 k4'
      obtain ⟨wk, wki⟩ := put_w j i4'
      go_wp2
      go_cut [11, 12] (fun s8 s9 wx => Boxes wr (.int .u8 (p : Int)) (.int .u64 (q : Int)) (.int .u8 (x2 : Int)) (.int .u64 (y2 : Int)) s8 s9 wx)
      case first =>
        go_region
        all_goals
          go_wp2_with fail
          go_meet
          first | exact boxes_a _ _ _ _ _ _ | exact boxes_b _ _ _ _ _ _
      case rest =>
        clear wk wki wk1 wki1 ek k0
        generalize wc = wd at *
        obtain ⟨d1, d2, rfl, rfl, f1, f2, f3, f4, l1, l2, hbx⟩ := hcut
        have hb4 := hbr.trans (hbx.mono hbr.size)
        clear c1 c2 c3 c4 hbx
        have kl : k1 < S.length := by omega
        rcases Nat.lt_trichotomy x2 p with ht | ht | ht
        · have t1 : ((p : Int) == (x2 : Int)) = false := by rw [beq_eq_false_iff_ne]; omega
          have t2 : (x2 : Int) < (p : Int) := by omega
          have FX := Lib.hid (FN.out ht)
          clear FC half ht
          go_wp2
          go_roundw
          case rel => exact ⟨k1, true, kl, by go_num, rfl, fun _ => FX.out, hb4⟩
          case measure => simp [intOf]; omega
        · subst ht
          have hc : c = false := by
            cases c with
            | false => rfl
            | true => exact absurd (FC rfl) (Nat.lt_irrefl _)
          subst hc
          have hne := half rfl
          have t1 : ((q : Int) / 2 == (y2 : Int) / 2) = false := by rw [beq_eq_false_iff_ne]; omega
          clear FC half hne
          go_wp2
          go_roundw
          case rel => exact ⟨k1, false, kl, by go_num, rfl, (fun h => by cases h), hb4⟩
          case measure => simp [intOf]; omega
        · have hc : c = false := by
            cases c with
            | false => rfl
            | true => have := FC rfl; omega
          subst hc
          have t1 : ((p : Int) == (x2 : Int)) = false := by rw [beq_eq_false_iff_ne]; omega
          have t2 : decide ((x2 : Int) < (p : Int)) = false := decide_eq_false (by omega)
          have t3 : (p : Int) ≤ (x2 : Int) := by omega
          clear FC half ht
          go_wp2
          go_roundw
          case rel => exact ⟨k1, false, kl, by go_num, rfl, (fun h => by cases h), hb4⟩
          case measure => simp [intOf]; omega
    · have jl : (S.length : Int) ≤ ((j + 1 : Nat) : Int) := by omega
      have bAll : Below w.heap.size w wr := b3.trans (hbr.mono b3.size)
      have spr := SpotsOf.of_own (own_below OW3.out hbr)
      have SPR := Lib.hid spr
      clear hfell
      go_wp2_with fail
      refine (row_any _ spr (by omega)).mono ?_
      rintro e w4 ⟨g4, cap4, rfl, RA, q4⟩
      have b4 := bAll.trans (q4.mono bAll.size)
      have s4 := RA.spots
      have SP4 := Lib.hid (SPR.out.below q4)
      clear RA q4 spr
      go_wp2_with fail
      refine (Merge_any _ s4 SM.out (by omega)).mono ?_
      rintro e w5 ⟨v5, rfl, own5, q5⟩
      rw [MGH.out.1] at own5
      rw [MGH.out.2]
      have b5 := b4.trans (q5.mono b4.size)
      have s5 := SpotsOf.of_own own5
      have sp5 := SP4.out.below q5
      clear own5 q5 s4
      go_wp2_with fail
      refine (same_any _ s5 sp5).mono ?_
      rintro e w6 ⟨rfl, q6⟩
      rw [decide_eq_true (rfl : S = S)]
      have b6 := b5.trans (q6.mono b5.size)
      clear q6 s5 sp5
      go_wp2_with fail
      refine (awake4_any _ (TT.out.below b6)).mono ?_
      rintro e w7 ⟨rfl, q7⟩
      go_wp2
      go_ret
      exact ⟨rfl, b6.trans (q7.mono b6.size)⟩
end Go.Proofs.YtpbahbigimnboaaDoor
