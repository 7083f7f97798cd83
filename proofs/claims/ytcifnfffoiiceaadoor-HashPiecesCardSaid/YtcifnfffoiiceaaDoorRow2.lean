/-
  The walks of layer 2's row, same, marked.
-/
import Derived.Test.YtcifnfffoiiceaaDoorHasher
import Derived.Test.YtcifnfffoiiceaaDoorApp
import Derived.Test.YtcifnfffoiiceaaDoorCompFacts
import Derived.Deep.Draws
namespace Go.Proofs.YtcifnfffoiiceaaDoor
open Go.RowKit
set_option linter.unusedVariables false
set_option pp.deepTerms true
set_option pp.maxSteps 1000000

/-- The laws' own same, of two lists of bytes. -/
theorem sameBytes_any {la lb : List Nat} {va vb : Value} (w : World) (ha : SliceOf u8c w va la) (hb : SliceOf u8c w vb lb) :
    Calls Tryd.prog 58 #[va, vb] w fun e w' => e = .returned (.bool (decide (la = lb))) ∧ Below w.heap.size w w' := by
  obtain ⟨a, ca, rfl, a1, a2, a3, a4⟩ := ha.form
  obtain ⟨b, cb, rfl, b1, b2, b3, b4⟩ := hb.form
  have m1 : la.length ≤ 9223372036854775807 := by unfold maxLen at a2; omega
  have m2 : lb.length ≤ 9223372036854775807 := by unfold maxLen at b2; omega
  by_cases hl : la.length = lb.length
  · have HL := Lib.hid hl
    have ht : ((la.length : Int) != (lb.length : Int)) = false := by rw [bne_eq_false_iff_eq]; omega
    have A3 := Lib.hid a3
    have A4 := Lib.hid a4
    have B3 := Lib.hid b3
    have B4 := Lib.hid b4
    clear hl a1 a2 a3 a4 b1 b2 b3 b4
    go_enter Tryd.func58, Tryd.ntmps58
    go_wp2
    go_loopw [5] (fun i wr => ∃ k : Nat, k ≤ la.length ∧ i = .int .i64 k ∧ la.take k = lb.take k ∧ Below w.heap.size w wr ∧ (∀ p x, w.cell? p = some x → wr.cell? p = some x)) (fun i _ => la.length - (intOf i).toNat)
    case atStart => exact ⟨0, by omega, rfl, by simp, Below.refl _ _, fun _ _ h => h⟩
    case round =>
      obtain ⟨k, hk, rfl, htk, hbr, hkeep⟩ := hrel
      have TK := Lib.hid htk
      have KP := Lib.hid hkeep
      clear htk hkeep
      by_cases hlt : k < la.length
      · obtain ⟨x, hx⟩ : ∃ x, la[k]? = some x := ⟨la[k], List.getElem?_eq_getElem hlt⟩
        obtain ⟨y, hy⟩ : ∃ y, lb[k]? = some y := ⟨lb[k]'(by have := HL.out; omega), List.getElem?_eq_getElem _⟩
        have hlt2 : k < lb.length := (List.getElem?_eq_some_iff.1 hy).1
        obtain ⟨ba, oa, rfl⟩ := A3.out k x hx
        obtain ⟨bb, ob, rfl⟩ := B3.out k y hy
        have ca := KP.out _ _ (A4.out ba oa rfl k x hx)
        have cb := KP.out _ _ (B4.out bb ob rfl k y hy)
        unfold u8c at ca cb
        have i1 : (k : Int) < (la.length : Int) := by omega
        have i2 : (k : Int) < (lb.length : Int) := by omega
        have i0 : (0 : Int) ≤ (k : Int) := by omega
        by_cases hxy : x = y
        · have ht2 : ((x : Int) != (y : Int)) = false := by rw [bne_eq_false_iff_eq]; omega
          have HX := Lib.hid hx
          have HY := Lib.hid hy
          have HXY := Lib.hid hxy
          clear hx hy hxy
          go_wp2_with fail
          go_region
          all_goals
            go_wp2
            go_roundw
            case rel =>
              refine ⟨k + 1, by omega, by go_num, ?_, hbr.drew, KP.out⟩
              rw [List.take_add_one, List.take_add_one, TK.out, HX.out, HY.out, HXY.out]
            case measure => simp [intOf]; omega
        · have ht2 : ((x : Int) != (y : Int)) = true := by rw [bne_iff_ne]; omega
          have hne : decide (la = lb) = false := decide_eq_false fun e => by
            rw [e, hy] at hx
            exact hxy (Option.some.inj hx).symm
          have HN := Lib.hid hne
          clear hx hy hxy hne
          go_wp2_with fail
          go_region
          all_goals
            go_wp2
            go_ret
            exact ⟨by rw [HN.out]; rfl, hbr.drew⟩
      · obtain rfl : k = la.length := by omega
        have hy : decide (la = lb) = true := decide_eq_true (by
          have := TK.out
          rw [List.take_length, HL.out, List.take_length] at this
          exact this)
        have HN := Lib.hid hy
        clear hy
        go_wp2
        go_ret
        exact ⟨by rw [HN.out]; rfl, hbr⟩
  · have ht : ((la.length : Int) != (lb.length : Int)) = true := by rw [bne_iff_ne]; omega
    have hne : decide (la = lb) = false := decide_eq_false fun e => hl (by rw [e])
    have HN := Lib.hid hne
    clear hne hl a1 a2 a3 a4 b1 b2 b3 b4
    go_enter Tryd.func58, Tryd.ntmps58
    go_wp2
    go_ret
    exact ⟨by rw [HN.out]; rfl, Below.refl _ _⟩
theorem same2_any {la lb : List Nat} {va vb : Value} (w : World) (ha : SliceOf u8c w va la) (hb : SliceOf u8c w vb lb) :
    Calls Tryd.prog 18 #[va, vb] w fun e w' => e = .returned (.bool (decide (la = lb))) ∧ Below w.heap.size w w' := by
  have S := Lib.hid (sameBytes_any w ha hb)
  clear ha hb
  go_enter Tryd.func18, Tryd.ntmps18
  go_wp2_with fail
  refine S.out.mono ?_
  rintro e w' ⟨rfl, q⟩
  go_wp2
  go_ret
  exact ⟨rfl, q⟩
theorem own_form3 {w : World} {Z n : Nat} {t : TypeId} {v : Value} {xs : List Value} (h : w.ownsRow Z t 1 v n xs) (hn : 0 < n) : ∃ g cap, v = .slice (some ⟨g, 0, none⟩) n cap ∧ Z ≤ g ∧ g < w.heap.size ∧ n ≤ cap ∧ cap ≤ maxLen := by
  obtain ⟨hl, h⟩ := h
  rcases h with ⟨rfl, h0⟩ | ⟨g, cap, cur, rfl, hg, hh, hc, hm, hs, ht⟩
  · omega
  · exact ⟨g, cap, rfl, hg, lt_of_heap hh, hc, hm⟩
/-- A row of its own with the mark behind it. -/
def RowAt (B : Nat) (w : World) (v : Value) (l : List Nat) : Prop :=
  ∃ g cap, v = .slice (some ⟨g, 0, none⟩) l.length cap ∧ w.ownsRow B 5 1 (.slice (some ⟨g, 0, none⟩) (l.length + 1) cap) (l.length + 1) (u8s (l ++ [171]))
theorem own_made0b {w : World} {B : Nat} (hB : B ≤ w.heap.size) : (w.alloc (.cells #[] 5 (0, 0))).ownsRow B 5 1 (.slice (some ⟨w.heap.size, 0, none⟩) 0 0) 0 [] :=
  ⟨rfl, .inr ⟨w.heap.size, 0, #[], rfl, hB, heap_alloc_new _ _, Nat.le_refl _, Nat.zero_le _, rfl, rfl⟩⟩
theorem RowAt.slice {B : Nat} {w : World} {v : Value} {l : List Nat} (h : RowAt B w v l) : SliceOf u8c w v l := by
  obtain ⟨g, cap, rfl, own⟩ := h
  obtain ⟨g', c', he, _, _, hc, hm⟩ := own_form3 (n := l.length + 1) own (Nat.succ_pos _)
  cases he
  exact ⟨some ⟨g, 0, none⟩, cap, rfl, by omega, hm, (fun e => by cases e), .inr ⟨g, 0, rfl, fun j x hj => by
    rw [Nat.zero_add]
    exact own_cell own (by rw [u8s_get, List.getElem?_append_left ((List.getElem?_eq_some_iff.1 hj).1), hj]; rfl)⟩⟩
theorem RowAt.below {B : Nat} {w w' : World} {v : Value} {l : List Nat} (h : RowAt B w v l) (q : Below w.heap.size w w') : RowAt B w' v l := by
  obtain ⟨g, cap, e, own⟩ := h
  exact ⟨g, cap, e, own.kept (row := none) ⟨q.os, q.tape, q.output, q.size, fun k hk _ => q.block k hk⟩ (.inr (by intro h; cases h))⟩
theorem RowAt.block {B : Nat} {w : World} {v : Value} {l : List Nat} (h : RowAt B w v l) : ∀ b, v.ownBlock = some b → B ≤ b ∧ b < w.heap.size := by
  obtain ⟨g, cap, rfl, own⟩ := h
  intro b hb
  exact own.lt b (by cases hb; rfl)
theorem RowAt.low {B B' : Nat} {w : World} {v : Value} {l : List Nat} (h : RowAt B w v l) (hB : B' ≤ B) : RowAt B' w v l := by
  obtain ⟨g, cap, e, own⟩ := h
  exact ⟨g, cap, e, own.1, own.2.imp id fun ⟨g', c', cur, h1, h2, h3⟩ => ⟨g', c', cur, h1, Nat.le_trans hB h2, h3⟩⟩
theorem RowAt.form {B : Nat} {w : World} {v : Value} {l : List Nat} (h : RowAt B w v l) : ∃ g cap, v = .slice (some ⟨g, 0, none⟩) l.length cap ∧ l.length + 1 ≤ cap ∧ cap ≤ maxLen ∧ w.cell? ⟨g, l.length, none⟩ = some (.int .u8 171) := by
  obtain ⟨g, cap, rfl, own⟩ := h
  obtain ⟨h1, h2⟩ := own
  rcases h2 with ⟨h3, _⟩ | ⟨g', c', cur, he, hg, hh, hc, hm, hs, ht⟩
  · cases h3
  · cases he
    refine ⟨g, cap, rfl, hc, hm, ?_⟩
    exact own_cell (j := l.length) ⟨h1, .inr ⟨g, cap, cur, rfl, hg, hh, hc, hm, hs, ht⟩⟩ (by rw [u8s_get, List.getElem?_append_right (Nat.le_refl _)]; simp)
set_option maxHeartbeats 1000000 in
theorem row2_any {l : List Nat} {v : Value} (W : World) (S : SliceOf u8c W v l) (hl : l.length ≤ 1000000) :
    Calls Tryd.prog 15 #[v] W fun e w' => ∃ v', e = .returned v' ∧ RowAt W.heap.size w' v' l ∧ Below W.heap.size W w' := by
  have HS := Lib.hid S
  obtain ⟨a, cap, rfl, _⟩ := S
  have b0 : Below W.heap.size W (W.alloc (.cells #[] 5 (0, 0))) := (Below.refl _ _).alloc (Nat.le_refl _) _
  have own0 := own_made0b (w := W) (Nat.le_refl _)
  have z0 : W.heap.size ≤ (W.alloc (.cells #[] 5 (0, 0))).heap.size := by simp
  have s0 := HS.out.below b0
  have ll : (l.length : Int) ≤ 1000000 := by omega
  have HW0 := Lib.hid (And.intro own0 (And.intro s0 (And.intro b0 z0)))
  clear b0 own0 z0 s0
  go_enter Tryd.func15, Tryd.ntmps15
  go_wp2_with (first
    | (at_builtin; refine app_u8 (.tmp 3) (.tmp 4) rfl rfl W.heap.size _ 0 [] rfl HW0.out.1 _ l rfl HW0.out.2.1 (by omega) HW0.out.2.2.2 ?_; intro v1 w1 own1 hg1; rw [Nat.zero_add] at own1; have q1 : Below W.heap.size W w1 := HW0.out.2.2.1.grown hg1 HW0.out.2.2.2 (fun k hk => (HW0.out.1.lt k hk).1); have z1 : W.heap.size ≤ w1.heap.size := q1.size; have m1 : SliceOf u8c (w1.alloc (.cells #[.int .u8 171] 5 (0, 0))) (.slice (some ⟨w1.heap.size, 0, none⟩) 1 1) [171] := co_slice (l := [171]) (heap_alloc_new _ _) (by show 1 ≤ maxLen; decide); have o1 := own1.alloc (.cells #[.int .u8 171] 5 (0, 0)); have z2 : W.heap.size ≤ (w1.alloc (.cells #[.int .u8 171] 5 (0, 0))).heap.size := by simp; omega)
    | (at_builtin; refine app_u8 (.tmp 5) (.tmp 6) rfl rfl W.heap.size _ l.length _ rfl o1 _ [171] rfl m1 (by simp; omega) z2 ?_; intro v2 w2 own2 hg2; have q2 : Below W.heap.size W w2 := (q1.alloc z1 _).grown hg2 z2 (fun k hk => (o1.lt k hk).1); obtain ⟨g2, cap2, rfl, _, _, hc2, hm2⟩ := own_form3 own2 (by simp); have HO := Lib.hid own2; have c2i : (l.length : Int) ≤ (cap2 : Int) := (by simp at hc2; omega); clear own2 hg2 hc2 hm2))
  go_ret
  refine ⟨_, rfl, ⟨g2, cap2, rfl, ?_⟩, q2⟩
  have := HO.out
  rw [u8s_append, ← List.nil_append (u8s l)]
  exact this
theorem marked_any {B : Nat} {l : List Nat} {v : Value} {w : World} (R : RowAt B w v l) (hl : l.length ≤ 1000000) :
    Calls Tryd.prog 19 #[v] w fun e w' => e = .returned (.bool true) ∧ w' = w := by
  obtain ⟨g, cap, rfl, h1, h2, hc⟩ := R.form
  obtain ⟨n, hn⟩ : ∃ n, l.length = n := ⟨_, rfl⟩
  rw [hn] at h1 hc hl ⊢
  have ni : (n : Int) + 1 ≤ (cap : Int) := by omega
  have nl : (n : Int) ≤ 1000000 := by omega
  clear R h1 h2 hl hn
  go_enter Tryd.func19, Tryd.ntmps19
  go_wp2_with fail
  go_ret
  exact ⟨rfl, rfl⟩
end Go.Proofs.YtcifnfffoiiceaaDoor
