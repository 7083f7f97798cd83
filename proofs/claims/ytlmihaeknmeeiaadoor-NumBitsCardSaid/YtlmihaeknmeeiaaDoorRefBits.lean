/-
  The reference's Bits, Ones, Low, High; the laws' own list.
-/
import Derived.Test.YtlmihaeknmeeiaaDoorBits
import Derived.Test.YtlmihaeknmeeiaaDoorRow
import Derived.Test.YtlmihaeknmeeiaaDoorSlice
namespace Go.Proofs.YtlmihaeknmeeiaaDoor
open Go.RowKit
set_option linter.unusedVariables false

theorem bit_cases (x k : Nat) : (x.testBit k = true ∧ bitsF x k = 1) ∨ (x.testBit k = false ∧ bitsF x k = 0) := by
  unfold bitsF
  cases x.testBit k
  · right; exact ⟨rfl, rfl⟩
  · left; exact ⟨rfl, rfl⟩
def RbRel (x base b : Nat) (w : World) (v i : Value) (wr : World) : Prop :=
  ∃ (k : Nat) (pre : List Nat), k ≤ 64 ∧ i = .int .i64 (k : Int) ∧ pre ++ posI k (64 - k) x = posL x ∧
    wr.ownsRow (b + 1) 3 1 v pre.length (i64s pre) ∧ wr.heap[b]? = some (.cells (arr64 (bitsF x)) 30 (0, 0)) ∧ b + 1 ≤ wr.heap.size ∧ Below base w wr
theorem own_mono {w : World} {B B' : Nat} {t : TypeId} {n : Nat} {v : Value} {xs : List Value} (h : w.ownsRow B t 1 v n xs) (hb : B' ≤ B) : w.ownsRow B' t 1 v n xs := by
  refine ⟨h.1, h.2.imp id ?_⟩
  rintro ⟨g, cap, cur, hv, hg, rest⟩
  exact ⟨g, cap, cur, hv, Nat.le_trans hb hg, rest⟩
theorem refBits_any {x : Nat} (hx : x < 18446744073709551616) (w : World) :
    Calls Tryd.prog 13 #[.int .u64 x] w fun e w' => ∃ v, e = .returned v ∧ w'.ownsRow w.heap.size 3 1 v (posL x).length (i64s (posL x)) ∧ Below w.heap.size w w' := by
  obtain ⟨i0, hi, hz0, hz1, hz2⟩ := info_parts info_i64
  generalize hB : w.heap.size = B
  have HB := Lib.hid hB
  have R := row_any x hx
  clear hB hx
  go_enter Tryd.func13, Tryd.ntmps13
  go_wp2_with fail
  refine (R _).mono ?_
  rintro e w1 ⟨rfl, q1⟩
  rw [HB.out] at q1
  have hB1 : B ≤ w1.heap.size := by have := q1.size; rw [HB.out] at this; exact this
  go_wp2_with (refine wpList_store_row rfl 30 _ _ rfl w1.heap.size _ rfl rfl 30 _ (heap_alloc_new _ _) (size64 _) rfl (arr64_one _) ?_; rw [setRow_alloc])
  generalize hW : World.alloc w1 _ = w2
  have g0 : w2.heap[w1.heap.size]? = some (.cells (arr64 (bitsF x)) 30 (0, 0)) := by rw [← hW]; exact heap_alloc_new _ _
  have q2 : Below B w w2 := by rw [← hW]; exact q1.alloc hB1 _
  have own0 : w2.ownsRow (w1.heap.size + 1) 3 1 (.slice none 0 0) 0 [] := World.ownsRow_nil _ _ _ _
  have s2 : w2.heap.size = w1.heap.size + 1 := by rw [← hW]; simp
  clear hW q1
  generalize hb : w1.heap.size = b at *
  clear hb
  go_loopw [4, 5] (fun v i wr => RbRel x B b w v i wr) (fun _ i _ => 64 - (intOf i).toNat)
  case atStart => exact ⟨0, [], by omega, rfl, by unfold posL; rfl, own0, g0, by omega, q2⟩
  case round =>
    obtain ⟨k, pre, hk, rfl, hpre, hown, G, hsz, hbr⟩ := hrel
    have hlen : pre.length ≤ 64 := by
      have := posL_le x
      rw [← hpre, List.length_append] at this
      omega
    clear g0 own0 q2 s2
    have HG := Lib.hid G
    by_cases hlt : k < 64
    · have cx := row_cell G hlt
      have e64 : 64 - k = (63 - k) + 1 := by omega
      rw [e64, posI_succ] at hpre
      have i1 : (k : Int) < 64 := by omega
      rcases bit_cases x k with ⟨hb, hc⟩ | ⟨hb, hc⟩
      · rw [if_pos hb] at hpre
        rw [hc] at cx
        have P := Lib.hid hpre
        clear hpre hb hc G e64
        go_wp2_with (at_builtin; refine wpList_append_own _ rfl _ _ 25 rfl (b + 1) 3 i0 (.int .i64 0) 1 8 Tryd.underlying25 hi hz0 hz1 hz2 rfl (by decide) _ _ _ rfl (hown.alloc _) ⟨wr.heap.size, 0, none⟩ 1 1 [.int .i64 (k : Int)] rfl rfl (cell_new1 _ _ _) (one_int _ _) (by unfold maxLen; omega) (by omega) (by simp; omega) ?_; intro v' w3 hown1 hg1 _)
        have G3 : w3.heap[b]? = some (.cells (arr64 (bitsF x)) 30 (0, 0)) := by
          rw [hg1.block b (by simp; omega) (fun e => by have := (hown.lt b e.symm).1; omega), heap_alloc_old _ _ (by omega)]
          exact HG.out
        go_roundw
        case rel =>
          refine ⟨k + 1, pre ++ [k], by omega, by go_num, ?_, ?_, G3, by have := hg1.size; simp at this; omega, ?_⟩
          · rw [show 64 - (k + 1) = 63 - k by omega, ← P.out]; simp
          · simpa [i64s] using hown1
          · exact (hbr.alloc (by omega) _).grown hg1 (by simp; omega) fun j hj => by have := (hown.lt j hj).1; omega
        case measure => simp [intOf]; omega
      · rw [if_neg (by rw [hb]; decide)] at hpre
        rw [hc] at cx
        have P := Lib.hid hpre
        clear hpre hb hc G e64
        go_wp2
        go_roundw
        case rel => exact ⟨k + 1, pre, by omega, by go_num, by rw [show 64 - (k + 1) = 63 - k by omega]; exact P.out, hown, HG.out, hsz, hbr⟩
        case measure => simp [intOf]; omega
    · obtain rfl : k = 64 := by omega
      have e : posL x = pre := by rw [← hpre]; simp [posI]
      have E := Lib.hid e
      clear hpre e G
      go_wp2
      go_ret
      refine ⟨_, rfl, ?_, hbr⟩
      rw [E.out]
      exact own_mono hown (by omega)
theorem refOnes_any {x : Nat} (hx : x < 18446744073709551616) (w : World) :
    Calls Tryd.prog 6 #[.int .u64 x] w fun e w' => e = .returned (.int .i64 (ones x : Nat)) ∧ Below w.heap.size w w' := by
  have B := refBits_any hx
  rw [posL_len] at B
  go_enter Tryd.func6, Tryd.ntmps6
  go_wp2_with fail
  refine (B _).mono ?_
  rintro e w1 ⟨v, rfl, hown, q1⟩
  obtain ⟨s, cap, rfl⟩ : ∃ s cap, v = .slice s (ones x) cap := by
    rcases hown.2 with ⟨hv, h0⟩ | ⟨g, cap, cur, hv, _⟩
    · rw [h0]; exact ⟨_, _, hv⟩
    · exact ⟨_, _, hv⟩
  clear hown
  go_wp2
  go_ret
  exact ⟨rfl, q1⟩
theorem refLow_any {x : Nat} (hx : x < 18446744073709551616) (w : World) :
    Calls Tryd.prog 8 #[.int .u64 x] w fun e w' => e = .returned (.int .i64 (tzN x : Nat)) ∧ Below w.heap.size w w' := by
  have B := refBits_any hx
  by_cases h0 : x = 0
  · subst h0
    rw [posL_zero] at B
    rw [tzN_zero]
    go_enter Tryd.func8, Tryd.ntmps8
    go_wp2_with fail
    refine (B _).mono ?_
    rintro e w1 ⟨v, rfl, hown, q1⟩
    obtain ⟨s, cap, rfl⟩ : ∃ s cap, v = .slice s 0 cap := by
      rcases hown.2 with ⟨hv, h0⟩ | ⟨g, cap, cur, hv, _⟩
      · exact ⟨_, _, hv⟩
      · exact ⟨_, _, hv⟩
    clear hown
    go_wp2
    go_ret
    exact ⟨rfl, q1⟩
  · have e := (posL_low hx h0).1
    have hn : 0 < (posL x).length := by rw [e]; simp
    have first : (i64s (posL x))[0]? = some (.int .i64 (tzN x : Nat)) := by rw [e]; rfl
    clear e hx
    generalize tzN x = t at *
    generalize posL x = l at *
    go_enter Tryd.func8, Tryd.ntmps8
    go_wp2_with fail
    refine (B _).mono ?_
    rintro e w1 ⟨v, rfl, hown, q1⟩
    obtain ⟨g, cap, rfl, _, hg, hcap⟩ := own_form hown hn
    have c0 := own_cell hown first
    have n0 : ((l.length : Int) == 0) = false := by rw [beq_eq_false_iff_ne]; omega
    have n1 : (0 : Int) < (l.length : Int) := by omega
    clear hown
    go_wp2
    go_ret
    exact ⟨rfl, q1⟩
theorem refHigh_any {x : Nat} (hx : x < 18446744073709551616) (w : World) :
    Calls Tryd.prog 10 #[.int .u64 x] w fun e w' => e = .returned (.int .i64 ((lenN x : Int) - 1)) ∧ Below w.heap.size w w' := by
  have B := refBits_any hx
  by_cases h0 : x = 0
  · subst h0
    rw [posL_zero] at B
    rw [lenN_zero]
    go_enter Tryd.func10, Tryd.ntmps10
    go_wp2_with fail
    refine (B _).mono ?_
    rintro e w1 ⟨v, rfl, hown, q1⟩
    obtain ⟨s, cap, rfl⟩ : ∃ s cap, v = .slice s 0 cap := by
      rcases hown.2 with ⟨hv, h0⟩ | ⟨g, cap, cur, hv, _⟩
      · exact ⟨_, _, hv⟩
      · exact ⟨_, _, hv⟩
    clear hown
    go_wp2
    go_ret
    exact ⟨rfl, q1⟩
  · obtain ⟨pre, e⟩ := posL_high hx h0
    have l1 := (lenN_spec hx h0).1
    have hn : 0 < (posL x).length := by rw [e]; simp
    have last : (i64s (posL x))[(posL x).length - 1]? = some (.int .i64 (lenN x - 1 : Nat)) := by
      rw [e]; simp [i64s]
    have hle := posL_le x
    have eh : (lenN x : Int) - 1 = ((lenN x - 1 : Nat) : Int) := by omega
    rw [eh]
    clear e hx eh
    generalize lenN x - 1 = t at *
    generalize posL x = l at *
    obtain ⟨j, hj⟩ : ∃ j, l.length - 1 = j := ⟨_, rfl⟩
    have W1 : IntKind.i64.wrap ((l.length : Int) - 1) = (j : Int) := by rw [IntKind.wrap_i64]; omega
    have ji : (j : Int) < (l.length : Int) := by omega
    go_enter Tryd.func10, Tryd.ntmps10
    go_wp2_with fail
    refine (B _).mono ?_
    rintro e w1 ⟨v, rfl, hown, q1⟩
    obtain ⟨g, cap, rfl, _, hg, hcap⟩ := own_form hown hn
    have c0 := own_cell hown last
    rw [hj] at c0
    have n0 : ((l.length : Int) == 0) = false := by rw [beq_eq_false_iff_ne]; omega
    clear hown hj
    go_wp2
    go_ret
    exact ⟨rfl, q1⟩
/-- An int as a cell. -/
def i64c (c : Nat) : Value := .int .i64 (c : Int)
/-- The laws' own list, of two lists of ints. -/
theorem list_any {la lb : List Nat} {va vb : Value} (w : World) (ha : SliceOf i64c w va la) (hb : SliceOf i64c w vb lb) :
    Calls Tryd.prog 11 #[va, vb] w fun e w' => e = .returned (.bool (decide (la = lb))) ∧ Below w.heap.size w w' := by
  obtain ⟨a, ca, rfl, a1, a2, a3, a4⟩ := ha.form
  obtain ⟨b, cb, rfl, b1, b2, b3, b4⟩ := hb.form
  have m1 : la.length ≤ 9223372036854775807 := by unfold maxLen at a2; omega
  have m2 : lb.length ≤ 9223372036854775807 := by unfold maxLen at b2; omega
  by_cases hl : la.length = lb.length
  · have HL := Lib.hid hl
    have ht : ((la.length : Int) != (lb.length : Int)) = false := by rw [bne_eq_false_iff_eq]; omega
    have A3 := Lib.hid a3
    have A4 := Lib.hid a4
    have B3 := Lib.hid b3
    have B4 := Lib.hid b4
    clear hl a1 a2 a3 a4 b1 b2 b3 b4
    go_enter Tryd.func11, Tryd.ntmps11
    go_wp2
    go_loopw [5] (fun i wr => ∃ k : Nat, k ≤ la.length ∧ i = .int .i64 k ∧ la.take k = lb.take k ∧ Below w.heap.size w wr ∧ (∀ p x, w.cell? p = some x → wr.cell? p = some x)) (fun i _ => la.length - (intOf i).toNat)
    case atStart => exact ⟨0, by omega, rfl, by simp, Below.refl _ _, fun _ _ h => h⟩
    case round =>
      obtain ⟨k, hk, rfl, htk, hbr, hkeep⟩ := hrel
      have TK := Lib.hid htk
      have KP := Lib.hid hkeep
      clear htk hkeep
      by_cases hlt : k < la.length
      · obtain ⟨x, hx⟩ : ∃ x, la[k]? = some x := ⟨la[k], List.getElem?_eq_getElem hlt⟩
        obtain ⟨y, hy⟩ : ∃ y, lb[k]? = some y := ⟨lb[k]'(by have := HL.out; omega), List.getElem?_eq_getElem _⟩
        have hlt2 : k < lb.length := (List.getElem?_eq_some_iff.1 hy).1
        obtain ⟨ba, oa, rfl⟩ := A3.out k x hx
        obtain ⟨bb, ob, rfl⟩ := B3.out k y hy
        have ca := KP.out _ _ (A4.out ba oa rfl k x hx)
        have cb := KP.out _ _ (B4.out bb ob rfl k y hy)
        unfold i64c at ca cb
        have i1 : (k : Int) < (la.length : Int) := by omega
        have i2 : (k : Int) < (lb.length : Int) := by omega
        have i0 : (0 : Int) ≤ (k : Int) := by omega
        by_cases hxy : x = y
        · have ht2 : ((x : Int) != (y : Int)) = false := by rw [bne_eq_false_iff_eq]; omega
          have HX := Lib.hid hx
          have HY := Lib.hid hy
          have HXY := Lib.hid hxy
          clear hx hy hxy
          go_wp2_with fail
          go_region
          all_goals
            go_wp2
            go_roundw
            case rel =>
              refine ⟨k + 1, by omega, by go_num, ?_, hbr.drew, KP.out⟩
              rw [List.take_add_one, List.take_add_one, TK.out, HX.out, HY.out, HXY.out]
            case measure => simp [intOf]; omega
        · have ht2 : ((x : Int) != (y : Int)) = true := by rw [bne_iff_ne]; omega
          have hne : decide (la = lb) = false := decide_eq_false fun e => by
            rw [e, hy] at hx
            exact hxy (Option.some.inj hx).symm
          have HN := Lib.hid hne
          clear hx hy hxy hne
          go_wp2_with fail
          go_region
          all_goals
            go_wp2
            go_ret
            exact ⟨by rw [HN.out]; rfl, hbr.drew⟩
      · obtain rfl : k = la.length := by omega
        have hy : decide (la = lb) = true := decide_eq_true (by
          have := TK.out
          rw [List.take_length, HL.out, List.take_length] at this
          exact this)
        have HN := Lib.hid hy
        clear hy
        go_wp2
        go_ret
        exact ⟨by rw [HN.out]; rfl, hbr⟩
  · have ht : ((la.length : Int) != (lb.length : Int)) = true := by rw [bne_iff_ne]; omega
    have hne : decide (la = lb) = false := decide_eq_false fun e => hl (by rw [e])
    have HN := Lib.hid hne
    clear hne hl a1 a2 a3 a4 b1 b2 b3 b4
    go_enter Tryd.func11, Tryd.ntmps11
    go_wp2
    go_ret
    exact ⟨by rw [HN.out]; rfl, Below.refl _ _⟩
end Go.Proofs.YtlmihaeknmeeiaaDoor
