/-
  A slice value that reads as a list of spots; the laws' own same of layer 4.
-/
import Derived.Test.YtpbahbigimnboaaDoorCutSpan
import Derived.Test.YtpbahbigimnboaaDoorGrow
import Derived.Laws.AppendOwnNone
import Derived.RegionTactic
import Derived.Outline
namespace Go.Proofs.YtpbahbigimnboaaDoor
open Go.RowKit
set_option linter.unusedVariables false

/-- In w the slice value v reads as the spots l. -/
def SpotsOf (w : World) (v : Value) (l : List (Nat × Nat)) : Prop :=
  ∃ (a : Option Addr) (cap : Nat), v = .slice a l.length cap ∧ l.length ≤ cap ∧ cap ≤ maxLen ∧ (a = none → cap = 0) ∧
    (l = [] ∨ ∃ b off, a = some ⟨b, off, none⟩ ∧ ∀ (j : Nat) (s : Nat × Nat), l[j]? = some s → w.cell? ⟨b, off + j * 2, none⟩ = some (.int .u8 (s.1 : Int)) ∧ w.cell? ⟨b, off + j * 2 + 1, none⟩ = some (.int .u64 (s.2 : Int)))

section
variable {w w' : World} {v : Value} {l : List (Nat × Nat)}
theorem SpotsOf.nil : SpotsOf w (.slice none 0 0) [] := ⟨none, 0, rfl, Nat.le_refl _, Nat.zero_le _, fun _ => rfl, .inl rfl⟩
theorem SpotsOf.same (h : SpotsOf w v l) (hw : ∀ b off x, w.cell? ⟨b, off, none⟩ = some x → w'.cell? ⟨b, off, none⟩ = some x) : SpotsOf w' v l := by
  obtain ⟨a, cap, hv, h1, h2, h0, h3⟩ := h
  refine ⟨a, cap, hv, h1, h2, h0, h3.imp id ?_⟩
  rintro ⟨b, off, ha, hc⟩
  exact ⟨b, off, ha, fun j x hj => ⟨hw _ _ _ (hc j x hj).1, hw _ _ _ (hc j x hj).2⟩⟩
theorem SpotsOf.below (h : SpotsOf w v l) (hb : Below w.heap.size w w') : SpotsOf w' v l :=
  h.same fun b off x hx => by
    have hlt : b < w.heap.size := World.block_lt_of_cell? _ _ hx
    rw [← hx]
    exact hb.cell (p := ⟨b, off, none⟩) hlt
theorem SpotsOf.of_own {B : Nat} {t : TypeId} (h : w.ownsRow B t 2 v l.length (spotC l)) : SpotsOf w v l := by
  obtain ⟨hl, h⟩ := h
  rcases h with ⟨rfl, h0⟩ | ⟨g, cap, cur, rfl, hg, hh, hc, hm, hs, ht⟩
  · have : l = [] := List.eq_nil_of_length_eq_zero h0
    subst this
    exact SpotsOf.nil
  · refine ⟨some ⟨g, 0, none⟩, cap, rfl, hc, hm, (fun e => by cases e), .inr ⟨g, 0, rfl, fun j x hj => ?_⟩⟩
    have hjl : j < l.length := (List.getElem?_eq_some_iff.1 hj).1
    obtain ⟨e1, e2⟩ := spotC_get l j x hj
    rw [← ht, List.getElem?_take, if_pos (by omega)] at e1 e2
    rw [cell_of_row _ _ _ _ _ _ hh, cell_of_row _ _ _ _ _ _ hh, Nat.zero_add, Nat.mul_comm]
    exact ⟨by simpa using e1, by simpa using e2⟩
/-- The parts of a slice that reads as spots. -/
theorem SpotsOf.form (h : SpotsOf w v l) : ∃ a cap, v = .slice a l.length cap ∧ l.length ≤ cap ∧ cap ≤ maxLen ∧ (∀ (j : Nat) (x : Nat × Nat), l[j]? = some x → ∃ b off, a = some ⟨b, off, none⟩) ∧
    ∀ (b off : Nat), a = some ⟨b, off, none⟩ → ∀ (j : Nat) (x : Nat × Nat), l[j]? = some x → w.cell? ⟨b, off + j * 2, none⟩ = some (.int .u8 (x.1 : Int)) ∧ w.cell? ⟨b, off + j * 2 + 1, none⟩ = some (.int .u64 (x.2 : Int)) := by
  obtain ⟨a, cap, hv, h1, h2, _, h3⟩ := h
  refine ⟨a, cap, hv, h1, h2, ?_, ?_⟩
  · intro j x hj
    rcases h3 with rfl | ⟨b, off, ha, _⟩
    · simp at hj
    · exact ⟨b, off, ha⟩
  · intro b off ha j x hj
    rcases h3 with rfl | ⟨b', off', ha', hc⟩
    · simp at hj
    · rw [ha] at ha'
      simp only [Option.some.injEq, Addr.mk.injEq, and_true] at ha'
      obtain ⟨rfl, rfl⟩ := ha'
      exact hc j x hj
end

theorem spotC_one : ∀ (l : List (Nat × Nat)), ∀ u ∈ spotC l, u.oneCell' = true
  | [], u, hu => by cases hu
  | s :: l, u, hu => by
    rcases List.mem_cons.1 hu with rfl | hu
    · rfl
    · rcases List.mem_cons.1 hu with rfl | hu
      · rfl
      · exact spotC_one l u hu
/-- 'append' of any slice of spots to a row of the call's own. -/
theorem app_spots {ops : Array Oper} {rest : List Oper} {o : Oper} {a : Act} {Q : Exit → Act → World → Prop} {w : World} (s x : Operand) (hgd : o.guard = none)
    (ho : o.op = .call { callee := .builtin .append, args := #[s, x], argTypes := #[23, 23] })
    (B : Nat) (v : Value) (n : Nat) (xs : List Value) (hs : a.eval s = v) (hown : w.ownsRow B 28 2 v n xs) (vx : Value) (l : List (Nat × Nat)) (hx : a.eval x = vx) (hsrc : SpotsOf w vx l)
    (hlen : n + l.length ≤ 8796093022208) (hB : B ≤ w.heap.size)
    (h : ∀ v' w', w'.ownsRow B 28 2 v' (n + l.length) (xs ++ spotC l) → w.grownBy w' v.ownBlock → (v'.ownBlock = v.ownBlock ∨ v'.ownBlock = some w.heap.size) → wpList Tryd.prog ops Q rest (a.put o.dst v') w') :
    wpList Tryd.prog ops Q (o :: rest) a w := by
  obtain ⟨i0, hi, hz0, hz1, hz2⟩ := info_parts info_spot
  obtain ⟨ad, cap, rfl, h1, h2, h0, h3⟩ := hsrc
  cases ad with
  | none =>
    have hl : l = [] := by
      rcases h3 with h3 | ⟨b, off, ha, _⟩
      · exact h3
      · cases ha
    subst hl
    have hc := h0 rfl
    subst hc
    refine wpList_append_own_none hgd s x 23 ho B 28 i0 2 Tryd.underlying23 hi v n xs hs hown hx ?_
    exact h v w (by simpa [spotC] using hown) ⟨rfl, rfl, rfl, Nat.le_refl _, fun _ _ _ => rfl⟩ (.inl rfl)
  | some ad =>
    refine wpList_append_own2 w hgd s x 23 ho B 28 i0 (.agg #[.int .u8 0, .int .u64 0]) 2 16 Tryd.underlying23 hi hz0 hz1 hz2 rfl (by decide) v n xs hs hown ad l.length cap (spotC l) hx (spotC_len l) ?_ ?_ (by unfold maxLen; omega) (by omega) hB h
    · intro j u hj
      rcases h3 with h3 | ⟨b, off, ha, hc⟩
      · subst h3; simp [spotC] at hj
      · cases ha
        have hjl : j < l.length * 2 := by
          have := (List.getElem?_eq_some_iff.1 hj).1
          rwa [spotC_len] at this
        obtain ⟨s, hs⟩ : ∃ s, l[j / 2]? = some s := ⟨l[j / 2]'(by omega), List.getElem?_eq_getElem _⟩
        obtain ⟨g1, g2⟩ := spotC_get l _ _ hs
        obtain ⟨c1, c2⟩ := hc _ _ hs
        have e : (⟨b, off, none⟩ : Addr).add j = ⟨b, off + j, none⟩ := by unfold Addr.add; split <;> simp_all
        rw [e]
        by_cases hp : j % 2 = 0
        · rw [show 2 * (j / 2) = j by omega, hj] at g1
          rw [show off + j = off + j / 2 * 2 by omega, c1]
          exact g1.symm
        · rw [show 2 * (j / 2) + 1 = j by omega, hj] at g2
          rw [show off + j = off + j / 2 * 2 + 1 by omega, c2]
          exact g2.symm
    · exact spotC_one l

/-- The laws' own same, of two lists of spots. -/
theorem same_any {la lb : List (Nat × Nat)} {va vb : Value} (w : World) (ha : SpotsOf w va la) (hb : SpotsOf w vb lb) :
    Calls Tryd.prog 13 #[va, vb] w fun e w' => e = .returned (.bool (decide (la = lb))) ∧ Below w.heap.size w w' := by
  obtain ⟨a, ca, rfl, a1, a2, a3, a4⟩ := ha.form
  obtain ⟨b, cb, rfl, b1, b2, b3, b4⟩ := hb.form
  have m1 : la.length ≤ 9223372036854775807 := by unfold maxLen at a2; omega
  have m2 : lb.length ≤ 9223372036854775807 := by unfold maxLen at b2; omega
  by_cases hl : la.length = lb.length
  · have HL := Lib.hid hl
    have ht : ((la.length : Int) != (lb.length : Int)) = false := by rw [bne_eq_false_iff_eq]; omega
    have A3 := Lib.hid a3
    have A4 := Lib.hid a4
    have B3 := Lib.hid b3
    have B4 := Lib.hid b4
    clear hl a1 a2 a3 a4 b1 b2 b3 b4
    go_enter Tryd.func13, Tryd.ntmps13
    go_wp2
    go_loopw [5] (fun i wr => ∃ k : Nat, k ≤ la.length ∧ i = .int .i64 k ∧ la.take k = lb.take k ∧ Below w.heap.size w wr ∧ (∀ p x, w.cell? p = some x → wr.cell? p = some x)) (fun i _ => la.length - (intOf i).toNat)
    case atStart => exact ⟨0, by omega, rfl, by simp, Below.refl _ _, fun _ _ h => h⟩
    case round =>
      obtain ⟨k, hk, rfl, htk, hbr, hkeep⟩ := hrel
      have TK := Lib.hid htk
      have KP := Lib.hid hkeep
      clear htk hkeep
      by_cases hlt : k < la.length
      · obtain ⟨⟨x, x'⟩, hx⟩ : ∃ x, la[k]? = some x := ⟨la[k], List.getElem?_eq_getElem hlt⟩
        obtain ⟨⟨y, y'⟩, hy⟩ : ∃ y, lb[k]? = some y := ⟨lb[k]'(by have := HL.out; omega), List.getElem?_eq_getElem _⟩
        have hlt2 : k < lb.length := (List.getElem?_eq_some_iff.1 hy).1
        obtain ⟨ba, oa, rfl⟩ := A3.out k _ hx
        obtain ⟨bb, ob, rfl⟩ := B3.out k _ hy
        have ca := KP.out _ _ (A4.out ba oa rfl k _ hx).1
        have ca' := KP.out _ _ (A4.out ba oa rfl k _ hx).2
        have cb := KP.out _ _ (B4.out bb ob rfl k _ hy).1
        have cb' := KP.out _ _ (B4.out bb ob rfl k _ hy).2
        dsimp only at ca ca' cb cb'
        have i1 : (k : Int) < (la.length : Int) := by omega
        have i2 : (k : Int) < (lb.length : Int) := by omega
        have i0 : (0 : Int) ≤ (k : Int) := by omega
        by_cases hxy : x = y ∧ x' = y'
        · have hne1 : (x : Int) = (y : Int) := by omega
          have hne2 : (x' : Int) = (y' : Int) := by omega
          have HX := Lib.hid hx
          have HY := Lib.hid hy
          have HXY := Lib.hid hxy
          clear hx hy hxy
          go_wp2_with fail
          go_region
          all_goals
            go_wp2
            go_roundw
            case rel =>
              refine ⟨k + 1, by omega, by go_num, ?_, hbr.drew, KP.out⟩
              rw [List.take_add_one, List.take_add_one, TK.out, HX.out, HY.out, HXY.out.1, HXY.out.2]
            case measure => simp [intOf]; omega
        · have hne : decide (la = lb) = false := decide_eq_false fun e => by
            rw [e, hy] at hx
            have := Option.some.inj hx
            injection this with e1 e2
            exact hxy ⟨e1.symm, e2.symm⟩
          have HN := Lib.hid hne
          by_cases h1 : x = y
          · have e1 : (x : Int) = (y : Int) := by omega
            have ht2 : ¬ ((x' : Int) = (y' : Int)) := by omega
            clear hx hy hxy hne h1
            go_wp2_with fail
            go_region
            all_goals
              go_wp2
              go_ret
              exact ⟨by rw [HN.out]; rfl, hbr.drew⟩
          · have ht2 : ¬ ((x : Int) = (y : Int)) := by omega
            clear hx hy hxy hne h1
            go_wp2_with fail
            go_region
            all_goals
              go_wp2
              go_ret
              exact ⟨by rw [HN.out]; rfl, hbr.drew⟩
      · obtain rfl : k = la.length := by omega
        have hy : decide (la = lb) = true := decide_eq_true (by
          have := TK.out
          rw [List.take_length, HL.out, List.take_length] at this
          exact this)
        have HN := Lib.hid hy
        clear hy
        go_wp2
        go_ret
        exact ⟨by rw [HN.out]; rfl, hbr⟩
  · have ht : ((la.length : Int) != (lb.length : Int)) = true := by rw [bne_iff_ne]; omega
    have hne : decide (la = lb) = false := decide_eq_false fun e => hl (by rw [e])
    have HN := Lib.hid hne
    clear hne hl a1 a2 a3 a4 b1 b2 b3 b4
    go_enter Tryd.func13, Tryd.ntmps13
    go_wp2
    go_ret
    exact ⟨by rw [HN.out]; rfl, Below.refl _ _⟩
theorem span_38 : spanL 3 8 = [(0, 3), (2, 1)] := by unfold spanL; decide +kernel
theorem awake4_any (w : World) (T : TabAt w) : Calls Tryd.prog 14 #[] w fun e w' => e = .returned (.bool true) ∧ Below w.heap.size w w' := by
  have C := cutSpan_yes (a := 3) (b := 8) (by decide) (by decide) w T
  rw [span_38] at C
  go_enter Tryd.func14, Tryd.ntmps14
  go_wp2_with fail
  refine C.mono ?_
  rintro e w1 ⟨v, rfl, hown, hb⟩
  obtain ⟨a, cap, rfl, hs⟩ := own_shape hown
  obtain ⟨g, rfl, _, hg, _, cells⟩ := hs (by decide)
  have c0 := cells 0 (.int .u8 0) rfl
  have c1 := cells 1 (.int .u64 3) rfl
  have c2 := cells 2 (.int .u8 2) rfl
  have c3 := cells 3 (.int .u64 1) rfl
  clear cells hown
  go_wp2
  go_ret
  exact ⟨rfl, hb⟩
end Go.Proofs.YtpbahbigimnboaaDoor
