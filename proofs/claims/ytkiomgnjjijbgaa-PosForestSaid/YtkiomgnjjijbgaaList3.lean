/-
  A slice value that reads as a list; the laws' own list of layer 3; both sides of Peaks, Path, Peak at once.
-/
import Derived.Test.YtkiomgnjjijbgaaRefPath
import Derived.Test.YtkiomgnjjijbgaaPath
namespace Go.Proofs.Ytkiomgnjjijbgaa
open Go.RowKit
set_option linter.unusedVariables false

/-- In w the slice value v reads as the list l, an element x as the cell mk x. -/
def SliceOf {α : Type} (mk : α → Value) (w : World) (v : Value) (l : List α) : Prop :=
  ∃ (a : Option Addr) (cap : Nat), v = .slice a l.length cap ∧ l.length ≤ cap ∧ cap ≤ maxLen ∧ (a = none → cap = 0) ∧
    (l = [] ∨ ∃ b off, a = some ⟨b, off, none⟩ ∧ ∀ (j : Nat) (x : α), l[j]? = some x → w.cell? ⟨b, off + j, none⟩ = some (mk x))

section
variable {α : Type} {mk : α → Value} {w w' : World} {v : Value} {l : List α}
theorem SliceOf.nil : SliceOf mk w (.slice none 0 0) ([] : List α) := ⟨none, 0, rfl, Nat.le_refl _, Nat.zero_le _, fun _ => rfl, .inl rfl⟩
theorem SliceOf.same (h : SliceOf mk w v l) (hw : ∀ b off x, w.cell? ⟨b, off, none⟩ = some x → w'.cell? ⟨b, off, none⟩ = some x) : SliceOf mk w' v l := by
  obtain ⟨a, cap, hv, h1, h2, h0, h3⟩ := h
  refine ⟨a, cap, hv, h1, h2, h0, h3.imp id ?_⟩
  rintro ⟨b, off, ha, hc⟩
  exact ⟨b, off, ha, fun j x hj => hw _ _ _ (hc j x hj)⟩
theorem SliceOf.below (h : SliceOf mk w v l) (hb : Below w.heap.size w w') : SliceOf mk w' v l :=
  h.same fun b off x hx => by
    have hlt : b < w.heap.size := block_lt_of_cell hx
    rw [← hx]
    exact hb.cell (p := ⟨b, off, none⟩) hlt
theorem SliceOf.of_own {B : Nat} {t : TypeId} {n : Nat} {xs : List Value} (h : w.ownsRow B t 1 v n xs) (hx : xs = l.map mk) : SliceOf mk w v l := by
  obtain ⟨hl, h⟩ := h
  have hn : l.length = n := by rw [hx, List.length_map] at hl; omega
  rcases h with ⟨rfl, h0⟩ | ⟨g, cap, cur, rfl, hg, hh, hc, hm, hs, ht⟩
  · have : l = [] := List.eq_nil_of_length_eq_zero (by omega)
    subst this
    subst h0
    exact SliceOf.nil
  · refine ⟨some ⟨g, 0, none⟩, cap, by rw [hn], by omega, hm, (fun e => by cases e), .inr ⟨g, 0, rfl, fun j x hj => ?_⟩⟩
    have hjl : j < l.length := (List.getElem?_eq_some_iff.1 hj).1
    rw [cell_of_row _ _ _ _ _ _ hh, Nat.zero_add]
    have e : (cur.toList.take (n * 1))[j]? = some (mk x) := by rw [ht, hx, List.getElem?_map, hj]; rfl
    rw [List.getElem?_take, if_pos (by omega)] at e
    simpa using e
/-- The parts of a slice that reads as l. -/
theorem SliceOf.form (h : SliceOf mk w v l) : ∃ a cap, v = .slice a l.length cap ∧ l.length ≤ cap ∧ cap ≤ maxLen ∧ (∀ (j : Nat) (x : α), l[j]? = some x → ∃ b off, a = some ⟨b, off, none⟩) ∧ ∀ (b off : Nat), a = some ⟨b, off, none⟩ → ∀ (j : Nat) (x : α), l[j]? = some x → w.cell? ⟨b, off + j, none⟩ = some (mk x) := by
  obtain ⟨a, cap, hv, h1, h2, _, h3⟩ := h
  refine ⟨a, cap, hv, h1, h2, ?_, ?_⟩
  · intro j x hj
    rcases h3 with rfl | ⟨b, off, ha, _⟩
    · simp at hj
    · exact ⟨b, off, ha⟩
  · intro b off ha j x hj
    rcases h3 with rfl | ⟨b', off', ha', hc⟩
    · simp at hj
    · rw [ha] at ha'
      simp only [Option.some.injEq, Addr.mk.injEq, and_true] at ha'
      obtain ⟨rfl, rfl⟩ := ha'
      exact hc j x hj
end

/-- A uint64 as a cell. -/
def u64c (c : Nat) : Value := .int .u64 (c : Int)
/-- The laws' own list, of two lists of numbers. -/
theorem list_any {la lb : List Nat} {va vb : Value} (w : World) (ha : SliceOf u64c w va la) (hb : SliceOf u64c w vb lb) :
    Calls Try.prog 44 #[va, vb] w fun e w' => e = .returned (.bool (decide (la = lb))) ∧ Below w.heap.size w w' := by
  obtain ⟨a, ca, rfl, a1, a2, a3, a4⟩ := ha.form
  obtain ⟨b, cb, rfl, b1, b2, b3, b4⟩ := hb.form
  have m1 : la.length ≤ 9223372036854775807 := by unfold maxLen at a2; omega
  have m2 : lb.length ≤ 9223372036854775807 := by unfold maxLen at b2; omega
  by_cases hl : la.length = lb.length
  · have HL := Lib.hid hl
    have ht : ((la.length : Int) != (lb.length : Int)) = false := by rw [bne_eq_false_iff_eq]; omega
    have A3 := Lib.hid a3
    have A4 := Lib.hid a4
    have B3 := Lib.hid b3
    have B4 := Lib.hid b4
    clear hl a1 a2 a3 a4 b1 b2 b3 b4
    go_enter Try.func44, Try.ntmps44
    go_wp2
    go_loopw [5] (fun i wr => ∃ k : Nat, k ≤ la.length ∧ i = .int .i64 k ∧ la.take k = lb.take k ∧ Below w.heap.size w wr ∧ (∀ p x, w.cell? p = some x → wr.cell? p = some x)) (fun i _ => la.length - (intOf i).toNat)
    case atStart => exact ⟨0, by omega, rfl, by simp, Below.refl _ _, fun _ _ h => h⟩
    case round =>
      obtain ⟨k, hk, rfl, htk, hbr, hkeep⟩ := hrel
      have TK := Lib.hid htk
      have KP := Lib.hid hkeep
      clear htk hkeep
      by_cases hlt : k < la.length
      · obtain ⟨x, hx⟩ : ∃ x, la[k]? = some x := ⟨la[k], List.getElem?_eq_getElem hlt⟩
        obtain ⟨y, hy⟩ : ∃ y, lb[k]? = some y := ⟨lb[k]'(by have := HL.out; omega), List.getElem?_eq_getElem _⟩
        have hlt2 : k < lb.length := (List.getElem?_eq_some_iff.1 hy).1
        obtain ⟨ba, oa, rfl⟩ := A3.out k x hx
        obtain ⟨bb, ob, rfl⟩ := B3.out k y hy
        have ca := KP.out _ _ (A4.out ba oa rfl k x hx)
        have cb := KP.out _ _ (B4.out bb ob rfl k y hy)
        unfold u64c at ca cb
        have i1 : (k : Int) < (la.length : Int) := by omega
        have i2 : (k : Int) < (lb.length : Int) := by omega
        have i0 : (0 : Int) ≤ (k : Int) := by omega
        by_cases hxy : x = y
        · have ht2 : ((x : Int) != (y : Int)) = false := by rw [bne_eq_false_iff_eq]; omega
          have HX := Lib.hid hx
          have HY := Lib.hid hy
          have HXY := Lib.hid hxy
          clear hx hy hxy
          go_wp2_with fail
          go_region
          all_goals
            go_wp2
            go_roundw
            case rel =>
              refine ⟨k + 1, by omega, by go_num, ?_, hbr.drew, KP.out⟩
              rw [List.take_add_one, List.take_add_one, TK.out, HX.out, HY.out, HXY.out]
            case measure => simp [intOf]; omega
        · have ht2 : ((x : Int) != (y : Int)) = true := by rw [bne_iff_ne]; omega
          have hne : decide (la = lb) = false := decide_eq_false fun e => by
            rw [e, hy] at hx
            exact hxy (Option.some.inj hx).symm
          have HN := Lib.hid hne
          clear hx hy hxy hne
          go_wp2_with fail
          go_region
          all_goals
            go_wp2
            go_ret
            exact ⟨by rw [HN.out]; rfl, hbr.drew⟩
      · obtain rfl : k = la.length := by omega
        have hy : decide (la = lb) = true := decide_eq_true (by
          have := TK.out
          rw [List.take_length, HL.out, List.take_length] at this
          exact this)
        have HN := Lib.hid hy
        clear hy
        go_wp2
        go_ret
        exact ⟨by rw [HN.out]; rfl, hbr⟩
  · have ht : ((la.length : Int) != (lb.length : Int)) = true := by rw [bne_iff_ne]; omega
    have hne : decide (la = lb) = false := decide_eq_false fun e => hl (by rw [e])
    have HN := Lib.hid hne
    clear hne hl a1 a2 a3 a4 b1 b2 b3 b4
    go_enter Try.func44, Try.ntmps44
    go_wp2
    go_ret
    exact ⟨by rw [HN.out]; rfl, Below.refl _ _⟩

theorem peaks_both {n : Nat} : ∃ P : List Nat, (∀ w : World, Calls Try.prog 30 #[.int .u64 n] w fun e w' => ∃ v, e = .returned v ∧ w'.ownsRow w.heap.size 22 1 v P.length (u64s P) ∧ Below w.heap.size w w') ∧
    (∀ w : World, Calls Try.prog 39 #[.int .u64 n] w fun e w' => ∃ v, e = .returned v ∧ w'.ownsRow w.heap.size 22 1 v P.length (u64s P) ∧ Below w.heap.size w w') ∧ P.length ≤ 64 := by
  by_cases h : n ≤ 4611686018427387904
  · exact ⟨peaksL n, Peaks_yes h, refPeaks_yes h, by rw [peaks_len h]; exact ones_le64 n⟩
  · refine ⟨[], fun w => (Peaks_no (by omega) w).mono ?_, fun w => (refPeaks_no (by omega) w).mono ?_, by simp⟩
    all_goals
      rintro e w' ⟨rfl, rfl⟩
      exact ⟨_, rfl, World.ownsRow_nil _ _ _ _, Below.refl _ _⟩
theorem path_both {i n : Nat} : ∃ (L : List Nat) (c : Bool), (∀ w : World, Calls Try.prog 41 #[.int .u64 i, .int .u64 n] w fun e w' => ∃ v, e = .returned (.tuple #[v, .bool c]) ∧ w'.ownsRow w.heap.size 22 1 v L.length (u64s L) ∧ Below w.heap.size w w') ∧
    (∀ w : World, Calls Try.prog 40 #[.int .u64 i, .int .u64 n] w fun e w' => ∃ v, e = .returned (.tuple #[v, .bool c]) ∧ w'.ownsRow w.heap.size 22 1 v L.length (u64s L) ∧ Below w.heap.size w w') ∧ L.length ≤ 64 := by
  by_cases h : n ≤ 4611686018427387904 ∧ i < n
  · have a := Path_yes h.2 h.1
    have b := refPath_yes h.2 h.1
    have e := wayF_len i (overN i n)
    have t := (over_spec h.2 h.1).2.1
    exact ⟨wayF i (overN i n), true, by rw [e]; exact a, by rw [e]; exact b, by rw [e]; omega⟩
  · refine ⟨[], false, fun w => (Path_no h w).mono ?_, fun w => (refPath_out h w).mono ?_, by simp⟩
    · rintro e w' ⟨rfl, rfl⟩
      exact ⟨_, rfl, World.ownsRow_nil _ _ _ _, Below.refl _ _⟩
    · rintro e w' ⟨rfl, q⟩
      exact ⟨_, rfl, World.ownsRow_nil _ _ _ _, q⟩
theorem peak_both {i n : Nat} : ∃ (k : Nat) (c : Bool), (∀ w : World, Calls Try.prog 42 #[.int .u64 i, .int .u64 n] w fun e w' => e = .returned (.tuple #[.int .i64 (k : Int), .bool c]) ∧ w = w') ∧
    (∀ w : World, Calls Try.prog 43 #[.int .u64 i, .int .u64 n] w fun e w' => e = .returned (.tuple #[.int .i64 (k : Int), .bool c]) ∧ Below w.heap.size w w') := by
  by_cases h : n ≤ 4611686018427387904 ∧ i < n
  · exact ⟨_, true, Peak_yes h.2 h.1, refPeak_yes h.2 h.1⟩
  · refine ⟨0, false, Peak_no h, fun w => ?_⟩
    by_cases h0 : i < n
    · exact refPeak_no h0 (by omega) w
    · exact refPeak_out (by omega) w
end Go.Proofs.Ytkiomgnjjijbgaa
