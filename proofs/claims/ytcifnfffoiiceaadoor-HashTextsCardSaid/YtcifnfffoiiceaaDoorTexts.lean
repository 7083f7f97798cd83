/-
  The walks of the program's texts: LeafText, NodeText, FoldText, RootText.
-/
import Derived.Test.YtcifnfffoiiceaaDoorConcat
import Derived.Test.YtcifnfffoiiceaaDoorHeldSeq
namespace Go.Proofs.YtcifnfffoiiceaaDoor
open Go.RowKit
set_option linter.unusedVariables false
set_option pp.deepTerms true
set_option pp.maxSteps 1000000

theorem parts_new {w : World} {vs : List Value} {Ls : List (List Nat)} (hlen : vs.length = Ls.length) (hm : vs.length ≤ maxLen)
    (each : ∀ (i : Nat) (x : Value) (L : List Nat), vs[i]? = some x → Ls[i]? = some L → SliceOf u8c w x L ∧ ∀ b, x.ownBlock = some b → b < w.heap.size) :
    PartsAt (w.alloc (.cells vs.toArray 29 (0, 0))) (.slice (some ⟨w.heap.size, 0, none⟩) vs.length vs.length) vs Ls := by
  refine ⟨⟨_, _, rfl, Nat.le_refl _, hm, (fun e => by cases e), .inr ⟨w.heap.size, 0, rfl, fun j x hj => ?_⟩⟩, hlen, fun i x L hx hL => ?_⟩
  · rw [cell_of_row _ _ _ _ _ _ (heap_alloc_new _ _)]
    simpa using hj
  · obtain ⟨h1, h2⟩ := each i x L hx hL
    exact ⟨h1.below ((Below.refl _ _).alloc (Nat.le_refl _) _), fun b hb => by have := h2 b hb; simp; omega⟩
theorem each2 {P : Value → List Nat → Prop} {x y : Value} {A B : List Nat} (h1 : P x A) (h2 : P y B) : ∀ (i : Nat) (z : Value) (L : List Nat), [x, y][i]? = some z → [A, B][i]? = some L → P z L := by
  intro i z L hz hL
  match i, hz, hL with
  | 0, hz, hL => cases hz; cases hL; exact h1
  | 1, hz, hL => cases hz; cases hL; exact h2
  | i + 2, hz, hL => cases hz
theorem each3 {P : Value → List Nat → Prop} {x y u : Value} {A B C : List Nat} (h1 : P x A) (h2 : P y B) (h3 : P u C) : ∀ (i : Nat) (z : Value) (L : List Nat), [x, y, u][i]? = some z → [A, B, C][i]? = some L → P z L := by
  intro i z L hz hL
  match i, hz, hL with
  | 0, hz, hL => cases hz; cases hL; exact h1
  | 1, hz, hL => cases hz; cases hL; exact h2
  | 2, hz, hL => cases hz; cases hL; exact h3
  | i + 3, hz, hL => cases hz
theorem own_low {w : World} {B B' n : Nat} {t : TypeId} {v : Value} {xs : List Value} (h : w.ownsRow B' t 1 v n xs) (hB : B ≤ B') : w.ownsRow B t 1 v n xs :=
  ⟨h.1, h.2.imp id fun ⟨g', c', cur, h1, h2, h3⟩ => ⟨g', c', cur, h1, Nat.le_trans hB h2, h3⟩⟩
/-- A byte of its own. -/
theorem tag_at (w : World) (t : Nat) : SliceOf u8c (w.alloc (.cells #[.int .u8 (t : Int)] 5 (0, 0))) (.slice (some ⟨w.heap.size, 0, none⟩) 1 1) [t] := co_slice (l := [t]) (heap_alloc_new _ _) (by show 1 ≤ maxLen; decide)
theorem LeafText_any {l : List Nat} {v : Value} (W : World) (S : SliceOf u8c W v l) (hv : ∀ b, v.ownBlock = some b → b < W.heap.size) (hl : l.length ≤ 100000) :
    Calls Tryd.prog 25 #[v] W fun e w' => ∃ v', e = .returned v' ∧ w'.ownsRow W.heap.size 5 1 v' (l.length + 1) (u8s (0 :: l)) ∧ Below W.heap.size W w' := by
  have q1 : Below W.heap.size W (W.alloc (.cells #[.int .u8 0] 5 (0, 0))) := (Below.refl _ _).alloc (Nat.le_refl _) _
  have e1 : (W.alloc (.cells #[.int .u8 0] 5 (0, 0))).heap.size = W.heap.size + 1 := by simp
  obtain ⟨a, cap, rfl, s1, s2, s3⟩ := id S
  have PA := parts_new (w := W.alloc (.cells #[.int .u8 0] 5 (0, 0))) (vs := [.slice (some ⟨W.heap.size, 0, none⟩) 1 1, .slice a l.length cap]) (Ls := [[0], l]) rfl (by show 2 ≤ maxLen; decide) (each2 (P := fun x L => SliceOf u8c _ x L ∧ ∀ b, x.ownBlock = some b → b < _) ⟨tag_at W 0, fun b hb => by cases hb; rw [e1]; show W.heap.size < _; omega⟩ ⟨S.below q1, fun b hb => by have := hv b hb; rw [e1]; omega⟩)
  have CC := Concat_any PA (by simp; omega) (by simp) (by show 2 ≤ 1000000; decide)
  rw [e1] at CC
  have HC := Lib.hid CC
  clear CC PA S s1 s2 s3 hv e1
  go_enter Tryd.func25, Tryd.ntmps25
  go_wp2_with fail
  refine HC.out.mono ?_
  rintro e w2 ⟨v2, rfl, own2, q2⟩
  rw [show ([[0], l] : List (List Nat)).flatten = 0 :: l by simp, List.length_cons] at own2
  have own3 := own_low own2 (show W.heap.size ≤ _ by simp; omega)
  have b3 : Below W.heap.size W w2 := ((q1.alloc (by simp) _)).trans (q2.mono (by simp; omega))
  clear own2 q2
  go_wp2_with fail
  go_ret
  exact ⟨_, rfl, own3, b3⟩
set_option maxHeartbeats 1000000 in
theorem NodeText_any {l r : List Nat} (hl : l.length = 32) (hr : r.length = 32) (W : World) :
    Calls Tryd.prog 26 #[.agg (cellsOf' u8c l), .agg (cellsOf' u8c r)] W fun e w' => ∃ v', e = .returned v' ∧ w'.ownsRow W.heap.size 5 1 v' 65 (u8s (1 :: (l ++ r))) ∧ Below W.heap.size W w' := by
  have hA : (cellsOf' u8c l).size = 32 := by rw [co_size, hl]
  have hB : (cellsOf' u8c r).size = 32 := by rw [co_size, hr]
  obtain ⟨w1, hw1⟩ : ∃ w1, (W.alloc (.cells (cellsOf' u8c l) 23 (0, 0))).alloc (.cells (cellsOf' u8c r) 23 (0, 0)) = w1 := ⟨_, rfl⟩
  have z1 : w1.heap.size = W.heap.size + 2 := by rw [← hw1]; simp
  have g0 : w1.heap[W.heap.size]? = some (.cells (cellsOf' u8c l) 23 (0, 0)) := by rw [← hw1, Below.heap_alloc _ _ _ (by simp), heap_alloc_new]
  have g1 : w1.heap[W.heap.size + 1]? = some (.cells (cellsOf' u8c r) 23 (0, 0)) := by
    have e : (W.alloc (.cells (cellsOf' u8c l) 23 (0, 0))).heap.size = W.heap.size + 1 := by simp
    rw [← hw1, ← e, heap_alloc_new]
  have b1 : Below W.heap.size W w1 := by rw [← hw1]; exact ((Below.refl _ _).alloc (Nat.le_refl _) _).alloc (by simp) _
  have sl : SliceOf u8c w1 (.slice (some ⟨W.heap.size, 0, none⟩) 32 32) l := by
    have := co_slice g0 (by rw [hl]; decide)
    rwa [hl] at this
  have sr : SliceOf u8c w1 (.slice (some ⟨W.heap.size + 1, 0, none⟩) 32 32) r := by
    have := co_slice g1 (by rw [hr]; decide)
    rwa [hr] at this
  have d1 : Below w1.heap.size w1 w1.drew := (Below.refl _ _).drew
  have q1 : Below w1.drew.heap.size w1.drew (w1.drew.alloc (.cells #[.int .u8 1] 5 (0, 0))) := (Below.refl _ _).alloc (Nat.le_refl _) _
  have e1 : (w1.drew.alloc (.cells #[.int .u8 1] 5 (0, 0))).heap.size = w1.heap.size + 1 := by simp
  have PA := parts_new (w := w1.drew.alloc (.cells #[.int .u8 1] 5 (0, 0))) (vs := [.slice (some ⟨w1.heap.size, 0, none⟩) 1 1, .slice (some ⟨W.heap.size, 0, none⟩) 32 32, .slice (some ⟨W.heap.size + 1, 0, none⟩) 32 32]) (Ls := [[1], l, r]) rfl (by show 3 ≤ maxLen; decide)
    (each3 (P := fun x L => SliceOf u8c _ x L ∧ ∀ b, x.ownBlock = some b → b < _) ⟨tag_at w1.drew 1, fun b hb => by cases hb; rw [e1]; show w1.heap.size < _; omega⟩ ⟨(sl.below d1).below q1, fun b hb => by cases hb; rw [e1]; show W.heap.size < _; omega⟩ ⟨(sr.below d1).below q1, fun b hb => by cases hb; rw [e1]; show W.heap.size + 1 < _; omega⟩)
  have CC := Concat_any PA (by simp; omega) (by simp) (by show 3 ≤ 1000000; decide)
  rw [e1, show ([[1], l, r] : List (List Nat)).flatten = 1 :: (l ++ r) by simp, show (1 :: (l ++ r)).length = 65 by simp [hl, hr]] at CC
  have HC := Lib.hid CC
  have HB1 := Lib.hid b1
  have HZ1 := Lib.hid z1
  have HW1 := Lib.hid hw1
  have HE1 := Lib.hid e1
  have HQ1 := Lib.hid q1
  clear CC PA sl sr g0 g1 b1 z1 hw1 e1 q1 d1 hl hr
  go_enter Tryd.func26, Tryd.ntmps26
  go_wp2_with fail
  rw [HW1.out]
  refine wp_region_held (S := fun _ => True) (by kernel_rfl) ?_
  change wpAnyH _ _ _ _ _ _ _ _ (World.drew _)
  refine anyH_take (i := 1) (d := 6) (v := .slice (some ⟨W.heap.size, 0, none⟩) 32 32) rfl rfl (by kernel_rfl) (by kernel_rfl) (by kernel_rfl) (fun _ _ _ h => h) (Or.inl ⟨by rfl, fun w _ => by go_simp⟩) trivial ?_
  refine anyH_take (i := 2) (d := 7) (v := .slice (some ⟨W.heap.size + 1, 0, none⟩) 32 32) rfl rfl (by kernel_rfl) (by kernel_rfl) (by kernel_rfl) (fun _ _ _ h => h) (Or.inl ⟨by rfl, fun w _ => by go_simp⟩) trivial ?_
  refine anyH_one (i := 0) (by kernel_rfl) rfl ?_
  go_wp2_with fail
  refine ⟨trivial, ?_⟩
  refine anyH_one (i := 3) (by kernel_rfl) rfl ?_
  go_wp2_with fail
  refine ⟨trivial, ?_⟩
  refine anyH_one (i := 4) (by kernel_rfl) rfl ?_
  go_wp2_with (go_at_call 60; refine HC.out.mono ?_; rintro e w2 ⟨v2, rfl, own2, q2⟩)
  refine ⟨trivial, ?_⟩
  refine anyH_one (i := 5) (by kernel_rfl) rfl ?_
  go_wp2_with fail
  refine ⟨trivial, wpAnyH_done (by kernel_rfl) ?_ _⟩
  have own3 := own_low own2 (show W.heap.size ≤ _ by simp; have := HZ1.out; omega)
  have b3 : Below W.heap.size W w2 := (HB1.out.drew.trans ((HQ1.out.mono (by show W.heap.size ≤ w1.heap.size; have := HZ1.out; omega)))).trans ((((Below.refl _ _).alloc (Nat.le_refl _) _).trans (q2.mono (by simp))).mono (by rw [HE1.out]; have := HZ1.out; omega))
  clear own2 q2
  go_wp2_with fail
  go_ret
  exact ⟨_, rfl, own3, b3⟩
set_option maxHeartbeats 1000000 in
theorem FoldText_any {l r : List Nat} (hl : l.length = 32) (hr : r.length = 32) (W : World) :
    Calls Tryd.prog 27 #[.agg (cellsOf' u8c l), .agg (cellsOf' u8c r)] W fun e w' => ∃ v', e = .returned v' ∧ w'.ownsRow W.heap.size 5 1 v' 65 (u8s (2 :: (l ++ r))) ∧ Below W.heap.size W w' := by
  have hA : (cellsOf' u8c l).size = 32 := by rw [co_size, hl]
  have hB : (cellsOf' u8c r).size = 32 := by rw [co_size, hr]
  obtain ⟨w1, hw1⟩ : ∃ w1, (W.alloc (.cells (cellsOf' u8c l) 23 (0, 0))).alloc (.cells (cellsOf' u8c r) 23 (0, 0)) = w1 := ⟨_, rfl⟩
  have z1 : w1.heap.size = W.heap.size + 2 := by rw [← hw1]; simp
  have g0 : w1.heap[W.heap.size]? = some (.cells (cellsOf' u8c l) 23 (0, 0)) := by rw [← hw1, Below.heap_alloc _ _ _ (by simp), heap_alloc_new]
  have g1 : w1.heap[W.heap.size + 1]? = some (.cells (cellsOf' u8c r) 23 (0, 0)) := by
    have e : (W.alloc (.cells (cellsOf' u8c l) 23 (0, 0))).heap.size = W.heap.size + 1 := by simp
    rw [← hw1, ← e, heap_alloc_new]
  have b1 : Below W.heap.size W w1 := by rw [← hw1]; exact ((Below.refl _ _).alloc (Nat.le_refl _) _).alloc (by simp) _
  have sl : SliceOf u8c w1 (.slice (some ⟨W.heap.size, 0, none⟩) 32 32) l := by
    have := co_slice g0 (by rw [hl]; decide)
    rwa [hl] at this
  have sr : SliceOf u8c w1 (.slice (some ⟨W.heap.size + 1, 0, none⟩) 32 32) r := by
    have := co_slice g1 (by rw [hr]; decide)
    rwa [hr] at this
  have d1 : Below w1.heap.size w1 w1.drew := (Below.refl _ _).drew
  have q1 : Below w1.drew.heap.size w1.drew (w1.drew.alloc (.cells #[.int .u8 2] 5 (0, 0))) := (Below.refl _ _).alloc (Nat.le_refl _) _
  have e1 : (w1.drew.alloc (.cells #[.int .u8 2] 5 (0, 0))).heap.size = w1.heap.size + 1 := by simp
  have PA := parts_new (w := w1.drew.alloc (.cells #[.int .u8 2] 5 (0, 0))) (vs := [.slice (some ⟨w1.heap.size, 0, none⟩) 1 1, .slice (some ⟨W.heap.size, 0, none⟩) 32 32, .slice (some ⟨W.heap.size + 1, 0, none⟩) 32 32]) (Ls := [[2], l, r]) rfl (by show 3 ≤ maxLen; decide)
    (each3 (P := fun x L => SliceOf u8c _ x L ∧ ∀ b, x.ownBlock = some b → b < _) ⟨tag_at w1.drew 2, fun b hb => by cases hb; rw [e1]; show w1.heap.size < _; omega⟩ ⟨(sl.below d1).below q1, fun b hb => by cases hb; rw [e1]; show W.heap.size < _; omega⟩ ⟨(sr.below d1).below q1, fun b hb => by cases hb; rw [e1]; show W.heap.size + 1 < _; omega⟩)
  have CC := Concat_any PA (by simp; omega) (by simp) (by show 3 ≤ 1000000; decide)
  rw [e1, show ([[2], l, r] : List (List Nat)).flatten = 2 :: (l ++ r) by simp, show (2 :: (l ++ r)).length = 65 by simp [hl, hr]] at CC
  have HC := Lib.hid CC
  have HB1 := Lib.hid b1
  have HZ1 := Lib.hid z1
  have HW1 := Lib.hid hw1
  have HE1 := Lib.hid e1
  have HQ1 := Lib.hid q1
  clear CC PA sl sr g0 g1 b1 z1 hw1 e1 q1 d1 hl hr
  go_enter Tryd.func27, Tryd.ntmps27
  go_wp2_with fail
  rw [HW1.out]
  refine wp_region_held (S := fun _ => True) (by kernel_rfl) ?_
  change wpAnyH _ _ _ _ _ _ _ _ (World.drew _)
  refine anyH_take (i := 1) (d := 6) (v := .slice (some ⟨W.heap.size, 0, none⟩) 32 32) rfl rfl (by kernel_rfl) (by kernel_rfl) (by kernel_rfl) (fun _ _ _ h => h) (Or.inl ⟨by rfl, fun w _ => by go_simp⟩) trivial ?_
  refine anyH_take (i := 2) (d := 7) (v := .slice (some ⟨W.heap.size + 1, 0, none⟩) 32 32) rfl rfl (by kernel_rfl) (by kernel_rfl) (by kernel_rfl) (fun _ _ _ h => h) (Or.inl ⟨by rfl, fun w _ => by go_simp⟩) trivial ?_
  refine anyH_one (i := 0) (by kernel_rfl) rfl ?_
  go_wp2_with fail
  refine ⟨trivial, ?_⟩
  refine anyH_one (i := 3) (by kernel_rfl) rfl ?_
  go_wp2_with fail
  refine ⟨trivial, ?_⟩
  refine anyH_one (i := 4) (by kernel_rfl) rfl ?_
  go_wp2_with (go_at_call 60; refine HC.out.mono ?_; rintro e w2 ⟨v2, rfl, own2, q2⟩)
  refine ⟨trivial, ?_⟩
  refine anyH_one (i := 5) (by kernel_rfl) rfl ?_
  go_wp2_with fail
  refine ⟨trivial, wpAnyH_done (by kernel_rfl) ?_ _⟩
  have own3 := own_low own2 (show W.heap.size ≤ _ by simp; have := HZ1.out; omega)
  have b3 : Below W.heap.size W w2 := (HB1.out.drew.trans ((HQ1.out.mono (by show W.heap.size ≤ w1.heap.size; have := HZ1.out; omega)))).trans ((((Below.refl _ _).alloc (Nat.le_refl _) _).trans (q2.mono (by simp))).mono (by rw [HE1.out]; have := HZ1.out; omega))
  clear own2 q2
  go_wp2_with fail
  go_ret
  exact ⟨_, rfl, own3, b3⟩
set_option maxHeartbeats 1000000 in
theorem RootText_any {n : Nat} {l : List Nat} (hn : n < 18446744073709551616) (hl : l.length = 32) (W : World) :
    Calls Tryd.prog 28 #[.int .u64 (n : Int), .agg (cellsOf' u8c l)] W fun e w' => ∃ v', e = .returned v' ∧ w'.ownsRow W.heap.size 5 1 v' 41 (u8s (3 :: (bigL n 8 ++ l))) ∧ Below W.heap.size W w' := by
  have hA : (cellsOf' u8c l).size = 32 := by rw [co_size, hl]
  have BF0 : ∀ w : World, Calls Tryd.prog 46 #[.int .u64 (n : Int), .int .i64 8] w fun e w' => ∃ v, e = .returned (.tuple #[v, .int .i64 0]) ∧ w'.ownsRow w.heap.size 5 1 v 8 (u8s (bigL n 8)) ∧ Below w.heap.size w w' := fun w => Big_fits (x := n) hn (m := 8) (by decide) (by show n < 18446744073709551616; exact hn) w
  have BF := Lib.hid BF0
  obtain ⟨w1, hw1⟩ : ∃ w1, W.alloc (.cells (cellsOf' u8c l) 23 (0, 0)) = w1 := ⟨_, rfl⟩
  have z1 : w1.heap.size = W.heap.size + 1 := by rw [← hw1]; simp
  have g0 : w1.heap[W.heap.size]? = some (.cells (cellsOf' u8c l) 23 (0, 0)) := by rw [← hw1, heap_alloc_new]
  have b1 : Below W.heap.size W w1 := by rw [← hw1]; exact (Below.refl _ _).alloc (Nat.le_refl _) _
  have sl : SliceOf u8c w1 (.slice (some ⟨W.heap.size, 0, none⟩) 32 32) l := by
    have := co_slice g0 (by rw [hl]; decide)
    rwa [hl] at this
  have SL := Lib.hid sl
  have HB1 := Lib.hid b1
  have HZ1 := Lib.hid z1
  have HW1 := Lib.hid hw1
  have HLL := Lib.hid hl
  clear BF0 sl g0 b1 z1 hw1 hl hn
  go_enter Tryd.func28, Tryd.ntmps28
  go_wp2_with fail
  rw [HW1.out]
  refine (BF.out _).mono ?_
  rintro e w2 ⟨v2, rfl, own2, q2⟩
  have ap2 : ∀ b, v2.ownBlock = some b → b < w2.heap.size := fun b hb => (own2.lt b hb).2
  have s2 : SliceOf u8c w2 v2 (bigL n 8) := SliceOf.of_own own2 (u8s_eq _)
  have b2 : Below W.heap.size W w2 := HB1.out.trans (q2.mono (by have := HZ1.out; omega))
  have z2 : W.heap.size + 1 ≤ w2.heap.size := by have := q2.size; have := HZ1.out; omega
  have q3 : Below w2.heap.size w2 (w2.alloc (.cells #[.int .u8 3] 5 (0, 0))) := (Below.refl _ _).alloc (Nat.le_refl _) _
  have e3 : (w2.alloc (.cells #[.int .u8 3] 5 (0, 0))).heap.size = w2.heap.size + 1 := by simp
  obtain ⟨a2, k2, rfl, _⟩ := id s2
  have PA := parts_new (w := w2.alloc (.cells #[.int .u8 3] 5 (0, 0))) (vs := [.slice (some ⟨w2.heap.size, 0, none⟩) 1 1, .slice a2 (bigL n 8).length k2, .slice (some ⟨W.heap.size, 0, none⟩) 32 32]) (Ls := [[3], bigL n 8, l]) rfl (by show 3 ≤ maxLen; decide)
    (each3 (P := fun x L => SliceOf u8c _ x L ∧ ∀ b, x.ownBlock = some b → b < _) ⟨tag_at w2 3, fun b hb => by cases hb; rw [e3]; show w2.heap.size < _; omega⟩ ⟨s2.below q3, fun b hb => by have := ap2 b hb; rw [e3]; omega⟩ ⟨((SL.out.below q2)).below q3, fun b hb => by cases hb; rw [e3]; show W.heap.size < _; omega⟩)
  have CC := Concat_any PA (by simp [bigL_length, HLL.out]) (by simp) (by show 3 ≤ 1000000; decide)
  rw [e3, show ([[3], bigL n 8, l] : List (List Nat)).flatten = 3 :: (bigL n 8 ++ l) by simp, show (3 :: (bigL n 8 ++ l)).length = 41 by simp [bigL_length, HLL.out]] at CC
  have HC := Lib.hid CC
  have HQ3 := Lib.hid q3
  have HE3 := Lib.hid e3
  have HB2 := Lib.hid b2
  have HZ2 := Lib.hid z2
  clear CC PA own2 q2 ap2 s2 b2 z2 q3 e3
  go_wp2_with (go_at_call 60; refine HC.out.mono ?_; rintro e w4 ⟨v4, rfl, own4, q4⟩)
  have own5 := own_low own4 (show W.heap.size ≤ _ by simp; have := HZ2.out; omega)
  have b5 : Below W.heap.size W w4 := HB2.out.trans ((HQ3.out.trans ((((Below.refl _ _).alloc (Nat.le_refl _) _).trans (q4.mono (by simp))).mono (by rw [HE3.out]; omega))).mono HB2.out.size)
  clear own4 q4
  go_ret
  exact ⟨_, rfl, own5, b5⟩
end Go.Proofs.YtcifnfffoiiceaaDoor
