/-
  The walks of the reference's texts.
  The walks of Leaf, Node, Fold, Root, of the program and of the reference.
  The walk of the laws' own all.
-/
import Derived.Test.YtcifnfffoiiceaaDoorTexts
import Derived.Test.YtcifnfffoiiceaaDoorRefText
import Derived.Test.YtcifnfffoiiceaaDoorRefSum
import Derived.Test.YtcifnfffoiiceaaDoorInputs
import Derived.Test.YtcifnfffoiiceaaDoorRow2
namespace Go.Proofs.YtcifnfffoiiceaaDoor
section
open Go.RowKit
set_option linter.unusedVariables false
set_option pp.deepTerms true
set_option pp.maxSteps 1000000

theorem own_one8 {w : World} (x : Int) {B : Nat} (hB : B ≤ w.heap.size) : (w.alloc (.cells #[.int .u8 x] 5 (0, 0))).ownsRow B 5 1 (.slice (some ⟨w.heap.size, 0, none⟩) 1 1) 1 [.int .u8 x] :=
  ⟨rfl, .inr ⟨w.heap.size, 1, #[.int .u8 x], rfl, hB, heap_alloc_new _ _, Nat.le_refl _, by show 1 ≤ maxLen; decide, rfl, rfl⟩⟩
theorem refLeafText_any {l : List Nat} {v : Value} (W : World) (S : SliceOf u8c W v l) (hl : l.length ≤ 100000) :
    Calls Tryd.prog 37 #[v] W fun e w' => ∃ v', e = .returned v' ∧ w'.ownsRow W.heap.size 5 1 v' (l.length + 1) (u8s (0 :: l)) ∧ Below W.heap.size W w' := by
  have q1 : Below W.heap.size W (W.alloc (.cells #[.int .u8 0] 5 (0, 0))) := (Below.refl _ _).alloc (Nat.le_refl _) _
  have o1 := own_one8 (w := W) 0 (Nat.le_refl _)
  have s1 := S.below q1
  have z1 : W.heap.size ≤ (W.alloc (.cells #[.int .u8 0] 5 (0, 0))).heap.size := by simp
  have H := Lib.hid (And.intro o1 (And.intro s1 (And.intro q1 z1)))
  obtain ⟨a, cap, rfl, _⟩ := S
  clear o1 s1 q1 z1
  go_enter Tryd.func37, Tryd.ntmps37
  go_wp2_with (at_builtin; refine app_u8 (.tmp 3) (.tmp 4) rfl rfl W.heap.size _ 1 _ rfl H.out.1 _ l rfl H.out.2.1 (by omega) H.out.2.2.2 ?_; intro v2 w2 o2 hg2; have q2 : Below W.heap.size W w2 := H.out.2.2.1.grown hg2 H.out.2.2.2 (fun k hk => (H.out.1.lt k hk).1); have HO := Lib.hid o2; clear o2 hg2)
  go_ret
  refine ⟨_, rfl, ?_, q2⟩
  have := HO.out
  rw [Nat.add_comm]
  exact this
set_option maxHeartbeats 1000000 in
theorem refNodeText_any {l r : List Nat} (hl : l.length = 32) (hr : r.length = 32) (W : World) :
    Calls Tryd.prog 38 #[.agg (cellsOf' u8c l), .agg (cellsOf' u8c r)] W fun e w' => ∃ v', e = .returned v' ∧ w'.ownsRow W.heap.size 5 1 v' 65 (u8s (1 :: (l ++ r))) ∧ Below W.heap.size W w' := by
  have hA : (cellsOf' u8c l).size = 32 := by rw [co_size, hl]
  have hB : (cellsOf' u8c r).size = 32 := by rw [co_size, hr]
  obtain ⟨w1, hw1⟩ : ∃ w1, (W.alloc (.cells (cellsOf' u8c l) 23 (0, 0))).alloc (.cells (cellsOf' u8c r) 23 (0, 0)) = w1 := ⟨_, rfl⟩
  have z1 : w1.heap.size = W.heap.size + 2 := by rw [← hw1]; simp
  have g0 : w1.heap[W.heap.size]? = some (.cells (cellsOf' u8c l) 23 (0, 0)) := by rw [← hw1, Below.heap_alloc _ _ _ (by simp), heap_alloc_new]
  have g1 : w1.heap[W.heap.size + 1]? = some (.cells (cellsOf' u8c r) 23 (0, 0)) := by
    have e : (W.alloc (.cells (cellsOf' u8c l) 23 (0, 0))).heap.size = W.heap.size + 1 := by simp
    rw [← hw1, ← e, heap_alloc_new]
  have b1 : Below W.heap.size W w1 := by rw [← hw1]; exact ((Below.refl _ _).alloc (Nat.le_refl _) _).alloc (by simp) _
  have sl : SliceOf u8c w1 (.slice (some ⟨W.heap.size, 0, none⟩) 32 32) l := by
    have := co_slice g0 (by rw [hl]; decide)
    rwa [hl] at this
  have sr : SliceOf u8c w1 (.slice (some ⟨W.heap.size + 1, 0, none⟩) 32 32) r := by
    have := co_slice g1 (by rw [hr]; decide)
    rwa [hr] at this
  obtain ⟨w2, hw2⟩ : ∃ w2, (w1.alloc (.cells #[.int .u8 1] 5 (0, 0))).drew = w2 := ⟨_, rfl⟩
  have q2 : Below w1.heap.size w1 w2 := by rw [← hw2]; exact ((Below.refl _ _).alloc (Nat.le_refl _) _).drew
  have o2 : w2.ownsRow w1.heap.size 5 1 (.slice (some ⟨w1.heap.size, 0, none⟩) 1 1) 1 [.int .u8 1] := by rw [← hw2]; exact own_one8 (w := w1) _ (Nat.le_refl _)
  have z2 : w2.heap.size = w1.heap.size + 1 := by rw [← hw2]; simp
  have S2 := Lib.hid (And.intro (sl.below q2) (sr.below q2))
  have S1 := Lib.hid (And.intro sl sr)
  have HW1 := Lib.hid hw1
  have HW2 := Lib.hid hw2
  have HZ1 := Lib.hid z1
  have HB1 := Lib.hid b1
  have HL := Lib.hid (And.intro hl hr)
  clear hw1 hw2 z1 g0 g1 b1 sl sr hl hr
  go_enter Tryd.func38, Tryd.ntmps38
  go_wp2_with fail
  rw [HW1.out]
  refine wp_region_held (S := fun _ => True) (by kernel_rfl) ?_
  change wpAnyH _ _ _ _ _ _ _ _ (World.drew _)
  refine anyH_take (i := 1) (d := 6) (v := .slice (some ⟨W.heap.size, 0, none⟩) 32 32) rfl rfl (by kernel_rfl) (by kernel_rfl) (by kernel_rfl) (fun _ _ _ h => h) (Or.inl ⟨by kernel_rfl, fun w _ => by go_simp⟩) trivial ?_
  refine anyH_take (i := 3) (d := 8) (v := .slice (some ⟨W.heap.size + 1, 0, none⟩) 32 32) rfl rfl (by kernel_rfl) (by kernel_rfl) (by kernel_rfl) (fun _ _ _ h => h) (Or.inl ⟨by kernel_rfl, fun w _ => by go_simp⟩) trivial ?_
  refine anyH_one (i := 0) (by kernel_rfl) rfl ?_
  go_wp2_with fail
  rw [HW2.out]
  refine ⟨trivial, ?_⟩
  refine anyH_one (i := 2) (by kernel_rfl) rfl ?_
  have zz : w1.heap.size ≤ w2.heap.size := q2.size
  refine app_u8 (.tmp 5) (.tmp 6) rfl rfl w1.heap.size _ 1 _ (by kernel_rfl) o2 _ l (by kernel_rfl) S2.out.1 (by rw [HL.out.1]; decide) zz ?_
  intro v3 w3 o3 hg3
  have q3 : Below w1.heap.size w1 w3 := q2.grown hg3 zz (fun k hk => (o2.lt k hk).1)
  have zz3 : w1.heap.size ≤ w3.heap.size := q3.size
  have s3 := S1.out.2.below q3
  go_wp2_with fail
  refine ⟨trivial, ?_⟩
  refine anyH_one (i := 4) (by kernel_rfl) rfl ?_
  refine app_u8 (.tmp 7) (.tmp 8) rfl rfl w1.heap.size _ (1 + l.length) _ (by kernel_rfl) o3 _ r (by kernel_rfl) s3 (by rw [HL.out.1, HL.out.2]; decide) zz3 ?_
  intro v4 w4 o4 hg4
  have q4 : Below w1.heap.size w1 w4 := q3.grown hg4 zz3 (fun k hk => (o3.lt k hk).1)
  have HO := Lib.hid o4
  have b4 : Below W.heap.size W w4 := HB1.out.trans (q4.mono (by have := HZ1.out; omega))
  clear o4 o3 o2 hg3 hg4 q2 q3 q4 s3
  go_wp2_with fail
  refine ⟨trivial, ?_⟩
  refine anyH_one (i := 5) (by kernel_rfl) rfl ?_
  go_wp2_with fail
  refine ⟨trivial, wpAnyH_done (by kernel_rfl) ?_ _⟩
  go_wp2_with fail
  go_ret
  refine ⟨_, rfl, ?_, b4⟩
  have := own_low HO.out (show W.heap.size ≤ _ by have := HZ1.out; omega)
  rw [HL.out.1, HL.out.2] at this
  have e : [Value.int .u8 1] ++ u8s l ++ u8s r = u8s (1 :: (l ++ r)) := by rw [List.append_assoc, ← u8s_append]; rfl
  rw [e] at this
  exact this
set_option maxHeartbeats 1000000 in
theorem refFoldText_any {l r : List Nat} (hl : l.length = 32) (hr : r.length = 32) (W : World) :
    Calls Tryd.prog 39 #[.agg (cellsOf' u8c l), .agg (cellsOf' u8c r)] W fun e w' => ∃ v', e = .returned v' ∧ w'.ownsRow W.heap.size 5 1 v' 65 (u8s (2 :: (l ++ r))) ∧ Below W.heap.size W w' := by
  have hA : (cellsOf' u8c l).size = 32 := by rw [co_size, hl]
  have hB : (cellsOf' u8c r).size = 32 := by rw [co_size, hr]
  obtain ⟨w1, hw1⟩ : ∃ w1, (W.alloc (.cells (cellsOf' u8c l) 23 (0, 0))).alloc (.cells (cellsOf' u8c r) 23 (0, 0)) = w1 := ⟨_, rfl⟩
  have z1 : w1.heap.size = W.heap.size + 2 := by rw [← hw1]; simp
  have g0 : w1.heap[W.heap.size]? = some (.cells (cellsOf' u8c l) 23 (0, 0)) := by rw [← hw1, Below.heap_alloc _ _ _ (by simp), heap_alloc_new]
  have g1 : w1.heap[W.heap.size + 1]? = some (.cells (cellsOf' u8c r) 23 (0, 0)) := by
    have e : (W.alloc (.cells (cellsOf' u8c l) 23 (0, 0))).heap.size = W.heap.size + 1 := by simp
    rw [← hw1, ← e, heap_alloc_new]
  have b1 : Below W.heap.size W w1 := by rw [← hw1]; exact ((Below.refl _ _).alloc (Nat.le_refl _) _).alloc (by simp) _
  have sl : SliceOf u8c w1 (.slice (some ⟨W.heap.size, 0, none⟩) 32 32) l := by
    have := co_slice g0 (by rw [hl]; decide)
    rwa [hl] at this
  have sr : SliceOf u8c w1 (.slice (some ⟨W.heap.size + 1, 0, none⟩) 32 32) r := by
    have := co_slice g1 (by rw [hr]; decide)
    rwa [hr] at this
  obtain ⟨w2, hw2⟩ : ∃ w2, (w1.alloc (.cells #[.int .u8 2] 5 (0, 0))).drew = w2 := ⟨_, rfl⟩
  have q2 : Below w1.heap.size w1 w2 := by rw [← hw2]; exact ((Below.refl _ _).alloc (Nat.le_refl _) _).drew
  have o2 : w2.ownsRow w1.heap.size 5 1 (.slice (some ⟨w1.heap.size, 0, none⟩) 1 1) 1 [.int .u8 2] := by rw [← hw2]; exact own_one8 (w := w1) _ (Nat.le_refl _)
  have z2 : w2.heap.size = w1.heap.size + 1 := by rw [← hw2]; simp
  have S2 := Lib.hid (And.intro (sl.below q2) (sr.below q2))
  have S1 := Lib.hid (And.intro sl sr)
  have HW1 := Lib.hid hw1
  have HW2 := Lib.hid hw2
  have HZ1 := Lib.hid z1
  have HB1 := Lib.hid b1
  have HL := Lib.hid (And.intro hl hr)
  clear hw1 hw2 z1 g0 g1 b1 sl sr hl hr
  go_enter Tryd.func39, Tryd.ntmps39
  go_wp2_with fail
  rw [HW1.out]
  refine wp_region_held (S := fun _ => True) (by kernel_rfl) ?_
  change wpAnyH _ _ _ _ _ _ _ _ (World.drew _)
  refine anyH_take (i := 1) (d := 6) (v := .slice (some ⟨W.heap.size, 0, none⟩) 32 32) rfl rfl (by kernel_rfl) (by kernel_rfl) (by kernel_rfl) (fun _ _ _ h => h) (Or.inl ⟨by kernel_rfl, fun w _ => by go_simp⟩) trivial ?_
  refine anyH_take (i := 3) (d := 8) (v := .slice (some ⟨W.heap.size + 1, 0, none⟩) 32 32) rfl rfl (by kernel_rfl) (by kernel_rfl) (by kernel_rfl) (fun _ _ _ h => h) (Or.inl ⟨by kernel_rfl, fun w _ => by go_simp⟩) trivial ?_
  refine anyH_one (i := 0) (by kernel_rfl) rfl ?_
  go_wp2_with fail
  rw [HW2.out]
  refine ⟨trivial, ?_⟩
  refine anyH_one (i := 2) (by kernel_rfl) rfl ?_
  have zz : w1.heap.size ≤ w2.heap.size := q2.size
  refine app_u8 (.tmp 5) (.tmp 6) rfl rfl w1.heap.size _ 1 _ (by kernel_rfl) o2 _ l (by kernel_rfl) S2.out.1 (by rw [HL.out.1]; decide) zz ?_
  intro v3 w3 o3 hg3
  have q3 : Below w1.heap.size w1 w3 := q2.grown hg3 zz (fun k hk => (o2.lt k hk).1)
  have zz3 : w1.heap.size ≤ w3.heap.size := q3.size
  have s3 := S1.out.2.below q3
  go_wp2_with fail
  refine ⟨trivial, ?_⟩
  refine anyH_one (i := 4) (by kernel_rfl) rfl ?_
  refine app_u8 (.tmp 7) (.tmp 8) rfl rfl w1.heap.size _ (1 + l.length) _ (by kernel_rfl) o3 _ r (by kernel_rfl) s3 (by rw [HL.out.1, HL.out.2]; decide) zz3 ?_
  intro v4 w4 o4 hg4
  have q4 : Below w1.heap.size w1 w4 := q3.grown hg4 zz3 (fun k hk => (o3.lt k hk).1)
  have HO := Lib.hid o4
  have b4 : Below W.heap.size W w4 := HB1.out.trans (q4.mono (by have := HZ1.out; omega))
  clear o4 o3 o2 hg3 hg4 q2 q3 q4 s3
  go_wp2_with fail
  refine ⟨trivial, ?_⟩
  refine anyH_one (i := 5) (by kernel_rfl) rfl ?_
  go_wp2_with fail
  refine ⟨trivial, wpAnyH_done (by kernel_rfl) ?_ _⟩
  go_wp2_with fail
  go_ret
  refine ⟨_, rfl, ?_, b4⟩
  have := own_low HO.out (show W.heap.size ≤ _ by have := HZ1.out; omega)
  rw [HL.out.1, HL.out.2] at this
  have e : [Value.int .u8 2] ++ u8s l ++ u8s r = u8s (2 :: (l ++ r)) := by rw [List.append_assoc, ← u8s_append]; rfl
  rw [e] at this
  exact this
set_option maxRecDepth 8000 in
set_option maxHeartbeats 4000000 in
theorem refRootText_any {n : Nat} {l : List Nat} (hn : n < 18446744073709551616) (hl : l.length = 32) (W : World) :
    Calls Tryd.prog 40 #[.int .u64 (n : Int), .agg (cellsOf' u8c l)] W fun e w' => ∃ v', e = .returned v' ∧ w'.ownsRow W.heap.size 5 1 v' 41 (u8s (3 :: (bigL n 8 ++ l))) ∧ Below W.heap.size W w' := by
  have hA : (cellsOf' u8c l).size = 32 := by rw [co_size, hl]
  obtain ⟨Z, hZ⟩ : ∃ Z, W.heap.size = Z := ⟨_, rfl⟩
  obtain ⟨w1, hw1⟩ : ∃ w1, (W.alloc (.cells (cellsOf' u8c l) 23 (0, 0))).alloc (.cells (cellsOf' u8c (List.replicate 8 0 ++ (bigL n 8).drop 8)) 86 (0, 0)) = w1 := ⟨_, rfl⟩
  have z1 : w1.heap.size = Z + 2 := by rw [← hw1, ← hZ]; simp
  have g0 : w1.heap[Z]? = some (.cells (cellsOf' u8c l) 23 (0, 0)) := by rw [← hw1, ← hZ, Below.heap_alloc _ _ _ (by simp), heap_alloc_new]
  have g1 : w1.heap[Z + 1]? = some (.cells (cellsOf' u8c (List.replicate 8 0 ++ (bigL n 8).drop 8)) 86 (0, 0)) := by
    have e : (W.alloc (.cells (cellsOf' u8c l) 23 (0, 0))).heap.size = Z + 1 := by rw [← hZ]; simp
    rw [← hw1, ← e, heap_alloc_new]
  have b1 : Below Z W w1 := by rw [← hw1, ← hZ]; exact ((Below.refl _ _).alloc (Nat.le_refl _) _).alloc (by simp) _
  have HW1 := Lib.hid hw1
  have HZ := Lib.hid hZ
  have HZ1 := Lib.hid z1
  have HB1 := Lib.hid b1
  have HG0 := Lib.hid g0
  have HL := Lib.hid hl
  have nn : n ≤ 18446744073709551615 := by omega
  have br : Below (Z + 1) w1 w1 := Below.refl _ _
  rw [hZ]
  clear hw1 hZ z1 b1 g0 hl hn
  go_enter Tryd.func40, Tryd.ntmps40
  go_wp2_with fail
  generalize hW2 : World.alloc (World.alloc W _) _ = w2
  obtain rfl : w2 = w1 := by rw [← hW2, ← HW1.out]; rfl
  rw [HZ.out]
  clear hW2
  go_loopw [0, 6] (fun x i wr => ∃ m : Nat, m ≤ 8 ∧ i = .int .i64 ((m : Int) - 1) ∧ x = .int .u64 ((n / 256 ^ (8 - m) : Nat) : Int) ∧ wr.heap[Z + 1]? = some (.cells (cellsOf' u8c (List.replicate m 0 ++ (bigL n 8).drop m)) 86 (0, 0)) ∧ Below (Z + 1) w2 wr) (fun _ i _ => (intOf i + 1).toNat)
  case atStart => exact ⟨8, Nat.le_refl _, rfl, by simp, g1, br⟩
  case round =>
    obtain ⟨c1, hc1, rfl, rfl, hz, q2⟩ := hrel
    clear g1 br
    by_cases h0 : 0 < c1
    · obtain ⟨c, rfl⟩ : ∃ c, c1 = c + 1 := ⟨c1 - 1, by omega⟩
      have ej : ((c + 1 : Nat) : Int) - 1 = (c : Int) := by omega
      rw [ej]
      clear ej
      have NH := Lib.hid (half_next n c (by omega))
      have BA := big_at n (n := 8) (j := c) (by omega)
      rw [show 8 - 1 - c = 8 - (c + 1) by omega] at BA
      have hcell := co_cell hz back_get
      have hfree := co_free (k := c) hz
      have hst := co_store hz (k := c) (n / 256 ^ (8 - (c + 1)) % 256)
      rw [set_back (bigL_length n 8) (by omega) BA] at hst
      have HST := Lib.hid hst
      have ly : n / 256 ^ (8 - (c + 1)) ≤ n := Nat.div_le_self _ _
      unfold u8c at hcell
      generalize n / 256 ^ (8 - (c + 1)) = y at *
      have yi : (y : Int) ≤ 18446744073709551615 := by omega
      have ci : (c : Int) < 8 := by omega
      clear hst hz BA
      go_wp2
      go_roundw
      case rel => exact ⟨c, by omega, rfl, by rw [NH.out]; rfl, HST.out, q2.setCell (Nat.le_refl _) _⟩
      case measure => simp [intOf]
    · obtain rfl : c1 = 0 := by omega
      have hz8 : wr.heap[Z + 1]? = some (.cells (cellsOf' u8c (bigL n 8)) 86 (0, 0)) := by simpa using hz
      have s8 : SliceOf u8c wr (.slice (some ⟨Z + 1, 0, none⟩) 8 8) (bigL n 8) := by
        have := co_slice hz8 (by rw [bigL_length]; show 8 ≤ maxLen; decide)
        rwa [bigL_length] at this
      have sl : SliceOf u8c wr (.slice (some ⟨Z, 0, none⟩) 32 32) l := by
        have := co_slice ((q2.block Z (by omega)).trans HG0.out) (by rw [HL.out]; decide)
        rwa [HL.out] at this
      have bw : Below Z W wr := HB1.out.trans (q2.mono (Nat.le_succ _))
      obtain ⟨wk, hwk⟩ : ∃ w, w = wr := ⟨_, rfl⟩
      subst hwk
      obtain ⟨w3, hw3⟩ : ∃ w3, (wk.alloc (.cells #[.int .u8 3] 5 (0, 0))).drew = w3 := ⟨_, rfl⟩
      have q3 : Below wk.heap.size wk w3 := by rw [← hw3]; exact ((Below.refl _ _).alloc (Nat.le_refl _) _).drew
      have o3 : w3.ownsRow wk.heap.size 5 1 (.slice (some ⟨wk.heap.size, 0, none⟩) 1 1) 1 [.int .u8 3] := by rw [← hw3]; exact own_one8 (w := wk) _ (Nat.le_refl _)
      have S3 := Lib.hid (And.intro (s8.below q3) (sl.below q3))
      have HW3 := Lib.hid hw3
      have zk : Z ≤ wk.heap.size := by have := bw.size; have := HZ.out; omega
      have zk2 : Z + 2 ≤ wk.heap.size := by have := q2.size; have := HZ1.out; omega
      have HBW := Lib.hid bw
      clear hz hz8 s8 sl q2 hw3 bw
      go_wp2_with fail
      refine wp_region_held (S := fun _ => True) (by kernel_rfl) ?_
      change wpAnyH _ _ _ _ _ _ _ _ (World.drew _)
      refine anyH_take (i := 1) (d := 19) (v := .slice (some ⟨Z + 1, 0, none⟩) 8 8) rfl rfl (by kernel_rfl) (by kernel_rfl) (by kernel_rfl) (fun _ _ _ h => h) (Or.inl ⟨by kernel_rfl, fun w _ => by go_simp⟩) trivial ?_
      refine anyH_take (i := 3) (d := 21) (v := .slice (some ⟨Z, 0, none⟩) 32 32) rfl rfl (by kernel_rfl) (by kernel_rfl) (by kernel_rfl) (fun _ _ _ h => h) (Or.inl ⟨by kernel_rfl, fun w _ => by go_simp⟩) trivial ?_
      refine anyH_one (i := 0) (by kernel_rfl) rfl ?_
      go_wp2_with fail
      rw [HW3.out]
      refine ⟨trivial, ?_⟩
      refine anyH_one (i := 2) (by kernel_rfl) rfl ?_
      have zz : wk.heap.size ≤ w3.heap.size := q3.size
      refine app_u8 (.tmp 18) (.tmp 19) rfl rfl wk.heap.size _ 1 _ (by kernel_rfl) o3 _ (bigL n 8) (by kernel_rfl) S3.out.1 (by rw [bigL_length]; decide) zz ?_
      intro v4 w4 o4 hg4
      rw [bigL_length] at o4
      have q4 : Below wk.heap.size wk w4 := q3.grown hg4 zz (fun k hk => (o3.lt k hk).1)
      have z4 : wk.heap.size ≤ w4.heap.size := q4.size
      have s4 : SliceOf u8c w4 (.slice (some ⟨Z, 0, none⟩) 32 32) l := by
        have q34 : Below wk.heap.size w3 w4 := (Below.refl _ _).grown hg4 zz (fun k hk => (o3.lt k hk).1)
        exact S3.out.2.keep q34 (fun b hb => by cases hb; show Z < wk.heap.size; omega)
      go_wp2_with fail
      refine ⟨trivial, ?_⟩
      refine anyH_one (i := 4) (by kernel_rfl) rfl ?_
      refine app_u8 (.tmp 20) (.tmp 21) rfl rfl wk.heap.size _ (1 + 8) _ (by kernel_rfl) o4 _ l (by kernel_rfl) s4 (by rw [HL.out]; decide) z4 ?_
      intro v5 w5 o5 hg5
      have q5 : Below wk.heap.size wk w5 := q4.grown hg5 z4 (fun k hk => (o4.lt k hk).1)
      have HO := Lib.hid o5
      have b5 : Below Z W w5 := HBW.out.trans (q5.mono zk)
      clear o5 o4 o3 hg4 hg5 q3 q4 q5 s4
      go_wp2_with fail
      refine ⟨trivial, ?_⟩
      refine anyH_one (i := 5) (by kernel_rfl) rfl ?_
      go_wp2_with fail
      refine ⟨trivial, wpAnyH_done (by kernel_rfl) ?_ _⟩
      go_wp2_with fail
      go_ret
      refine ⟨_, rfl, ?_, b5⟩
      have := own_low HO.out zk
      rw [HL.out] at this
      have e : [Value.int .u8 3] ++ u8s (bigL n 8) ++ u8s l = u8s (3 :: (bigL n 8 ++ l)) := by rw [List.append_assoc, ← u8s_append]; rfl
      rw [e] at this
      exact this
end

section
open Go.RowKit
set_option linter.unusedVariables false
set_option pp.deepTerms true
set_option pp.maxSteps 1000000

theorem refsum_one {w : World} {v : Value} {l : List Nat} (wd : Int) (h : SliceOf u8c w v l) (hb : ∀ b, v.ownBlock = some b → b < w.heap.size) (bB : Bytes l) (hl : l.length ≤ 100000) :
    Calls Tryd.prog 16 #[.int .i64 wd, .slice (some ⟨w.heap.size, 0, none⟩) 1 1] (w.alloc (.cells #[v] 29 (0, 0))) fun e w' => e = .returned (.agg (cellsOf' u8c (sumN wd l))) ∧ Below w.heap.size w w' := by
  have q : Below w.heap.size w (w.alloc (.cells #[v] 29 (0, 0))) := (Below.refl _ _).alloc (Nat.le_refl _) _
  refine (refSum_any (one_part' h hb).toIn (fun L hL => by rw [List.mem_singleton] at hL; subst hL; exact bB) (by simp; omega) (by show 1 ≤ 4611686018427387904; decide)).mono ?_
  rintro e w' ⟨rfl, h2⟩
  exact ⟨by simp, q.trans (h2.mono (by simp))⟩
set_option maxHeartbeats 1000000 in
theorem Leaf_any {wd : Int} {l : List Nat} {v : Value} (W : World) (S : SliceOf u8c W v l) (hv : ∀ b, v.ownBlock = some b → b < W.heap.size) (bl : Bytes l) (hl : l.length ≤ 90000) (D : DoorAt W) :
    Calls Tryd.prog 29 #[.int .i64 wd, v] W fun e w' => e = .returned (.agg (cellsOf' u8c (sumN wd (0 :: l)))) ∧ Below W.heap.size W w' := by
  obtain ⟨Z, hZ⟩ : ∃ Z, W.heap.size = Z := ⟨_, rfl⟩
  have HS := Lib.hid S
  have HZ := Lib.hid hZ
  have HV := Lib.hid hv
  have HD := Lib.hid D
  have hb1 := D.1
  have HBL := Lib.hid bl
  obtain ⟨a, cap, rfl, _⟩ := S
  obtain ⟨X, hX⟩ : ∃ X, sumN wd (0 :: l) = X := ⟨_, rfl⟩
  have lX : X.length = 32 := by rw [← hX]; exact sum_len _ _
  have cX : (cellsOf' u8c X).size = 32 := by rw [co_size, lX]
  have HX := Lib.hid hX
  rw [hX, hZ]
  rw [hZ] at hb1
  clear hX hv D bl
  go_enter Tryd.func29, Tryd.ntmps29
  go_wp2_with fail
  generalize hW1 : World.alloc W _ = w1
  have G1 : w1.heap[Z]? = some (.cells (cellsOf' u8c (List.replicate 32 0)) 23 (0, 0)) := by rw [← hW1, ← hZ, heap_alloc_new]; rfl
  have b1 : Below Z W w1 := by rw [← hW1, ← hZ]; exact (Below.refl _ _).alloc (Nat.le_refl _) _
  have z1 : w1.heap.size = Z + 1 := by rw [← hW1, ← hZ]; simp
  have TX := Lib.hid (LeafText_any w1 (HS.out.below (by rw [HZ.out]; exact b1)) (fun b hb => by have := HV.out b hb; have := HZ.out; omega) (by omega))
  clear hW1 hZ
  refine TX.out.mono ?_
  rintro e w2 ⟨v2, rfl, o2, q2⟩
  have b2 : Below Z W w2 := b1.trans (q2.mono (by omega))
  have G2 := (q2.block Z (by omega)).trans G1
  have z2 : Z + 1 ≤ w2.heap.size := by have := q2.size; omega
  have SU := Lib.hid (sum_one' wd (own_slice_at o2) (fun b hb => (o2.lt b hb).2) (by intro c hc; rcases List.mem_cons.1 hc with rfl | hc; omega; exact HBL.out c hc) (by simp; omega) (HD.out.low hb1 b2))
  rw [HX.out] at SU
  obtain ⟨g2, c2, rfl, _, _, _, _⟩ := own_form3 o2 (by omega)
  clear o2 q2 z1 G1 b1 TX
  go_wp2_with fail
  refine SU.out.mono ?_
  rintro e w3 ⟨rfl, q3⟩
  have G3 := Lib.hid ((q3.block Z (by omega)).trans G2)
  have b3 : Below Z W w3 := b2.trans (q3.mono (by omega))
  clear q3 G2 z2
  go_wp2_with (first | (refine wpList_store_row rfl 23 _ _ rfl Z (cellsOf' u8c X) rfl rfl 23 _ G3.out (by rw [cX]; exact size_32) (by rw [cX]; rfl) (co_one u8c_one) ?_))
  refine bodyPost_ret (results_cell_row rfl _ _ Z 23 _ (0, 0) _ rfl (setRow_heap _ _ _ _ _ _ G3.out) Tryd.underlying23 rfl (by rw [cX]; exact size_32)) rfl ⟨rfl, below_setRow b3 (Nat.le_refl _) _⟩
set_option maxHeartbeats 1000000 in
theorem refLeaf_any {wd : Int} {l : List Nat} {v : Value} (W : World) (S : SliceOf u8c W v l) (bl : Bytes l) (hl : l.length ≤ 90000) :
    Calls Tryd.prog 30 #[.int .i64 wd, v] W fun e w' => e = .returned (.agg (cellsOf' u8c (sumN wd (0 :: l)))) ∧ Below W.heap.size W w' := by
  obtain ⟨Z, hZ⟩ : ∃ Z, W.heap.size = Z := ⟨_, rfl⟩
  have HS := Lib.hid S
  have HZ := Lib.hid hZ
  skip
  skip
  skip
  have HBL := Lib.hid bl
  obtain ⟨a, cap, rfl, _⟩ := S
  obtain ⟨X, hX⟩ : ∃ X, sumN wd (0 :: l) = X := ⟨_, rfl⟩
  have lX : X.length = 32 := by rw [← hX]; exact sum_len _ _
  have cX : (cellsOf' u8c X).size = 32 := by rw [co_size, lX]
  have HX := Lib.hid hX
  rw [hX, hZ]
  skip
  clear hX bl
  go_enter Tryd.func30, Tryd.ntmps30
  go_wp2_with fail
  generalize hW1 : World.alloc W _ = w1
  have G1 : w1.heap[Z]? = some (.cells (cellsOf' u8c (List.replicate 32 0)) 23 (0, 0)) := by rw [← hW1, ← hZ, heap_alloc_new]; rfl
  have b1 : Below Z W w1 := by rw [← hW1, ← hZ]; exact (Below.refl _ _).alloc (Nat.le_refl _) _
  have z1 : w1.heap.size = Z + 1 := by rw [← hW1, ← hZ]; simp
  have TX := Lib.hid (refLeafText_any w1 (HS.out.below (by rw [HZ.out]; exact b1)) (by omega))
  clear hW1 hZ
  refine TX.out.mono ?_
  rintro e w2 ⟨v2, rfl, o2, q2⟩
  have b2 : Below Z W w2 := b1.trans (q2.mono (by omega))
  have G2 := (q2.block Z (by omega)).trans G1
  have z2 : Z + 1 ≤ w2.heap.size := by have := q2.size; omega
  have SU := Lib.hid (refsum_one wd (own_slice_at o2) (fun b hb => (o2.lt b hb).2) (by intro c hc; rcases List.mem_cons.1 hc with rfl | hc; omega; exact HBL.out c hc) (by simp; omega))
  rw [HX.out] at SU
  obtain ⟨g2, c2, rfl, _, _, _, _⟩ := own_form3 o2 (by omega)
  clear o2 q2 z1 G1 b1 TX
  go_wp2_with fail
  refine SU.out.mono ?_
  rintro e w3 ⟨rfl, q3⟩
  have G3 := Lib.hid ((q3.block Z (by omega)).trans G2)
  have b3 : Below Z W w3 := b2.trans (q3.mono (by omega))
  clear q3 G2 z2
  go_wp2_with (first | (refine wpList_store_row rfl 23 _ _ rfl Z (cellsOf' u8c X) rfl rfl 23 _ G3.out (by rw [cX]; exact size_32) (by rw [cX]; rfl) (co_one u8c_one) ?_))
  refine bodyPost_ret (results_cell_row rfl _ _ Z 23 _ (0, 0) _ rfl (setRow_heap _ _ _ _ _ _ G3.out) Tryd.underlying23 rfl (by rw [cX]; exact size_32)) rfl ⟨rfl, below_setRow b3 (Nat.le_refl _) _⟩
set_option maxRecDepth 4000 in
set_option maxHeartbeats 1000000 in
theorem Node_any {wd : Int} {l r : List Nat} (hl : l.length = 32) (hr : r.length = 32) (bl : Bytes l) (br : Bytes r) (W : World) (D : DoorAt W) :
    Calls Tryd.prog 31 #[.int .i64 wd, .agg (cellsOf' u8c l), .agg (cellsOf' u8c r)] W fun e w' => e = .returned (.agg (cellsOf' u8c (sumN wd (1 :: (l ++ r))))) ∧ Below W.heap.size W w' := by
  obtain ⟨X, hX⟩ : ∃ X, sumN wd (1 :: (l ++ r)) = X := ⟨_, rfl⟩
  have lX : X.length = 32 := by rw [← hX]; exact sum_len _ _
  have cX : (cellsOf' u8c X).size = 32 := by rw [co_size, lX]
  have cL : (cellsOf' u8c l).size = 32 := by rw [co_size, hl]
  have cR : (cellsOf' u8c r).size = 32 := by rw [co_size, hr]
  have HX := Lib.hid hX
  have HD := Lib.hid D
  have hb1 := D.1
  have HLB := Lib.hid (And.intro hl (And.intro hr (And.intro bl br)))
  rw [hX]
  clear hX bl br hl hr D
  go_enter Tryd.func31, Tryd.ntmps31
  go_wp2_with (first
    | (refine wpList_load_row rfl 23 (.tmp 4) rfl W.heap.size rfl 23 (cellsOf' u8c l) (0, 0) _ ?hg Tryd.underlying23 rfl (by rw [cL]; exact size_32) ?_; case hg => (rw [Below.heap_alloc _ _ _ (by simp; omega), Below.heap_alloc _ _ _ (by simp), heap_alloc_new]))
    | (refine wpList_load_row rfl 23 (.tmp 5) rfl (W.heap.size + 1) rfl 23 (cellsOf' u8c r) (0, 0) _ ?hg Tryd.underlying23 rfl (by rw [cR]; exact size_32) ?_; case hg => (rw [Below.heap_alloc _ _ _ (by simp), show W.heap.size + 1 = (W.alloc (.cells (cellsOf' u8c l) 23 (0, 0))).heap.size by simp, heap_alloc_new])))
  generalize hW1 : World.alloc (World.alloc (World.alloc W _) _) _ = w1
  have G1 : w1.heap[(W.heap.size + 1 + 1)]? = some (.cells (cellsOf' u8c (List.replicate 32 0)) 23 (0, 0)) := by
    have e : ((W.alloc (.cells (cellsOf' u8c l) 23 (0, 0))).alloc (.cells (cellsOf' u8c r) 23 (0, 0))).heap.size = W.heap.size + 1 + 1 := by simp
    rw [← hW1, ← e, heap_alloc_new]
    rfl
  have b1 : Below W.heap.size W w1 := by rw [← hW1]; exact (((Below.refl _ _).alloc (Nat.le_refl _) _).alloc (by simp) _).alloc (by simp; omega) _
  have z1 : w1.heap.size = W.heap.size + 3 := by rw [← hW1]; simp
  have HZ1 := Lib.hid z1
  have TX := Lib.hid (NodeText_any HLB.out.1 HLB.out.2.1 w1)
  obtain ⟨Z, hZ⟩ : ∃ Z, (W.heap.size + 1 + 1) = Z := ⟨_, rfl⟩
  have HZ := Lib.hid hZ
  rw [hZ] at G1 ⊢
  clear hW1 z1 hZ
  refine TX.out.mono ?_
  rintro e w2 ⟨v2, rfl, o2, q2⟩
  have b2 : Below W.heap.size W w2 := b1.trans (q2.mono (by have := HZ1.out; omega))
  have zz1 : Z < w1.heap.size := by have := HZ1.out; have := HZ.out; omega
  have G2 := (q2.block Z zz1).trans G1
  have zz2 : Z < w2.heap.size := Nat.lt_of_lt_of_le zz1 q2.size
  have SU := Lib.hid (sum_one' wd (own_slice_at o2) (fun b hb => (o2.lt b hb).2) (by intro c hc; rcases List.mem_cons.1 hc with rfl | hc; omega; rcases List.mem_append.1 hc with hc | hc; exact HLB.out.2.2.1 c hc; exact HLB.out.2.2.2 c hc) (by simp [HLB.out.1, HLB.out.2.1]) (HD.out.low hb1 b2))
  rw [HX.out] at SU
  obtain ⟨g2, c2, rfl, _, _, _, _⟩ := own_form3 o2 (by omega)
  have zw : W.heap.size ≤ w2.heap.size := b2.size
  clear o2 q2 G1 b1 TX
  go_wp2_with fail
  refine SU.out.mono ?_
  rintro e w3 ⟨rfl, q3⟩
  have G3 := Lib.hid ((q3.block Z zz2).trans G2)
  have b3 : Below W.heap.size W w3 := b2.trans (q3.mono zw)
  clear q3 G2
  go_wp2_with (first | (refine wpList_store_row rfl 23 _ _ rfl Z (cellsOf' u8c X) rfl rfl 23 _ G3.out (by rw [cX]; exact size_32) (by rw [cX]; rfl) (co_one u8c_one) ?_))
  refine bodyPost_ret (results_cell_row rfl _ _ Z 23 _ (0, 0) _ rfl (setRow_heap _ _ _ _ _ _ G3.out) Tryd.underlying23 rfl (by rw [cX]; exact size_32)) rfl ⟨rfl, below_setRow b3 (by have := HZ.out; omega) _⟩
set_option maxRecDepth 4000 in
set_option maxHeartbeats 1000000 in
theorem refNode_any {wd : Int} {l r : List Nat} (hl : l.length = 32) (hr : r.length = 32) (bl : Bytes l) (br : Bytes r) (W : World) :
    Calls Tryd.prog 32 #[.int .i64 wd, .agg (cellsOf' u8c l), .agg (cellsOf' u8c r)] W fun e w' => e = .returned (.agg (cellsOf' u8c (sumN wd (1 :: (l ++ r))))) ∧ Below W.heap.size W w' := by
  obtain ⟨X, hX⟩ : ∃ X, sumN wd (1 :: (l ++ r)) = X := ⟨_, rfl⟩
  have lX : X.length = 32 := by rw [← hX]; exact sum_len _ _
  have cX : (cellsOf' u8c X).size = 32 := by rw [co_size, lX]
  have cL : (cellsOf' u8c l).size = 32 := by rw [co_size, hl]
  have cR : (cellsOf' u8c r).size = 32 := by rw [co_size, hr]
  have HX := Lib.hid hX
  skip
  skip
  have HLB := Lib.hid (And.intro hl (And.intro hr (And.intro bl br)))
  rw [hX]
  clear hX bl br hl hr
  go_enter Tryd.func32, Tryd.ntmps32
  go_wp2_with (first
    | (refine wpList_load_row rfl 23 (.tmp 4) rfl W.heap.size rfl 23 (cellsOf' u8c l) (0, 0) _ ?hg Tryd.underlying23 rfl (by rw [cL]; exact size_32) ?_; case hg => (rw [Below.heap_alloc _ _ _ (by simp; omega), Below.heap_alloc _ _ _ (by simp), heap_alloc_new]))
    | (refine wpList_load_row rfl 23 (.tmp 5) rfl (W.heap.size + 1) rfl 23 (cellsOf' u8c r) (0, 0) _ ?hg Tryd.underlying23 rfl (by rw [cR]; exact size_32) ?_; case hg => (rw [Below.heap_alloc _ _ _ (by simp), show W.heap.size + 1 = (W.alloc (.cells (cellsOf' u8c l) 23 (0, 0))).heap.size by simp, heap_alloc_new])))
  generalize hW1 : World.alloc (World.alloc (World.alloc W _) _) _ = w1
  have G1 : w1.heap[(W.heap.size + 1 + 1)]? = some (.cells (cellsOf' u8c (List.replicate 32 0)) 23 (0, 0)) := by
    have e : ((W.alloc (.cells (cellsOf' u8c l) 23 (0, 0))).alloc (.cells (cellsOf' u8c r) 23 (0, 0))).heap.size = W.heap.size + 1 + 1 := by simp
    rw [← hW1, ← e, heap_alloc_new]
    rfl
  have b1 : Below W.heap.size W w1 := by rw [← hW1]; exact (((Below.refl _ _).alloc (Nat.le_refl _) _).alloc (by simp) _).alloc (by simp; omega) _
  have z1 : w1.heap.size = W.heap.size + 3 := by rw [← hW1]; simp
  have HZ1 := Lib.hid z1
  have TX := Lib.hid (refNodeText_any HLB.out.1 HLB.out.2.1 w1)
  obtain ⟨Z, hZ⟩ : ∃ Z, (W.heap.size + 1 + 1) = Z := ⟨_, rfl⟩
  have HZ := Lib.hid hZ
  rw [hZ] at G1 ⊢
  clear hW1 z1 hZ
  refine TX.out.mono ?_
  rintro e w2 ⟨v2, rfl, o2, q2⟩
  have b2 : Below W.heap.size W w2 := b1.trans (q2.mono (by have := HZ1.out; omega))
  have zz1 : Z < w1.heap.size := by have := HZ1.out; have := HZ.out; omega
  have G2 := (q2.block Z zz1).trans G1
  have zz2 : Z < w2.heap.size := Nat.lt_of_lt_of_le zz1 q2.size
  have SU := Lib.hid (refsum_one wd (own_slice_at o2) (fun b hb => (o2.lt b hb).2) (by intro c hc; rcases List.mem_cons.1 hc with rfl | hc; omega; rcases List.mem_append.1 hc with hc | hc; exact HLB.out.2.2.1 c hc; exact HLB.out.2.2.2 c hc) (by simp [HLB.out.1, HLB.out.2.1]))
  rw [HX.out] at SU
  obtain ⟨g2, c2, rfl, _, _, _, _⟩ := own_form3 o2 (by omega)
  have zw : W.heap.size ≤ w2.heap.size := b2.size
  clear o2 q2 G1 b1 TX
  go_wp2_with fail
  refine SU.out.mono ?_
  rintro e w3 ⟨rfl, q3⟩
  have G3 := Lib.hid ((q3.block Z zz2).trans G2)
  have b3 : Below W.heap.size W w3 := b2.trans (q3.mono zw)
  clear q3 G2
  go_wp2_with (first | (refine wpList_store_row rfl 23 _ _ rfl Z (cellsOf' u8c X) rfl rfl 23 _ G3.out (by rw [cX]; exact size_32) (by rw [cX]; rfl) (co_one u8c_one) ?_))
  refine bodyPost_ret (results_cell_row rfl _ _ Z 23 _ (0, 0) _ rfl (setRow_heap _ _ _ _ _ _ G3.out) Tryd.underlying23 rfl (by rw [cX]; exact size_32)) rfl ⟨rfl, below_setRow b3 (by have := HZ.out; omega) _⟩
set_option maxRecDepth 4000 in
set_option maxHeartbeats 1000000 in
theorem Fold_any {wd : Int} {l r : List Nat} (hl : l.length = 32) (hr : r.length = 32) (bl : Bytes l) (br : Bytes r) (W : World) (D : DoorAt W) :
    Calls Tryd.prog 33 #[.int .i64 wd, .agg (cellsOf' u8c l), .agg (cellsOf' u8c r)] W fun e w' => e = .returned (.agg (cellsOf' u8c (sumN wd (2 :: (l ++ r))))) ∧ Below W.heap.size W w' := by
  obtain ⟨X, hX⟩ : ∃ X, sumN wd (2 :: (l ++ r)) = X := ⟨_, rfl⟩
  have lX : X.length = 32 := by rw [← hX]; exact sum_len _ _
  have cX : (cellsOf' u8c X).size = 32 := by rw [co_size, lX]
  have cL : (cellsOf' u8c l).size = 32 := by rw [co_size, hl]
  have cR : (cellsOf' u8c r).size = 32 := by rw [co_size, hr]
  have HX := Lib.hid hX
  have HD := Lib.hid D
  have hb1 := D.1
  have HLB := Lib.hid (And.intro hl (And.intro hr (And.intro bl br)))
  rw [hX]
  clear hX bl br hl hr D
  go_enter Tryd.func33, Tryd.ntmps33
  go_wp2_with (first
    | (refine wpList_load_row rfl 23 (.tmp 4) rfl W.heap.size rfl 23 (cellsOf' u8c l) (0, 0) _ ?hg Tryd.underlying23 rfl (by rw [cL]; exact size_32) ?_; case hg => (rw [Below.heap_alloc _ _ _ (by simp; omega), Below.heap_alloc _ _ _ (by simp), heap_alloc_new]))
    | (refine wpList_load_row rfl 23 (.tmp 5) rfl (W.heap.size + 1) rfl 23 (cellsOf' u8c r) (0, 0) _ ?hg Tryd.underlying23 rfl (by rw [cR]; exact size_32) ?_; case hg => (rw [Below.heap_alloc _ _ _ (by simp), show W.heap.size + 1 = (W.alloc (.cells (cellsOf' u8c l) 23 (0, 0))).heap.size by simp, heap_alloc_new])))
  generalize hW1 : World.alloc (World.alloc (World.alloc W _) _) _ = w1
  have G1 : w1.heap[(W.heap.size + 1 + 1)]? = some (.cells (cellsOf' u8c (List.replicate 32 0)) 23 (0, 0)) := by
    have e : ((W.alloc (.cells (cellsOf' u8c l) 23 (0, 0))).alloc (.cells (cellsOf' u8c r) 23 (0, 0))).heap.size = W.heap.size + 1 + 1 := by simp
    rw [← hW1, ← e, heap_alloc_new]
    rfl
  have b1 : Below W.heap.size W w1 := by rw [← hW1]; exact (((Below.refl _ _).alloc (Nat.le_refl _) _).alloc (by simp) _).alloc (by simp; omega) _
  have z1 : w1.heap.size = W.heap.size + 3 := by rw [← hW1]; simp
  have HZ1 := Lib.hid z1
  have TX := Lib.hid (FoldText_any HLB.out.1 HLB.out.2.1 w1)
  obtain ⟨Z, hZ⟩ : ∃ Z, (W.heap.size + 1 + 1) = Z := ⟨_, rfl⟩
  have HZ := Lib.hid hZ
  rw [hZ] at G1 ⊢
  clear hW1 z1 hZ
  refine TX.out.mono ?_
  rintro e w2 ⟨v2, rfl, o2, q2⟩
  have b2 : Below W.heap.size W w2 := b1.trans (q2.mono (by have := HZ1.out; omega))
  have zz1 : Z < w1.heap.size := by have := HZ1.out; have := HZ.out; omega
  have G2 := (q2.block Z zz1).trans G1
  have zz2 : Z < w2.heap.size := Nat.lt_of_lt_of_le zz1 q2.size
  have SU := Lib.hid (sum_one' wd (own_slice_at o2) (fun b hb => (o2.lt b hb).2) (by intro c hc; rcases List.mem_cons.1 hc with rfl | hc; omega; rcases List.mem_append.1 hc with hc | hc; exact HLB.out.2.2.1 c hc; exact HLB.out.2.2.2 c hc) (by simp [HLB.out.1, HLB.out.2.1]) (HD.out.low hb1 b2))
  rw [HX.out] at SU
  obtain ⟨g2, c2, rfl, _, _, _, _⟩ := own_form3 o2 (by omega)
  have zw : W.heap.size ≤ w2.heap.size := b2.size
  clear o2 q2 G1 b1 TX
  go_wp2_with fail
  refine SU.out.mono ?_
  rintro e w3 ⟨rfl, q3⟩
  have G3 := Lib.hid ((q3.block Z zz2).trans G2)
  have b3 : Below W.heap.size W w3 := b2.trans (q3.mono zw)
  clear q3 G2
  go_wp2_with (first | (refine wpList_store_row rfl 23 _ _ rfl Z (cellsOf' u8c X) rfl rfl 23 _ G3.out (by rw [cX]; exact size_32) (by rw [cX]; rfl) (co_one u8c_one) ?_))
  refine bodyPost_ret (results_cell_row rfl _ _ Z 23 _ (0, 0) _ rfl (setRow_heap _ _ _ _ _ _ G3.out) Tryd.underlying23 rfl (by rw [cX]; exact size_32)) rfl ⟨rfl, below_setRow b3 (by have := HZ.out; omega) _⟩
set_option maxRecDepth 4000 in
set_option maxHeartbeats 1000000 in
theorem refFold_any {wd : Int} {l r : List Nat} (hl : l.length = 32) (hr : r.length = 32) (bl : Bytes l) (br : Bytes r) (W : World) :
    Calls Tryd.prog 34 #[.int .i64 wd, .agg (cellsOf' u8c l), .agg (cellsOf' u8c r)] W fun e w' => e = .returned (.agg (cellsOf' u8c (sumN wd (2 :: (l ++ r))))) ∧ Below W.heap.size W w' := by
  obtain ⟨X, hX⟩ : ∃ X, sumN wd (2 :: (l ++ r)) = X := ⟨_, rfl⟩
  have lX : X.length = 32 := by rw [← hX]; exact sum_len _ _
  have cX : (cellsOf' u8c X).size = 32 := by rw [co_size, lX]
  have cL : (cellsOf' u8c l).size = 32 := by rw [co_size, hl]
  have cR : (cellsOf' u8c r).size = 32 := by rw [co_size, hr]
  have HX := Lib.hid hX
  skip
  skip
  have HLB := Lib.hid (And.intro hl (And.intro hr (And.intro bl br)))
  rw [hX]
  clear hX bl br hl hr
  go_enter Tryd.func34, Tryd.ntmps34
  go_wp2_with (first
    | (refine wpList_load_row rfl 23 (.tmp 4) rfl W.heap.size rfl 23 (cellsOf' u8c l) (0, 0) _ ?hg Tryd.underlying23 rfl (by rw [cL]; exact size_32) ?_; case hg => (rw [Below.heap_alloc _ _ _ (by simp; omega), Below.heap_alloc _ _ _ (by simp), heap_alloc_new]))
    | (refine wpList_load_row rfl 23 (.tmp 5) rfl (W.heap.size + 1) rfl 23 (cellsOf' u8c r) (0, 0) _ ?hg Tryd.underlying23 rfl (by rw [cR]; exact size_32) ?_; case hg => (rw [Below.heap_alloc _ _ _ (by simp), show W.heap.size + 1 = (W.alloc (.cells (cellsOf' u8c l) 23 (0, 0))).heap.size by simp, heap_alloc_new])))
  generalize hW1 : World.alloc (World.alloc (World.alloc W _) _) _ = w1
  have G1 : w1.heap[(W.heap.size + 1 + 1)]? = some (.cells (cellsOf' u8c (List.replicate 32 0)) 23 (0, 0)) := by
    have e : ((W.alloc (.cells (cellsOf' u8c l) 23 (0, 0))).alloc (.cells (cellsOf' u8c r) 23 (0, 0))).heap.size = W.heap.size + 1 + 1 := by simp
    rw [← hW1, ← e, heap_alloc_new]
    rfl
  have b1 : Below W.heap.size W w1 := by rw [← hW1]; exact (((Below.refl _ _).alloc (Nat.le_refl _) _).alloc (by simp) _).alloc (by simp; omega) _
  have z1 : w1.heap.size = W.heap.size + 3 := by rw [← hW1]; simp
  have HZ1 := Lib.hid z1
  have TX := Lib.hid (refFoldText_any HLB.out.1 HLB.out.2.1 w1)
  obtain ⟨Z, hZ⟩ : ∃ Z, (W.heap.size + 1 + 1) = Z := ⟨_, rfl⟩
  have HZ := Lib.hid hZ
  rw [hZ] at G1 ⊢
  clear hW1 z1 hZ
  refine TX.out.mono ?_
  rintro e w2 ⟨v2, rfl, o2, q2⟩
  have b2 : Below W.heap.size W w2 := b1.trans (q2.mono (by have := HZ1.out; omega))
  have zz1 : Z < w1.heap.size := by have := HZ1.out; have := HZ.out; omega
  have G2 := (q2.block Z zz1).trans G1
  have zz2 : Z < w2.heap.size := Nat.lt_of_lt_of_le zz1 q2.size
  have SU := Lib.hid (refsum_one wd (own_slice_at o2) (fun b hb => (o2.lt b hb).2) (by intro c hc; rcases List.mem_cons.1 hc with rfl | hc; omega; rcases List.mem_append.1 hc with hc | hc; exact HLB.out.2.2.1 c hc; exact HLB.out.2.2.2 c hc) (by simp [HLB.out.1, HLB.out.2.1]))
  rw [HX.out] at SU
  obtain ⟨g2, c2, rfl, _, _, _, _⟩ := own_form3 o2 (by omega)
  have zw : W.heap.size ≤ w2.heap.size := b2.size
  clear o2 q2 G1 b1 TX
  go_wp2_with fail
  refine SU.out.mono ?_
  rintro e w3 ⟨rfl, q3⟩
  have G3 := Lib.hid ((q3.block Z zz2).trans G2)
  have b3 : Below W.heap.size W w3 := b2.trans (q3.mono zw)
  clear q3 G2
  go_wp2_with (first | (refine wpList_store_row rfl 23 _ _ rfl Z (cellsOf' u8c X) rfl rfl 23 _ G3.out (by rw [cX]; exact size_32) (by rw [cX]; rfl) (co_one u8c_one) ?_))
  refine bodyPost_ret (results_cell_row rfl _ _ Z 23 _ (0, 0) _ rfl (setRow_heap _ _ _ _ _ _ G3.out) Tryd.underlying23 rfl (by rw [cX]; exact size_32)) rfl ⟨rfl, below_setRow b3 (by have := HZ.out; omega) _⟩
set_option maxRecDepth 4000 in
set_option maxHeartbeats 1000000 in
theorem Root_any {wd : Int} {n : Nat} {l : List Nat} (hn : n < 18446744073709551616) (hl : l.length = 32) (bl : Bytes l) (W : World) (D : DoorAt W) :
    Calls Tryd.prog 35 #[.int .i64 wd, .int .u64 (n : Int), .agg (cellsOf' u8c l)] W fun e w' => e = .returned (.agg (cellsOf' u8c (sumN wd (3 :: (bigL n 8 ++ l))))) ∧ Below W.heap.size W w' := by
  obtain ⟨X, hX⟩ : ∃ X, sumN wd (3 :: (bigL n 8 ++ l)) = X := ⟨_, rfl⟩
  have lX : X.length = 32 := by rw [← hX]; exact sum_len _ _
  have cX : (cellsOf' u8c X).size = 32 := by rw [co_size, lX]
  have cL : (cellsOf' u8c l).size = 32 := by rw [co_size, hl]
  have HX := Lib.hid hX
  have HD := Lib.hid D
  have hb1 := D.1
  have HLB := Lib.hid (And.intro hl (And.intro hn bl))
  rw [hX]
  clear hX bl hl hn D
  go_enter Tryd.func35, Tryd.ntmps35
  go_wp2_with (refine wpList_load_row rfl 23 (.tmp 5) rfl W.heap.size rfl 23 (cellsOf' u8c l) (0, 0) _ ?hg Tryd.underlying23 rfl (by rw [cL]; exact size_32) ?_; case hg => (rw [Below.heap_alloc _ _ _ (by simp), heap_alloc_new]))
  generalize hW1 : World.alloc (World.alloc W _) _ = w1
  have G1 : w1.heap[(W.heap.size + 1)]? = some (.cells (cellsOf' u8c (List.replicate 32 0)) 23 (0, 0)) := by
    have e : (W.alloc (.cells (cellsOf' u8c l) 23 (0, 0))).heap.size = W.heap.size + 1 := by simp
    rw [← hW1, ← e, heap_alloc_new]
    rfl
  have b1 : Below W.heap.size W w1 := by rw [← hW1]; exact ((Below.refl _ _).alloc (Nat.le_refl _) _).alloc (by simp) _
  have z1 : w1.heap.size = W.heap.size + 2 := by rw [← hW1]; simp
  have HZ1 := Lib.hid z1
  have TX := Lib.hid (RootText_any HLB.out.2.1 HLB.out.1 w1)
  obtain ⟨Z, hZ⟩ : ∃ Z, (W.heap.size + 1) = Z := ⟨_, rfl⟩
  have HZ := Lib.hid hZ
  rw [hZ] at G1 ⊢
  clear hW1 z1 hZ
  refine TX.out.mono ?_
  rintro e w2 ⟨v2, rfl, o2, q2⟩
  have b2 : Below W.heap.size W w2 := b1.trans (q2.mono (by have := HZ1.out; omega))
  have zz1 : Z < w1.heap.size := by have := HZ1.out; have := HZ.out; omega
  have G2 := (q2.block Z zz1).trans G1
  have zz2 : Z < w2.heap.size := Nat.lt_of_lt_of_le zz1 q2.size
  have SU := Lib.hid (sum_one' wd (own_slice_at o2) (fun b hb => (o2.lt b hb).2) (by intro c hc; rcases List.mem_cons.1 hc with rfl | hc; omega; rcases List.mem_append.1 hc with hc | hc; exact bigL_bytes _ _ c hc; exact HLB.out.2.2 c hc) (by simp [bigL_length, HLB.out.1]) (HD.out.low hb1 b2))
  rw [HX.out] at SU
  obtain ⟨g2, c2, rfl, _, _, _, _⟩ := own_form3 o2 (by omega)
  have zw : W.heap.size ≤ w2.heap.size := b2.size
  clear o2 q2 G1 b1 TX
  go_wp2_with fail
  refine SU.out.mono ?_
  rintro e w3 ⟨rfl, q3⟩
  have G3 := Lib.hid ((q3.block Z zz2).trans G2)
  have b3 : Below W.heap.size W w3 := b2.trans (q3.mono zw)
  clear q3 G2
  go_wp2_with (first | (refine wpList_store_row rfl 23 _ _ rfl Z (cellsOf' u8c X) rfl rfl 23 _ G3.out (by rw [cX]; exact size_32) (by rw [cX]; rfl) (co_one u8c_one) ?_))
  refine bodyPost_ret (results_cell_row rfl _ _ Z 23 _ (0, 0) _ rfl (setRow_heap _ _ _ _ _ _ G3.out) Tryd.underlying23 rfl (by rw [cX]; exact size_32)) rfl ⟨rfl, below_setRow b3 (by have := HZ.out; omega) _⟩
set_option maxRecDepth 4000 in
set_option maxHeartbeats 1000000 in
theorem refRoot_any {wd : Int} {n : Nat} {l : List Nat} (hn : n < 18446744073709551616) (hl : l.length = 32) (bl : Bytes l) (W : World) :
    Calls Tryd.prog 36 #[.int .i64 wd, .int .u64 (n : Int), .agg (cellsOf' u8c l)] W fun e w' => e = .returned (.agg (cellsOf' u8c (sumN wd (3 :: (bigL n 8 ++ l))))) ∧ Below W.heap.size W w' := by
  obtain ⟨X, hX⟩ : ∃ X, sumN wd (3 :: (bigL n 8 ++ l)) = X := ⟨_, rfl⟩
  have lX : X.length = 32 := by rw [← hX]; exact sum_len _ _
  have cX : (cellsOf' u8c X).size = 32 := by rw [co_size, lX]
  have cL : (cellsOf' u8c l).size = 32 := by rw [co_size, hl]
  have HX := Lib.hid hX
  skip
  skip
  have HLB := Lib.hid (And.intro hl (And.intro hn bl))
  rw [hX]
  clear hX bl hl hn
  go_enter Tryd.func36, Tryd.ntmps36
  go_wp2_with (refine wpList_load_row rfl 23 (.tmp 5) rfl W.heap.size rfl 23 (cellsOf' u8c l) (0, 0) _ ?hg Tryd.underlying23 rfl (by rw [cL]; exact size_32) ?_; case hg => (rw [Below.heap_alloc _ _ _ (by simp), heap_alloc_new]))
  generalize hW1 : World.alloc (World.alloc W _) _ = w1
  have G1 : w1.heap[(W.heap.size + 1)]? = some (.cells (cellsOf' u8c (List.replicate 32 0)) 23 (0, 0)) := by
    have e : (W.alloc (.cells (cellsOf' u8c l) 23 (0, 0))).heap.size = W.heap.size + 1 := by simp
    rw [← hW1, ← e, heap_alloc_new]
    rfl
  have b1 : Below W.heap.size W w1 := by rw [← hW1]; exact ((Below.refl _ _).alloc (Nat.le_refl _) _).alloc (by simp) _
  have z1 : w1.heap.size = W.heap.size + 2 := by rw [← hW1]; simp
  have HZ1 := Lib.hid z1
  have TX := Lib.hid (refRootText_any HLB.out.2.1 HLB.out.1 w1)
  obtain ⟨Z, hZ⟩ : ∃ Z, (W.heap.size + 1) = Z := ⟨_, rfl⟩
  have HZ := Lib.hid hZ
  rw [hZ] at G1 ⊢
  clear hW1 z1 hZ
  refine TX.out.mono ?_
  rintro e w2 ⟨v2, rfl, o2, q2⟩
  have b2 : Below W.heap.size W w2 := b1.trans (q2.mono (by have := HZ1.out; omega))
  have zz1 : Z < w1.heap.size := by have := HZ1.out; have := HZ.out; omega
  have G2 := (q2.block Z zz1).trans G1
  have zz2 : Z < w2.heap.size := Nat.lt_of_lt_of_le zz1 q2.size
  have SU := Lib.hid (refsum_one wd (own_slice_at o2) (fun b hb => (o2.lt b hb).2) (by intro c hc; rcases List.mem_cons.1 hc with rfl | hc; omega; rcases List.mem_append.1 hc with hc | hc; exact bigL_bytes _ _ c hc; exact HLB.out.2.2 c hc) (by simp [bigL_length, HLB.out.1]))
  rw [HX.out] at SU
  obtain ⟨g2, c2, rfl, _, _, _, _⟩ := own_form3 o2 (by omega)
  have zw : W.heap.size ≤ w2.heap.size := b2.size
  clear o2 q2 G1 b1 TX
  go_wp2_with fail
  refine SU.out.mono ?_
  rintro e w3 ⟨rfl, q3⟩
  have G3 := Lib.hid ((q3.block Z zz2).trans G2)
  have b3 : Below W.heap.size W w3 := b2.trans (q3.mono zw)
  clear q3 G2
  go_wp2_with (first | (refine wpList_store_row rfl 23 _ _ rfl Z (cellsOf' u8c X) rfl rfl 23 _ G3.out (by rw [cX]; exact size_32) (by rw [cX]; rfl) (co_one u8c_one) ?_))
  refine bodyPost_ret (results_cell_row rfl _ _ Z 23 _ (0, 0) _ rfl (setRow_heap _ _ _ _ _ _ G3.out) Tryd.underlying23 rfl (by rw [cX]; exact size_32)) rfl ⟨rfl, below_setRow b3 (by have := HZ.out; omega) _⟩
end

section
open Go.RowKit
set_option linter.unusedVariables false

theorem all_any {l : List Nat} {v : Value} {m : Nat} (W : World) (S : SliceOf u8c W v l) (h : ∀ x ∈ l, x = m) :
    Calls Tryd.prog 41 #[v, .int .u8 (m : Int)] W fun e w' => e = .returned (.bool true) ∧ Below W.heap.size W w' := by
  obtain ⟨a, ca, rfl, a1, a2, a3, a4⟩ := S.form
  have m1 : l.length ≤ 9223372036854775807 := by unfold maxLen at a2; omega
  have A3 := Lib.hid a3
  have A4 := Lib.hid a4
  have HA := Lib.hid h
  have b0 : Below W.heap.size W W := Below.refl _ _
  clear a1 a2 a3 a4 S h
  go_enter Tryd.func41, Tryd.ntmps41
  go_wp2
  go_loopw [5] (fun i wr => ∃ k : Nat, k ≤ l.length ∧ i = .int .i64 k ∧ Below W.heap.size W wr ∧ (∀ p x, W.cell? p = some x → wr.cell? p = some x)) (fun i _ => l.length - (intOf i).toNat)
  case atStart => exact ⟨0, by omega, rfl, b0, fun _ _ h => h⟩
  case round =>
    obtain ⟨k, hk, rfl, hbr, hkeep⟩ := hrel
    clear b0
    have KP := Lib.hid hkeep
    have HB := Lib.hid hbr
    clear hkeep hbr
    by_cases hlt : k < l.length
    · obtain ⟨x, hx⟩ : ∃ x, l[k]? = some x := ⟨l[k], List.getElem?_eq_getElem hlt⟩
      obtain ⟨ba, oa, rfl⟩ := A3.out k x hx
      have ca := KP.out _ _ (A4.out ba oa rfl k x hx)
      obtain rfl := HA.out x (List.mem_of_getElem? hx)
      unfold u8c at ca
      have i1 : (k : Int) < (l.length : Int) := by omega
      have i0 : (0 : Int) ≤ (k : Int) := by omega
      clear hx
      go_wp2
      go_roundw
      case rel => exact ⟨k + 1, by omega, by go_num, HB.out, KP.out⟩
      case measure => simp [intOf]; omega
    · obtain rfl : k = l.length := by omega
      go_wp2
      go_ret
      exact ⟨rfl, HB.out⟩
end
end Go.Proofs.YtcifnfffoiiceaaDoor
