/-
  massifref1's Field and Lay.
-/
import Derived.Test.YtlmihaeknmeeiaaRefField
namespace Go.Proofs.Ytlmihaeknmeeiaa
open Go.RowKit
set_option linter.unusedVariables false

/-- Of the first k the bits of y, above them f. -/
def mixTo (y : Nat) (f : Nat → Int) (k : Nat) (i : Nat) : Int := if i < k then bitsF y i else f i
theorem mixTo_at (y : Nat) (f : Nat → Int) (k : Nat) : mixTo y f k k = f k := by unfold mixTo; rw [if_neg (by omega)]
theorem mixTo_set (y : Nat) (f : Nat → Int) (k : Nat) (v : Int) (hv : v = bitsF y k) : (fun i => if i = k then v else mixTo y f k i) = mixTo y f (k + 1) := by
  funext i
  unfold mixTo
  by_cases h : i = k
  · subst h; simp [hv]
  · by_cases h2 : i < k
    · simp [h, h2, show i < k + 1 by omega]
    · simp [h, h2, show ¬ i < k + 1 by omega]
theorem mixTo_skip {y : Nat} {f : Nat → Int} {k : Nat} (h : f k = bitsF y k) : mixTo y f k = mixTo y f (k + 1) := by
  funext i
  unfold mixTo
  by_cases hi : i < k
  · rw [if_pos hi, if_pos (by omega)]
  · by_cases he : i = k
    · subst he; rw [if_neg hi, if_pos (by omega), h]
    · rw [if_neg hi, if_neg (by omega)]
theorem mixTo_full (y : Nat) (f : Nat → Int) : arr64 (mixTo y f 64) = arr64 (bitsF y) := arr64_congr fun i hi => by unfold mixTo; rw [if_pos hi]
theorem mixTo_none (y : Nat) (f : Nat → Int) : arr64 (mixTo y f 0) = arr64 f := arr64_congr fun i hi => by unfold mixTo; rw [if_neg (by omega)]

theorem heap_at {w : World} {o : Obj} {i : Nat} {x : Option Obj} (hlt : i < w.heap.size) (h : w.heap[i]? = x) : (w.alloc o).heap[i]? = x := by
  rw [Below.heap_alloc _ _ _ hlt, h]
/-- Three new blocks, then filled. -/
theorem three_rows {B0 : Nat} {w w6 w7 : World} {A B C c0 c1 c2 : Array Value} {t : TypeId} (hb : Below B0 w w6) (hB : B0 ≤ w6.heap.size)
    (h : ((((((w6.alloc (.cells A t (0, 0))).alloc (.cells B t (0, 0))).alloc (.cells C t (0, 0))).setRow w6.heap.size c0).setRow (w6.heap.size + 1) c1).setRow (w6.heap.size + 1 + 1) c2) = w7) :
    w7.heap[w6.heap.size]? = some (.cells c0 t (0, 0)) ∧ w7.heap[w6.heap.size + 1]? = some (.cells c1 t (0, 0)) ∧ w7.heap[w6.heap.size + 1 + 1]? = some (.cells c2 t (0, 0)) ∧ Below B0 w w7 := by
  subst h
  have z0 : (((w6.alloc (.cells A t (0, 0))).alloc (.cells B t (0, 0))).alloc (.cells C t (0, 0))).heap[w6.heap.size]? = some (.cells A t (0, 0)) := heap_at (by simp; omega) (heap_alloc2_old _ _ _)
  have z1 : (((w6.alloc (.cells A t (0, 0))).alloc (.cells B t (0, 0))).alloc (.cells C t (0, 0))).heap[w6.heap.size + 1]? = some (.cells B t (0, 0)) := by
    have e : (w6.alloc (.cells A t (0, 0))).heap.size = w6.heap.size + 1 := by simp
    rw [← e, heap_alloc2_old]
  have z2 : (((w6.alloc (.cells A t (0, 0))).alloc (.cells B t (0, 0))).alloc (.cells C t (0, 0))).heap[w6.heap.size + 1 + 1]? = some (.cells C t (0, 0)) := by
    have e : (w6.alloc (.cells A t (0, 0))).heap.size + 1 = w6.heap.size + 1 + 1 := by simp
    rw [← e, heap_alloc2_new]
  refine ⟨?_, ?_, ?_, ?_⟩
  · rw [setRow_other _ _ _ _ (by omega), setRow_other _ _ _ _ (by omega)]; exact setRow_heap _ _ _ _ _ _ z0
  · rw [setRow_other _ _ _ _ (by omega)]; exact setRow_heap _ _ _ _ _ _ (by rw [setRow_other _ _ _ _ (by omega)]; exact z1)
  · exact setRow_heap _ _ _ _ _ _ (by rw [setRow_other _ _ _ _ (by omega), setRow_other _ _ _ _ (by omega)]; exact z2)
  · exact below_setRow (below_setRow (below_setRow (((hb.alloc hB _).alloc (by simp; omega) _).alloc (by simp; omega) _) (by omega) _) (by omega) _) (by omega) _
theorem old0 {w6 : World} {A B C : Array Value} {t : TypeId} : (((w6.alloc (.cells A t (0, 0))).alloc (.cells B t (0, 0))).alloc (.cells C t (0, 0))).heap[w6.heap.size]? = some (.cells A t (0, 0)) :=
  heap_at (by simp; omega) (heap_alloc2_old _ _ _)
theorem old1 {w6 : World} {A B C c0 : Array Value} {t : TypeId} : ((((w6.alloc (.cells A t (0, 0))).alloc (.cells B t (0, 0))).alloc (.cells C t (0, 0))).setRow w6.heap.size c0).heap[w6.heap.size + 1]? = some (.cells B t (0, 0)) := by
  have e : (w6.alloc (.cells A t (0, 0))).heap.size = w6.heap.size + 1 := by simp
  rw [setRow_other _ _ _ _ (by omega), ← e, heap_alloc2_old]
theorem old2 {w6 : World} {A B C c0 c1 : Array Value} {t : TypeId} : (((((w6.alloc (.cells A t (0, 0))).alloc (.cells B t (0, 0))).alloc (.cells C t (0, 0))).setRow w6.heap.size c0).setRow (w6.heap.size + 1) c1).heap[w6.heap.size + 1 + 1]? = some (.cells C t (0, 0)) := by
  have e : (w6.alloc (.cells A t (0, 0))).heap.size + 1 = w6.heap.size + 1 + 1 := by simp
  rw [setRow_other _ _ _ _ (by omega), setRow_other _ _ _ _ (by omega), ← e, heap_alloc2_new]

theorem store_arr {ops : Array Oper} {rest : List Oper} {o : Oper} {a : Act} {w : World} {Q : Exit → Act → World → Prop} (x y : Operand) (g : Nat) (f : Nat → Int)
    (hgd : o.guard = none) (ho : o.op = .store 50 x y) (hx : a.eval x = .pointer (some ⟨g, 0, none⟩)) (hy : a.eval y = .agg (arr64 f))
    (hg : ∃ old t, w.heap[g]? = some (.cells old t (0, 0)) ∧ old.size = 64)
    (h : wpList Try.prog ops Q rest (a.put o.dst undef) (w.setRow g (arr64 f))) : wpList Try.prog ops Q (o :: rest) a w :=
  let ⟨old, t, hg, hold⟩ := hg
  wpList_store_row hgd 50 x y ho g (arr64 f) hx hy t old hg (size64 _) (by rw [hold, arr64_size]) (arr64_one _) h

theorem bit_field (x : Nat) (a n : Int) (i : Nat) : bitsF (shrN x a) i * bitsF (maskN n) i = bitsF (fieldN x a n) i := by
  unfold bitsF fieldN
  rw [Nat.testBit_and]
  cases (shrN x a).testBit i <;> cases (maskN n).testBit i <;> rfl

set_option maxHeartbeats 1000000 in
theorem refField_any {x : Nat} (hx : x < 18446744073709551616) (a n : Int) (w : World) :
    Calls Try.prog 24 #[.int .u64 x, .int .i64 a, .int .i64 n] w fun e w' => e = .returned (.int .u64 (fieldN x a n)) ∧ Below w.heap.size w w' := by
  have l1 := shrN_lt a hx
  have l2 := maskN_lt n
  go_enter Try.func24, Try.ntmps24
  go_wp2_with fail
  refine (refShr_any hx a _).mono ?_
  rintro e w1 ⟨rfl, hb1⟩
  go_wp2_with fail
  refine (row_any _ l1 _).mono ?_
  rintro e w2 ⟨rfl, hb2⟩
  go_wp2_with fail
  refine (refMask_any n _).mono ?_
  rintro e w3 ⟨rfl, hb3⟩
  go_wp2_with fail
  refine (row_any _ l2 _).mono ?_
  rintro e w4 ⟨rfl, hb4⟩
  have hb : Below w.heap.size w w4 := hb1.trans ((hb2.mono hb1.size).trans ((hb3.mono (Nat.le_trans hb1.size hb2.size)).trans (hb4.mono (Nat.le_trans hb1.size (Nat.le_trans hb2.size hb3.size)))))
  clear hb1 hb2 hb3 hb4
  go_wp2_with (first | (refine wpList_store_row rfl 50 (.tmp 7) (.tmp 13) rfl w4.heap.size _ rfl rfl 50 _ (heap_alloc2_old _ _ _) (size64 _) rfl (arr64_one _) ?_) | (refine wpList_store_row rfl 50 (.tmp 8) (.tmp 16) rfl (w4.heap.size + 1) _ rfl rfl 50 _ (by rw [setRow_other _ _ _ _ (by omega)]; exact heap_alloc2_new _ _ _) (size64 _) (by exact (arr64_size _).symm) (arr64_one _) ?_))
  generalize hW : World.setRow (World.setRow _ _ _) _ _ = w5
  have g0 : w5.heap[w4.heap.size]? = some (.cells (arr64 (bitsF (shrN x a))) 50 (0, 0)) := by
    rw [← hW, setRow_other _ _ _ _ (by omega)]; exact setRow_heap _ _ _ _ _ _ (heap_alloc2_old _ _ _)
  have g1 : w5.heap[w4.heap.size + 1]? = some (.cells (arr64 (bitsF (maskN n))) 50 (0, 0)) := by
    rw [← hW]; exact setRow_heap _ _ _ _ _ _ (by rw [setRow_other _ _ _ _ (by omega)]; exact heap_alloc2_new _ _ _)
  have hb5 : Below w.heap.size w w5 := by
    rw [← hW]
    have := hb.size
    exact below_setRow (below_setRow ((hb.alloc hb.size _).alloc (by simp; omega) _) (by omega) _) (by omega) _
  clear hW
  have hB := hb.size
  clear hb
  generalize w4.heap.size = b at *
  have l := fieldN_lt a n hx
  have S := Lib.hid (bit_field x a n)
  rw [← mixTo_none (fieldN x a n)] at g0
  go_loopw [9] (fun i wr => ∃ k : Nat, k ≤ 64 ∧ i = .int .i64 k ∧ wr.heap[b]? = some (.cells (arr64 (mixTo (fieldN x a n) (bitsF (shrN x a)) k)) 50 (0, 0)) ∧ wr.heap[b + 1]? = some (.cells (arr64 (bitsF (maskN n))) 50 (0, 0)) ∧ Below w.heap.size w wr) (fun i _ => 64 - (intOf i).toNat)
  case atStart => exact ⟨0, by omega, rfl, g0, g1, hb5⟩
  case round =>
    obtain ⟨k, hk, rfl, G0, G1, hbr⟩ := hrel
    clear g0 g1 hb5
    by_cases hlt : k < 64
    · have hc := row_cell G0 hlt
      have hf := row_free (k := k) G0
      have hm := row_cell G1 hlt
      rw [mixTo_at] at hc
      have HG0 := Lib.hid G0
      have HG1 := Lib.hid G1
      have hs := S.out k
      have HS := Lib.hid hs
      have p0 := bitsF_lo (shrN x a) k
      have p1 := bitsF_hi (shrN x a) k
      have p2 := bitsF_lo (maskN n) k
      have p3 := bitsF_hi (maskN n) k
      clear G0 G1 hs
      generalize bitsF (shrN x a) k = u at *
      generalize bitsF (maskN n) k = v at *
      have hp : 0 ≤ u * v ∧ u * v ≤ 1 := by
        have hu : u = 0 ∨ u = 1 := by omega
        rcases hu with rfl | rfl
        · simp
        · simp; omega
      obtain ⟨hp0, hp1⟩ := hp
      generalize huv : u * v = uv at *
      go_wp2_with fail
      go_region
      go_wp2
      go_roundw
      case rel => exact ⟨k + 1, by omega, by go_num, by show ((wr.setCell _ _).heap[b]?) = _; rw [row_store HG0.out, mixTo_set _ _ _ _ HS.out], row_keep HG1.out (by omega) _, (hbr.setCell (by simp; omega) _).drew⟩
      case measure => simp [intOf]; omega
    · obtain rfl : k = 64 := by omega
      rw [mixTo_full] at G0
      have HG0 := Lib.hid G0
      clear G0 G1
      go_wp2_with (first | (refine wpList_load_row rfl 50 _ rfl b rfl 50 _ (0, 0) _ HG0.out Try.underlying50 rfl (size64 _) ?_) | (go_at_call 48; refine (number_any _ l _).mono ?_; rintro e w6 ⟨rfl, hb6⟩))
      go_ret
      exact ⟨rfl, hbr.trans (hb6.mono hbr.size)⟩

theorem bit_lay {x y : Nat} {a n : Int} {i : Nat} (hi : i < 64) :
    bitsF (layN x a n y) i = if bitsF (shlN (maskN n) a) i = 1 then bitsF (shlN y a) i else bitsF x i := by
  unfold bitsF
  rw [tb_layN _ _ hi, tb_mask_at _ _ hi, tb_shlN _ hi]
  by_cases h : 0 ≤ (i : Int) - a ∧ (i : Int) - a < 64 ∧ (i : Int) - a < n
  · rw [if_pos h, if_pos (by rw [decide_eq_true h]; rfl)]
    simp only [h.1, decide_true, Bool.true_and]
  · rw [if_neg h, if_neg (by rw [decide_eq_false h]; decide)]

set_option maxHeartbeats 1000000 in
theorem refLay_any {x y : Nat} (hx : x < 18446744073709551616) (hy : y < 18446744073709551616) (a n : Int) (w : World) :
    Calls Try.prog 26 #[.int .u64 x, .int .i64 a, .int .i64 n, .int .u64 y] w fun e w' => e = .returned (.int .u64 (layN x a n y)) ∧ Below w.heap.size w w' := by
  have l2 := maskN_lt n
  have l1 := shlN_lt a l2
  have l3 := shlN_lt a hy
  go_enter Try.func26, Try.ntmps26
  go_wp2_with fail
  refine (row_any _ hx _).mono ?_
  rintro e w1 ⟨rfl, hb1⟩
  go_wp2_with fail
  refine (refMask_any n _).mono ?_
  rintro e w2 ⟨rfl, hb2⟩
  go_wp2_with fail
  refine (refShl_any l2 a _).mono ?_
  rintro e w3 ⟨rfl, hb3⟩
  go_wp2_with fail
  refine (row_any _ l1 _).mono ?_
  rintro e w4 ⟨rfl, hb4⟩
  go_wp2_with fail
  refine (refShl_any hy a _).mono ?_
  rintro e w5 ⟨rfl, hb5⟩
  go_wp2_with fail
  refine (row_any _ l3 _).mono ?_
  rintro e w6 ⟨rfl, hb6⟩
  have s1 := hb1.size
  have s2 := hb2.size
  have s3 := hb3.size
  have s4 := hb4.size
  have s5 := hb5.size
  have hb : Below w.heap.size w w6 := hb1.trans ((hb2.mono s1).trans ((hb3.mono (by omega)).trans ((hb4.mono (by omega)).trans ((hb5.mono (by omega)).trans (hb6.mono (by omega))))))
  clear hb1 hb2 hb3 hb4 hb5 hb6 s1 s2 s3 s4 s5
  go_wp2_with (first | (refine store_arr (.tmp 9) (.tmp 14) w6.heap.size (bitsF x) rfl rfl rfl rfl ?hg ?_; case hg => exact ⟨_, _, old0, rfl⟩) | (refine store_arr (.tmp 10) (.tmp 19) (w6.heap.size + 1) (bitsF (shlN (maskN n) a)) rfl rfl rfl rfl ?hg ?_; case hg => exact ⟨_, _, old1, rfl⟩) | (refine store_arr (.tmp 11) (.tmp 23) (w6.heap.size + 1 + 1) (bitsF (shlN y a)) rfl rfl rfl rfl ?hg ?_; case hg => exact ⟨_, _, old2, rfl⟩))
  generalize hW : World.setRow (World.setRow (World.setRow _ _ _) _ _) _ _ = w7
  obtain ⟨g0, g1, g2, hb7⟩ := three_rows hb hb.size hW
  clear hW
  have hB := hb.size
  clear hb
  generalize w6.heap.size = b at *
  have l := layN_lt a n hx hy
  have S := Lib.hid (fun i (hi : i < 64) => bit_lay (x := x) (y := y) (a := a) (n := n) hi)
  rw [← mixTo_none (layN x a n y)] at g0
  go_loopw [12] (fun i wr => ∃ k : Nat, k ≤ 64 ∧ i = .int .i64 k ∧ wr.heap[b]? = some (.cells (arr64 (mixTo (layN x a n y) (bitsF x) k)) 50 (0, 0)) ∧ wr.heap[b + 1]? = some (.cells (arr64 (bitsF (shlN (maskN n) a))) 50 (0, 0)) ∧ wr.heap[b + 1 + 1]? = some (.cells (arr64 (bitsF (shlN y a))) 50 (0, 0)) ∧ Below w.heap.size w wr) (fun i _ => 64 - (intOf i).toNat)
  case atStart => exact ⟨0, by omega, rfl, g0, g1, g2, hb7⟩
  case round =>
    obtain ⟨k, hk, rfl, G0, G1, G2, hbr⟩ := hrel
    clear g0 g1 g2 hb7
    by_cases hlt : k < 64
    · have hc := row_cell G0 hlt
      have hf := row_free (k := k) G0
      have hm := row_cell G1 hlt
      have hy2 := row_cell G2 hlt
      have hs := S.out k hlt
      by_cases hone : bitsF (shlN (maskN n) a) k = 1
      · rw [if_pos hone] at hs
        rw [hone] at hm
        have HG0 := Lib.hid G0
        have HG1 := Lib.hid G1
        have HG2 := Lib.hid G2
        have HS := Lib.hid hs
        clear G0 G1 G2 hs hone
        go_wp2
        go_roundw
        case rel => exact ⟨k + 1, by omega, by go_num, by rw [row_store HG0.out, mixTo_set _ _ _ _ HS.out.symm], row_keep HG1.out (by omega) _, row_keep HG2.out (by omega) _, hbr.setCell (by simp; omega) _⟩
        case measure => simp [intOf]; omega
      · rw [if_neg hone] at hs
        have hz : bitsF (shlN (maskN n) a) k = 0 := by
          have := bitsF_lo (shlN (maskN n) a) k
          have := bitsF_hi (shlN (maskN n) a) k
          omega
        rw [hz] at hm
        rw [mixTo_skip hs.symm] at G0
        have HG0 := Lib.hid G0
        have HG1 := Lib.hid G1
        have HG2 := Lib.hid G2
        clear G0 G1 G2 hs hone hz
        go_wp2
        go_roundw
        case rel => exact ⟨k + 1, by omega, by go_num, HG0.out, HG1.out, HG2.out, hbr⟩
        case measure => simp [intOf]; omega
    · obtain rfl : k = 64 := by omega
      rw [mixTo_full] at G0
      have HG0 := Lib.hid G0
      clear G0 G1 G2
      go_wp2_with (first | (refine wpList_load_row rfl 50 _ rfl b rfl 50 _ (0, 0) _ HG0.out Try.underlying50 rfl (size64 _) ?_) | (go_at_call 48; refine (number_any _ l _).mono ?_; rintro e w8 ⟨rfl, hb8⟩))
      go_ret
      exact ⟨rfl, hbr.trans (hb8.mono hbr.size)⟩
end Go.Proofs.Ytlmihaeknmeeiaa
