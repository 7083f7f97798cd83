/-
  massiflaw1.NumFills: the walk and its plain law.
-/
import Derived.Test.YtlmihaeknmeeiaaAwake
namespace Go.Proofs.Ytlmihaeknmeeiaa
open Go.RowKit
set_option linter.unusedVariables false

theorem fill_found {x y : Nat} (hx : x < 18446744073709551616) (hy : y < 18446744073709551616) {a n : Int} (a0 : 0 ≤ a) (h : n ≤ 64 - a) :
    fieldN (layN x a n y) a n = y &&& maskN n := by
  apply eqB (fieldN_lt _ _ (layN_lt _ _ hx hy)) (and_lt _ hy)
  intro i hi
  rw [tb_fieldN _ _ hi, Nat.testBit_and, tb_maskN _ hi]
  by_cases hn : (i : Int) < n
  · have e : (((i : Int) + a).toNat : Int) = (i : Int) + a := by omega
    have e2 : (i : Int) + a - a = i := by omega
    rw [tb_layN _ _ (by omega), e, e2, if_pos (by omega)]
    simp only [hn, decide_true, Bool.and_true, show 0 ≤ (i : Int) + a by omega, Bool.true_and, Int.toNat_natCast]
  · simp only [hn, decide_false, Bool.and_false]
theorem fill_back {x y : Nat} (hx : x < 18446744073709551616) (hy : y < 18446744073709551616) {a n : Int} (a0 : 0 ≤ a) (h : n ≤ 64 - a) :
    layN (layN x a n y) a n (fieldN x a n) = x := by
  apply eqB (layN_lt _ _ (layN_lt _ _ hx hy) (fieldN_lt _ _ hx)) hx
  intro i hi
  rw [tb_layN _ _ hi]
  by_cases hn : 0 ≤ (i : Int) - a ∧ (i : Int) - a < 64 ∧ (i : Int) - a < n
  · rw [if_pos hn, tb_fieldN _ _ (by omega)]
    have e : ((((i : Int) - a).toNat : Int) + a) = (i : Int) := by omega
    have e2 : (((i : Int) - a).toNat : Int) < n := by omega
    rw [e]
    simp only [e2, decide_true, Bool.and_true, show (0 : Int) ≤ i by omega, Bool.true_and, Int.toNat_natCast]
  · rw [if_neg hn, tb_layN _ _ hi, if_neg hn]

theorem walkNumFills (a0 a1 a2 a3 : Int) (w0 : (Lit.int .u64 a0).wf = true) (w1 : (Lit.int .i64 a1).wf = true) (w2 : (Lit.int .i64 a2).wf = true) (w3 : (Lit.int .u64 a3).wf = true) (w : World) :
    Calls Try.prog 6 #[.int .u64 a0, .int .i64 a1, .int .i64 a2, .int .u64 a3] w fun e w' => e = .returned (.bool true) ∧ Below w.heap.size w w' := by
  obtain ⟨x, rfl, hx⟩ := nat_of_u64 w0
  obtain ⟨y, rfl, hy⟩ := nat_of_u64 w3
  obtain ⟨y0, y1⟩ := rng_i64 w1
  obtain ⟨n0, n1⟩ := rng_i64 w2
  clear w0 w1 w2 w3
  by_cases c1 : a1 < 0
  · go_enter Try.func6, Try.ntmps6
    go_wp2_with fail
    go_ret
    exact ⟨rfl, Below.refl _ _⟩
  by_cases c2 : 64 < a1
  · go_enter Try.func6, Try.ntmps6
    go_wp2_with fail
    go_ret
    exact ⟨rfl, Below.refl _ _⟩
  by_cases c3 : 64 - a1 < a2
  · go_enter Try.func6, Try.ntmps6
    go_wp2_with fail
    go_ret
    exact ⟨rfl, Below.refl _ _⟩
  have E1 := Lib.hid (fill_found hx hy (a := a1) (n := a2) (by omega) (by omega))
  have E2 := Lib.hid (fill_back hx hy (a := a1) (n := a2) (by omega) (by omega))
  have E3 := Lib.hid (u64_and_nat y (maskN a2) hy (maskN_lt a2))
  have l := layN_lt a1 a2 hx hy
  have l2 := fieldN_lt a1 a2 hx
  go_enter Try.func6, Try.ntmps6
  go_wp2_with fail
  refine (Lay_any hx hy y0 y1 n0 n1 _).mono ?_
  rintro e w' ⟨rfl, rfl⟩
  go_wp2_with fail
  refine (Field_any l y0 y1 n0 n1 _).mono ?_
  rintro e w' ⟨rfl, rfl⟩
  rw [E1.out, ← E3.out]
  go_wp2_with fail
  refine (Mask_any n0 n1 _).mono ?_
  rintro e w' ⟨rfl, rfl⟩
  go_wp2_with fail
  refine (Field_any hx y0 y1 n0 n1 _).mono ?_
  rintro e w' ⟨rfl, rfl⟩
  go_wp2_with fail
  refine (Lay_any l l2 y0 y1 n0 n1 _).mono ?_
  rintro e w' ⟨rfl, rfl⟩
  rw [E2.out]
  go_wp2_with fail
  refine (awake_any _).mono ?_
  rintro e w4 ⟨rfl, hb4⟩
  go_wp2
  go_ret
  exact ⟨rfl, hb4⟩
end Go.Proofs.Ytlmihaeknmeeiaa
