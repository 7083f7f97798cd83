/-
  massiflaw1.NumTwice: the walk and its plain law.
-/
import Derived.Test.YtlmihaeknmeeiaaAwake
import Derived.Test.YtlmihaeknmeeiaaSwap
namespace Go.Proofs.Ytlmihaeknmeeiaa
open Go.RowKit
set_option linter.unusedVariables false

theorem rev_rev {x : Nat} (hx : x < 18446744073709551616) : revN (revN x) = x := by
  apply eqB (revN_lt _) hx
  intro i hi
  rw [tb_revN _ hi, tb_revN _ (by omega), show 63 - (63 - i) = i by omega]
theorem swap_swap {x : Nat} (hx : x < 18446744073709551616) : swapN (swapN x) = x := by
  apply eqB (swapN_lt _) hx
  intro i hi
  rw [tb_swapN _ hi, tb_swapN _ (by omega), show 8 * (7 - (8 * (7 - i / 8) + i % 8) / 8) + (8 * (7 - i / 8) + i % 8) % 8 = i by omega]
theorem turn_turn {x : Nat} (hx : x < 18446744073709551616) (n m : Int) : turnN (turnN x n) m = turnN x (n + m) := by
  apply eqB (turnN_lt _ (turnN_lt _ hx)) (turnN_lt _ hx)
  intro i hi
  rw [tb_turnN _ (turnN_lt _ hx) hi, tb_turnN _ hx (by omega), tb_turnN _ hx hi]
  have e : (((((i : Int) - m) % 64).toNat : Int) - n) % 64 = ((i : Int) - (n + m)) % 64 := by omega
  rw [e]
theorem turn_zero {x : Nat} (hx : x < 18446744073709551616) : turnN x 0 = x := by
  apply eqB (turnN_lt _ hx) hx
  intro i hi
  rw [tb_turnN _ hx hi, show (((i : Int) - 0) % 64).toNat = i by omega]
theorem turn_back {x : Nat} (hx : x < 18446744073709551616) (n : Int) : turnN (turnN x n) (-n) = x := by
  rw [turn_turn hx, show n + -n = 0 by omega, turn_zero hx]
theorem tmod_small (n : Int) : -100000 < n.tmod 100000 ∧ n.tmod 100000 < 100000 := by
  by_cases h : 0 ≤ n
  · rw [Int.tmod_eq_emod_of_nonneg h]; omega
  · have e : n = -(-n) := by omega
    have e2 : n.tmod 100000 = -((-n) % 100000) := by
      conv => lhs; rw [e, Int.neg_tmod, Int.tmod_eq_emod_of_nonneg (by omega)]
    rw [e2]; omega

theorem walkNumTwice (a0 a1 a2 : Int) (w0 : (Lit.int .u64 a0).wf = true) (w1 : (Lit.int .i64 a1).wf = true) (w2 : (Lit.int .i64 a2).wf = true) (w : World) :
    Calls Try.prog 9 #[.int .u64 a0, .int .i64 a1, .int .i64 a2] w fun e w' => e = .returned (.bool true) ∧ Below w.heap.size w w' := by
  obtain ⟨x, rfl, hx⟩ := nat_of_u64 w0
  clear w0 w1 w2
  have t1 := tmod_small a1
  have t2 := tmod_small a2
  go_enter Try.func9, Try.ntmps9
  go_wp2_with fail
  generalize a1.tmod 100000 = n at *
  generalize a2.tmod 100000 = m at *
  obtain ⟨n0, n1⟩ := t1
  obtain ⟨m0, m1⟩ := t2
  have E1 := Lib.hid (rev_rev hx)
  have E2 := Lib.hid (swap_swap hx)
  have E3 := Lib.hid (turn_back hx n)
  have E4 := Lib.hid (turn_turn hx n m)
  refine (Rev_any hx _).mono ?_
  rintro e w' ⟨rfl, rfl⟩
  go_wp2_with fail
  refine (Rev_any (revN_lt x) _).mono ?_
  rintro e w' ⟨rfl, rfl⟩
  rw [E1.out]
  go_wp2_with fail
  refine (Swap_any hx _).mono ?_
  rintro e w' ⟨rfl, rfl⟩
  go_wp2_with fail
  refine (Swap_any (swapN_lt x) _).mono ?_
  rintro e w' ⟨rfl, rfl⟩
  rw [E2.out]
  go_wp2_with fail
  refine (Turn_any hx (by omega) (by omega) _).mono ?_
  rintro e w' ⟨rfl, rfl⟩
  go_wp2_with fail
  refine (Turn_any (turnN_lt n hx) (by omega) (by omega) _).mono ?_
  rintro e w' ⟨rfl, rfl⟩
  rw [E3.out]
  go_wp2_with fail
  refine (Turn_any hx (by omega) (by omega) _).mono ?_
  rintro e w' ⟨rfl, rfl⟩
  go_wp2_with fail
  refine (Turn_any (turnN_lt n hx) (by omega) (by omega) _).mono ?_
  rintro e w' ⟨rfl, rfl⟩
  rw [E4.out]
  go_wp2_with fail
  refine (Turn_any hx (by omega) (by omega) _).mono ?_
  rintro e w' ⟨rfl, rfl⟩
  go_wp2_with fail
  refine (awake_any _).mono ?_
  rintro e w4 ⟨rfl, hb4⟩
  go_wp2
  go_ret
  exact ⟨rfl, hb4⟩
end Go.Proofs.Ytlmihaeknmeeiaa
