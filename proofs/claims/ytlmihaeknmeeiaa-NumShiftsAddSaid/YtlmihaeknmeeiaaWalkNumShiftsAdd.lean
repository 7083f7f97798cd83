/-
  massiflaw1.NumShiftsAdd: the walk and its plain law.
-/
import Derived.Test.YtlmihaeknmeeiaaAwake
namespace Go.Proofs.Ytlmihaeknmeeiaa
open Go.RowKit
set_option linter.unusedVariables false

theorem and127 (n : Int) : bits .and .i64 n 127 = n % 128 := by
  have h : (BitVec.ofInt 64 n &&& BitVec.ofInt 64 127).toNat = (n % 128).toNat := by
    rw [BitVec.toNat_and, show (BitVec.ofInt 64 127).toNat = 127 by decide, nat_mask7, BitVec.toNat_ofInt]
    omega
  show IntKind.i64.wrap (((BitVec.ofInt 64 n &&& BitVec.ofInt 64 127).toNat : Nat) : Int) = n % 128
  rw [h, IntKind.wrap_i64]
  omega
theorem shl_shl {x : Nat} {p q : Int} (hp : 0 ≤ p) (hq : 0 ≤ q) : shlN (shlN x p) q = shlN x (p + q) := by
  unfold shlN
  rw [if_neg (by omega), if_neg (by omega), if_neg (by omega), Nat.mod_mul_mod, Nat.mul_assoc, ← Nat.pow_add]
  congr 3
  omega
theorem shr_shr {x : Nat} {p q : Int} (hp : 0 ≤ p) (hq : 0 ≤ q) : shrN (shrN x p) q = shrN x (p + q) := by
  unfold shrN
  rw [if_neg (by omega), if_neg (by omega), if_neg (by omega), Nat.div_div_eq_div_mul, ← Nat.pow_add]
  congr 2
  omega
theorem shl_shr {x : Nat} (hx : x < 18446744073709551616) {p : Int} (hp : 0 ≤ p) : shlN (shrN x p) p = x &&& (18446744073709551615 - maskN p) := by
  apply eqB (shlN_lt _ (shrN_lt _ hx)) (and_lt _ hx)
  intro i hi
  rw [tb_shlN _ hi, Nat.testBit_and, tb_not (maskN_lt p) hi, tb_maskN _ hi]
  by_cases h : 0 ≤ (i : Int) - p
  · have e : (((((i : Int) - p).toNat : Nat) : Int) + p) = i := by omega
    rw [tb_shrN _ (by omega), e]
    simp only [h, decide_true, Bool.true_and, show (0 : Int) ≤ i by omega, show ¬ (i : Int) < p by omega, decide_false, Bool.not_false, Bool.and_true, Int.toNat_natCast]
  · simp only [h, decide_false, Bool.false_and, show (i : Int) < p by omega, decide_true, Bool.not_true, Bool.and_false]
theorem shr_neg_shl {x : Nat} (hx : x < 18446744073709551616) (p : Int) (hp : 0 ≤ p) : shrN x (-p) = shlN x p := by
  unfold shrN shlN
  by_cases h : p = 0
  · subst h; simp; omega
  · rw [if_pos (by omega), if_neg (by omega)]
    congr 3
    omega

theorem walkNumShiftsAdd (a0 a1 a2 : Int) (w0 : (Lit.int .u64 a0).wf = true) (w1 : (Lit.int .i64 a1).wf = true) (w2 : (Lit.int .i64 a2).wf = true) (w : World) :
    Calls Try.prog 4 #[.int .u64 a0, .int .i64 a1, .int .i64 a2] w fun e w' => e = .returned (.bool true) ∧ Below w.heap.size w w' := by
  obtain ⟨x, rfl, hx⟩ := nat_of_u64 w0
  clear w0 w1 w2
  have A1 := Lib.hid (and127 a1)
  have A2 := Lib.hid (and127 a2)
  obtain ⟨p, hp⟩ : ∃ p, p = bits .and .i64 a1 127 := ⟨_, rfl⟩
  obtain ⟨q, hq⟩ : ∃ q, q = bits .and .i64 a2 127 := ⟨_, rfl⟩
  have p0 : 0 ≤ p ∧ p < 128 := by rw [hp, A1.out]; omega
  have q0 : 0 ≤ q ∧ q < 128 := by rw [hq, A2.out]; omega
  obtain ⟨p0, p1⟩ := p0
  obtain ⟨q0, q1⟩ := q0
  have HP := Lib.hid hp
  have HQ := Lib.hid hq
  clear hp hq A1 A2
  have E1 := Lib.hid (shl_shl (x := x) p0 q0)
  have E2 := Lib.hid (shr_shr (x := x) p0 q0)
  have E3 := Lib.hid (shl_shr hx p0)
  have E4 := Lib.hid (shr_neg_shl hx p p0)
  have E5 := Lib.hid (u64_andNot_nat x (maskN p) hx (maskN_lt p))
  go_enter Try.func4, Try.ntmps4
  go_wp2_with fail
  rw [← HP.out, ← HQ.out]
  refine (Shl_any hx (by omega) (by omega) _).mono ?_
  rintro e w' ⟨rfl, rfl⟩
  go_wp2_with fail
  refine (Shl_any (shlN_lt _ hx) (by omega) (by omega) _).mono ?_
  rintro e w' ⟨rfl, rfl⟩
  rw [E1.out]
  go_wp2_with fail
  refine (Shl_any hx (by omega) (by omega) _).mono ?_
  rintro e w' ⟨rfl, rfl⟩
  go_wp2_with fail
  refine (Shr_any hx (by omega) (by omega) _).mono ?_
  rintro e w' ⟨rfl, rfl⟩
  go_wp2_with fail
  refine (Shr_any (shrN_lt _ hx) (by omega) (by omega) _).mono ?_
  rintro e w' ⟨rfl, rfl⟩
  rw [E2.out]
  go_wp2_with fail
  refine (Shr_any hx (by omega) (by omega) _).mono ?_
  rintro e w' ⟨rfl, rfl⟩
  go_wp2_with fail
  refine (Shr_any hx (by omega) (by omega) _).mono ?_
  rintro e w' ⟨rfl, rfl⟩
  go_wp2_with fail
  refine (Shl_any (shrN_lt _ hx) (by omega) (by omega) _).mono ?_
  rintro e w' ⟨rfl, rfl⟩
  rw [E3.out, ← E5.out]
  go_wp2_with fail
  refine (Mask_any (by omega) (by omega) _).mono ?_
  rintro e w' ⟨rfl, rfl⟩
  go_wp2_with fail
  refine (Shr_any hx (by omega) (by omega) _).mono ?_
  rintro e w' ⟨rfl, rfl⟩
  rw [E4.out]
  go_wp2_with fail
  refine (Shl_any hx (by omega) (by omega) _).mono ?_
  rintro e w' ⟨rfl, rfl⟩
  go_wp2_with fail
  refine (awake_any _).mono ?_
  rintro e w1 ⟨rfl, hb⟩
  go_wp2
  go_ret
  exact ⟨rfl, hb⟩
end Go.Proofs.Ytlmihaeknmeeiaa
