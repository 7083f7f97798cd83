/-
  num.Swap.
-/
import Derived.Test.YtlmihaeknmeeiaaTurn
namespace Go.Proofs.Ytlmihaeknmeeiaa
open Go.RowKit
set_option linter.unusedVariables false

/-- The highest m bytes are done. -/
def swapTo (x m : Nat) : Nat := ofB (fun j => decide (64 - 8 * m ≤ j) && x.testBit (8 * (7 - j / 8) + j % 8)) 64
theorem swapTo_lt (x m : Nat) : swapTo x m < 18446744073709551616 := ofB_lt _ 64
theorem swapTo_zero (x : Nat) : swapTo x 0 = 0 := by
  apply eqB (swapTo_lt _ _) (by decide)
  intro i hi
  unfold swapTo
  rw [tb_ofB]
  simp [show ¬ 64 ≤ i by omega]
theorem swapTo_full (x : Nat) : swapTo x 8 = swapN x := by
  apply eqB (swapTo_lt _ _) (swapN_lt _)
  intro i hi
  unfold swapTo swapN
  rw [tb_ofB, tb_ofB]
  simp
theorem swapTo_step {x : Nat} (hx : x < 18446744073709551616) {m : Nat} (hm : m < 8) : layN (swapTo x m) (56 - 8 * (m : Int)) 8 (fieldN x (8 * (m : Int)) 8) = swapTo x (m + 1) := by
  apply eqB (layN_lt _ _ (swapTo_lt _ _) (fieldN_lt _ _ hx)) (swapTo_lt _ _)
  intro i hi
  rw [tb_layN _ _ hi]
  unfold swapTo
  rw [tb_ofB, tb_ofB]
  by_cases h : 0 ≤ (i : Int) - (56 - 8 * (m : Int)) ∧ (i : Int) - (56 - 8 * (m : Int)) < 64 ∧ (i : Int) - (56 - 8 * (m : Int)) < 8
  · rw [if_pos h, tb_fieldN _ _ (by omega)]
    have e : (((((i : Int) - (56 - 8 * (m : Int))).toNat : Nat) : Int) + 8 * (m : Int)).toNat = 8 * (7 - i / 8) + i % 8 := by omega
    have h1 : 0 ≤ ((((i : Int) - (56 - 8 * (m : Int))).toNat : Nat) : Int) + 8 * (m : Int) := by omega
    have h2 : ((((i : Int) - (56 - 8 * (m : Int))).toNat : Nat) : Int) < 8 := by omega
    have h3 : 64 - 8 * (m + 1) ≤ i := by omega
    rw [e]
    simp only [h1, h2, h3, hi, decide_true, Bool.true_and, Bool.and_true]
  · rw [if_neg h]
    by_cases h1 : 64 - 8 * m ≤ i
    · have h3 : 64 - 8 * (m + 1) ≤ i := by omega
      simp only [h1, h3]
    · have h3 : ¬ 64 - 8 * (m + 1) ≤ i := by omega
      simp only [h1, h3]

theorem Swap_any {x : Nat} (hx : x < 18446744073709551616) (w : World) :
    Calls Try.prog 35 #[.int .u64 x] w fun e w' => e = .returned (.int .u64 (swapN x)) ∧ w = w' := by
  go_enter Try.func35, Try.ntmps35
  go_wp2
  go_loop [3, 4] (fun y i => ∃ m : Nat, m ≤ 8 ∧ i = .int .i64 (8 * (m : Int)) ∧ y = .int .u64 (swapTo x m : Int)) (fun _ i => 64 - (intOf i).toNat)
  case atStart => exact ⟨0, by omega, rfl, by rw [swapTo_zero]; rfl⟩
  case round =>
    obtain ⟨m, hm, rfl, rfl⟩ := hrel
    by_cases hlt : m < 8
    · have E := Lib.hid (swapTo_step hx hlt)
      have l1 := swapTo_lt x m
      have l2 := fieldN_lt (8 * (m : Int)) 8 hx
      go_wp2_with fail
      refine (Field_any hx (by omega) (by omega) (by omega) (by omega) _).mono ?_
      rintro e w' ⟨rfl, rfl⟩
      go_wp2_with fail
      refine (Lay_any l1 l2 (by omega) (by omega) (by omega) (by omega) _).mono ?_
      rintro e w' ⟨rfl, rfl⟩
      rw [E.out]
      go_wp2
      go_round
      case rel => exact ⟨m + 1, by omega, by congr 1, rfl⟩
      case measure => simp [intOf]; omega
    · obtain rfl : m = 8 := by omega
      have F := Lib.hid (swapTo_full x)
      go_wp2
      go_ret
      exact ⟨ret_int (by rw [F.out]), rfl⟩
end Go.Proofs.Ytlmihaeknmeeiaa
