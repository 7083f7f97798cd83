/-
  massifref3's Power, Nodes, Spot and Place.
-/
import Derived.Test.YtpbahbigimnboaaDoorPosSpot
namespace Go.Proofs.YtpbahbigimnboaaDoor
open Go.RowKit
set_option linter.unusedVariables false

theorem p62 : (2 : Nat) ^ 62 = 4611686018427387904 := by decide
theorem power_any {h : Nat} (hh : h ≤ 63) (w : World) :
    Calls Tryd.prog 24 #[.int .i64 h] w fun e w' => e = .returned (.int .u64 ((2 ^ h : Nat) : Int)) ∧ w = w' := by
  go_enter Tryd.func24, Tryd.ntmps24
  go_wp2
  go_loop [3, 4] (fun p i => ∃ k : Nat, k ≤ h ∧ i = .int .i64 k ∧ p = .int .u64 ((2 ^ k : Nat) : Int)) (fun _ i => h - (intOf i).toNat)
  case atStart => exact ⟨0, by omega, rfl, rfl⟩
  case round =>
    obtain ⟨k, hk, rfl, rfl⟩ := hrel
    by_cases hlt : k < h
    · have hp : 2 ^ k ≤ 2 ^ 62 := Nat.pow_le_pow_right (by decide) (by omega)
      have e62 : (2 : Nat) ^ 62 = 4611686018427387904 := by decide
      have S := Lib.hid (show 2 * ((2 ^ k : Nat) : Int) = ((2 ^ (k + 1) : Nat) : Int) by rw [Nat.pow_succ]; omega)
      have hp2 : 2 ^ k ≤ 4611686018427387904 := by omega
      clear hp e62
      generalize 2 ^ k = q at *
      go_wp2
      go_round
      case rel => exact ⟨k + 1, by omega, by go_num, by rw [← S.out]⟩
      case measure => simp [intOf]; omega
    · obtain rfl : k = h := by omega
      generalize hq : 2 ^ k = q
      go_wp2
      go_ret
      exact ⟨rfl, rfl⟩
theorem power_quiet {h q : Nat} (hh : h ≤ 63) (hq : 2 ^ h = q) (w : World) :
    Calls Tryd.prog 24 #[.int .i64 h] w fun e w' => e = .returned (.int .u64 (q : Int)) ∧ w' = w := by
  rw [← hq]
  exact (power_any hh w).mono fun _ _ ⟨he, hw⟩ => ⟨he, hw.symm⟩

theorem refNodes_any {n : Nat} (hn : n ≤ 4611686018427387904) (w : World) :
    Calls Tryd.prog 37 #[.int .u64 n] w fun e w' => e = .returned (.tuple #[.int .u64 (nodeN n), .bool true]) ∧ w = w' := by
  have nm := nodeN_mono_le hn
  rw [nodes_most] at nm
  go_enter Tryd.func37, Tryd.ntmps37
  go_wp2
  go_loop [0, 4] (fun m s => ∃ a b : Nat, a < 9223372036854775808 ∧ m = .int .u64 a ∧ s = .int .u64 b ∧ b + nodeN a = nodeN n) (fun m _ => (intOf m).toNat)
  case atStart => exact ⟨n, 0, by omega, rfl, rfl, by omega⟩
  case round =>
    obtain ⟨a, b, ha, rfl, rfl, hs⟩ := hrel
    by_cases h0 : 0 < a
    · have hh := nodeN_half (n := a) (by omega)
      have hab : b + a ≤ 9223372036854775807 := by omega
      have hnext : b + a + nodeN (a / 2) = nodeN n := by omega
      have HX := Lib.hid hnext
      clear hh hnext hs nm
      go_wp2
      go_round
      case rel => exact ⟨a / 2, b + a, by omega, by go_num, by go_num, HX.out⟩
      case measure => simp [intOf]; omega
    · obtain rfl : a = 0 := by omega
      have z : nodeN 0 = 0 := by unfold nodeN; omega
      have hb : b = nodeN n := by omega
      have HX := Lib.hid hb
      clear hs z hb nm
      go_wp2
      go_ret2
      exact ⟨by rw [← HX.out]; rfl, rfl⟩
theorem refNodes_no {n : Nat} (hn : 4611686018427387904 < n) (w : World) :
    Calls Tryd.prog 37 #[.int .u64 n] w fun e w' => e = .returned (.tuple #[.int .u64 0, .bool false]) ∧ w = w' := by
  go_enter Tryd.func37, Tryd.ntmps37
  go_wp2
  go_ret2
  exact ⟨rfl, rfl⟩
theorem refNodes_quiet {n q : Nat} (hn : n ≤ 4611686018427387904) (hq : nodeN n = q) (w : World) :
    Calls Tryd.prog 37 #[.int .u64 n] w fun e w' => e = .returned (.tuple #[.int .u64 (q : Int), .bool true]) ∧ w' = w := by
  rw [← hq]
  exact (refNodes_any hn w).mono fun _ _ ⟨he, hw⟩ => ⟨he, hw.symm⟩

end Go.Proofs.YtpbahbigimnboaaDoor
