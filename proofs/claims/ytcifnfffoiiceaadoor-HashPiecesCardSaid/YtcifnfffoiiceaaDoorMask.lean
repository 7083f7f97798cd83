/-
  The walk of num.Mask.
-/
import Derived.Test.YtcifnfffoiiceaaDoorBase
import Derived.Test.YtcifnfffoiiceaaDoorNum
namespace Go.Proofs.YtcifnfffoiiceaaDoor
open Go.RowKit

theorem Mask_any {n : Int} (h0 : -9223372036854775808 ≤ n) (h1 : n ≤ 9223372036854775807) (w : World) :
    Calls Tryd.prog 65 #[.int .i64 n] w fun e w' => e = .returned (.int .u64 (maskN n)) ∧ w = w' := by
  by_cases hn : n ≤ 0
  · have E : (maskN n : Int) = 0 := by unfold maskN; rw [show n.toNat = 0 by omega]; rfl
    have E := Lib.hid E
    go_enter Tryd.func65, Tryd.ntmps65
    go_wp2
    go_ret
    exact ⟨by rw [E.out]; rfl, rfl⟩
  · have E : IntKind.u64.wrap (IntKind.u64.wrap (1 * 2 ^ min n.toNat 64) - 1) = (maskN n : Int) := by
      have h := mul_min 1 n.toNat
      have : ((1 : Nat) : Int) = 1 := rfl
      rw [this] at h
      rw [h, wrap_u64]
      unfold maskN
      have h64 : (2 : Nat) ^ 64 = 18446744073709551616 := by decide
      have hp : 0 < 2 ^ min n.toNat 64 := Nat.two_pow_pos _
      by_cases hm : n.toNat < 64
      · have : 2 ^ n.toNat < 2 ^ 64 := Nat.pow_lt_pow_right (by decide) hm
        rw [Nat.min_eq_left (by omega)] at *
        rw [Nat.one_mul, Nat.mod_eq_of_lt (by omega)]
        omega
      · obtain ⟨d, hd⟩ : ∃ d, n.toNat = 64 + d := ⟨n.toNat - 64, by omega⟩
        rw [Nat.min_eq_right (by omega), h64, hd, Nat.pow_add, h64, Nat.one_mul, Nat.mul_mod_right]
        decide
    have E := Lib.hid E
    have hn0 : 0 ≤ n := by omega
    go_enter Tryd.func65, Tryd.ntmps65
    go_wp2
    go_ret
    exact ⟨by rw [← E.out]; simp, rfl⟩
end Go.Proofs.YtcifnfffoiiceaaDoor
