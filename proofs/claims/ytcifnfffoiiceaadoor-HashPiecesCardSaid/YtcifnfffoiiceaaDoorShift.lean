/-
  The walks of num's shifts, masks, fields and turns.
-/
import Derived.Test.YtcifnfffoiiceaaDoorBase
import Derived.Test.YtcifnfffoiiceaaDoorNum
import Derived.Test.YtcifnfffoiiceaaDoorMask
import Derived.Outline
namespace Go.Proofs.YtcifnfffoiiceaaDoor
open Go.RowKit

theorem Shr_any {x : Nat} (hx : x < 18446744073709551616) {n : Int} (h0 : -9223372036854775808 ≤ n) (h1 : n ≤ 9223372036854775807) (w : World) :
    Calls Tryd.prog 71 #[.int .u64 x, .int .i64 n] w fun e w' => e = .returned (.int .u64 (shrN x n)) ∧ w = w' := by
  by_cases hn : n < 0
  · have E := Lib.hid (shr_neg (x := x) h0 hn)
    go_enter Tryd.func71, Tryd.ntmps71
    go_wp2
    go_ret
    exact ⟨by rw [← E.out]; rfl, rfl⟩
  · have E := Lib.hid (shr_pos hx (n := n) (by omega))
    go_enter Tryd.func71, Tryd.ntmps71
    go_wp2
    go_ret
    exact ⟨by rw [← E.out]; rfl, rfl⟩
theorem Field_any {x : Nat} (hx : x < 18446744073709551616) {a n : Int} (h0 : -9223372036854775808 ≤ a) (h1 : a ≤ 9223372036854775807) (h2 : -9223372036854775808 ≤ n) (h3 : n ≤ 9223372036854775807) (w : World) :
    Calls Tryd.prog 66 #[.int .u64 x, .int .i64 a, .int .i64 n] w fun e w' => e = .returned (.int .u64 (fieldN x a n)) ∧ w = w' := by
  have l1 := shrN_lt a hx
  have l2 := maskN_lt n
  have E := Lib.hid (u64_and_nat _ _ l1 l2)
  go_enter Tryd.func66, Tryd.ntmps66
  go_wp2_with (first | (go_at_call 71; refine (Shr_any hx h0 h1 _).mono ?_; rintro e w' ⟨rfl, rfl⟩) | (go_at_call 65; refine (Mask_any h2 h3 _).mono ?_; rintro e w' ⟨rfl, rfl⟩))
  go_ret
  exact ⟨by unfold fieldN; rw [← E.out]; rfl, rfl⟩
end Go.Proofs.YtcifnfffoiiceaaDoor
