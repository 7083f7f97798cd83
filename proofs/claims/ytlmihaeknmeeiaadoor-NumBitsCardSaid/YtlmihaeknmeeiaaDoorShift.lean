/-
  The walks of num's shifts, masks, fields and turns.
-/
import Derived.Test.YtlmihaeknmeeiaaDoorBase
import Derived.Test.YtlmihaeknmeeiaaDoorNum
import Derived.Test.YtlmihaeknmeeiaaDoorMask
import Derived.Outline
namespace Go.Proofs.YtlmihaeknmeeiaaDoor
open Go.RowKit

theorem Shl_any {x : Nat} (hx : x < 18446744073709551616) {n : Int} (h0 : -9223372036854775808 ≤ n) (h1 : n ≤ 9223372036854775807) (w : World) :
    Calls Tryd.prog 15 #[.int .u64 x, .int .i64 n] w fun e w' => e = .returned (.int .u64 (shlN x n)) ∧ w = w' := by
  by_cases hn : n < 0
  · have E := Lib.hid (shl_neg hx h0 hn)
    go_enter Tryd.func15, Tryd.ntmps15
    go_wp2
    go_ret
    exact ⟨by rw [← E.out]; rfl, rfl⟩
  · have E := Lib.hid (shl_pos (x := x) (n := n) (by omega))
    go_enter Tryd.func15, Tryd.ntmps15
    go_wp2
    go_ret
    exact ⟨by rw [← E.out]; rfl, rfl⟩
end Go.Proofs.YtlmihaeknmeeiaaDoor
