/-
  The walks of num's shifts, masks, fields and turns.
-/
import Derived.Test.YtlmihaeknmeeiaaBase
import Derived.Test.YtlmihaeknmeeiaaNum
import Derived.Test.YtlmihaeknmeeiaaMask
import Derived.Outline
namespace Go.Proofs.Ytlmihaeknmeeiaa
open Go.RowKit

theorem Shl_any {x : Nat} (hx : x < 18446744073709551616) {n : Int} (h0 : -9223372036854775808 ≤ n) (h1 : n ≤ 9223372036854775807) (w : World) :
    Calls Try.prog 14 #[.int .u64 x, .int .i64 n] w fun e w' => e = .returned (.int .u64 (shlN x n)) ∧ w = w' := by
  by_cases hn : n < 0
  · have E := Lib.hid (shl_neg hx h0 hn)
    go_enter Try.func14, Try.ntmps14
    go_wp2
    go_ret
    exact ⟨by rw [← E.out]; rfl, rfl⟩
  · have E := Lib.hid (shl_pos (x := x) (n := n) (by omega))
    go_enter Try.func14, Try.ntmps14
    go_wp2
    go_ret
    exact ⟨by rw [← E.out]; rfl, rfl⟩
theorem Shr_any {x : Nat} (hx : x < 18446744073709551616) {n : Int} (h0 : -9223372036854775808 ≤ n) (h1 : n ≤ 9223372036854775807) (w : World) :
    Calls Try.prog 16 #[.int .u64 x, .int .i64 n] w fun e w' => e = .returned (.int .u64 (shrN x n)) ∧ w = w' := by
  by_cases hn : n < 0
  · have E := Lib.hid (shr_neg (x := x) h0 hn)
    go_enter Try.func16, Try.ntmps16
    go_wp2
    go_ret
    exact ⟨by rw [← E.out]; rfl, rfl⟩
  · have E := Lib.hid (shr_pos hx (n := n) (by omega))
    go_enter Try.func16, Try.ntmps16
    go_wp2
    go_ret
    exact ⟨by rw [← E.out]; rfl, rfl⟩
theorem Field_any {x : Nat} (hx : x < 18446744073709551616) {a n : Int} (h0 : -9223372036854775808 ≤ a) (h1 : a ≤ 9223372036854775807) (h2 : -9223372036854775808 ≤ n) (h3 : n ≤ 9223372036854775807) (w : World) :
    Calls Try.prog 23 #[.int .u64 x, .int .i64 a, .int .i64 n] w fun e w' => e = .returned (.int .u64 (fieldN x a n)) ∧ w = w' := by
  have l1 := shrN_lt a hx
  have l2 := maskN_lt n
  have E := Lib.hid (u64_and_nat _ _ l1 l2)
  go_enter Try.func23, Try.ntmps23
  go_wp2_with (first | (go_at_call 16; refine (Shr_any hx h0 h1 _).mono ?_; rintro e w' ⟨rfl, rfl⟩) | (go_at_call 21; refine (Mask_any h2 h3 _).mono ?_; rintro e w' ⟨rfl, rfl⟩))
  go_ret
  exact ⟨by unfold fieldN; rw [← E.out]; rfl, rfl⟩
theorem Lay_any {x y : Nat} (hx : x < 18446744073709551616) (hy : y < 18446744073709551616) {a n : Int} (h0 : -9223372036854775808 ≤ a) (h1 : a ≤ 9223372036854775807) (h2 : -9223372036854775808 ≤ n) (h3 : n ≤ 9223372036854775807) (w : World) :
    Calls Try.prog 25 #[.int .u64 x, .int .i64 a, .int .i64 n, .int .u64 y] w fun e w' => e = .returned (.int .u64 (layN x a n y)) ∧ w = w' := by
  have l2 := maskN_lt n
  have l1 := shlN_lt a l2
  have l3 := shlN_lt a hy
  have E1 := Lib.hid (u64_andNot_nat _ _ hx l1)
  have E2 := Lib.hid (u64_and_nat _ _ l3 l1)
  have E3 := Lib.hid (u64_or_nat _ _ (and_lt (18446744073709551615 - shlN (maskN n) a) hx) (and_lt (shlN (maskN n) a) l3))
  go_enter Try.func25, Try.ntmps25
  go_wp2_with (go_at_call 21; refine (Mask_any h2 h3 _).mono ?_; rintro e w' ⟨rfl, rfl⟩)
  refine (Shl_any l2 h0 h1 _).mono ?_
  rintro e w' ⟨rfl, rfl⟩
  go_wp2_with fail
  refine (Shl_any hy h0 h1 _).mono ?_
  rintro e w' ⟨rfl, rfl⟩
  go_wp2_with fail
  go_ret
  exact ⟨by unfold layN; rw [← E3.out, ← E2.out, ← E1.out]; rfl, rfl⟩
end Go.Proofs.Ytlmihaeknmeeiaa
