/-
  The walks of bits.Len64 and num.High.
-/
import Derived.Test.YtpbahbigimnboaaDoorProg
import Derived.WalkKit
import Derived.Lib.BitFns
import Derived.Lib.Strings
import Derived.Lib.Slices
import Derived.Lib.Small
import Derived.Lib.Walk
namespace Go.Proofs.YtpbahbigimnboaaDoor
open Go.RowKit
set_option linter.unusedVariables false

/-- How many bits a number wants. -/
def lenN (x : Nat) : Nat := Lib.bitLen x
theorem lenN_zero : lenN 0 = 0 := by unfold lenN; decide
theorem lenAux : ∀ (f x : Nat), x < 2 ^ f → x ≠ 0 → 1 ≤ Lib.bitLenAux f x ∧ 2 ^ (Lib.bitLenAux f x - 1) ≤ x ∧ x < 2 ^ Lib.bitLenAux f x
  | 0, x, h, h0 => by simp at h; omega
  | f + 1, x, h, h0 => by
    rw [Lib.bitLenAux, if_neg h0]
    by_cases h2 : x / 2 = 0
    · obtain rfl : x = 1 := by omega
      have e : ∀ g, Lib.bitLenAux g 0 = 0 := by intro g; cases g <;> simp [Lib.bitLenAux]
      rw [h2, e]
      decide
    · obtain ⟨a, b, c⟩ := lenAux f (x / 2) (by rw [Nat.pow_succ] at h; omega) h2
      generalize Lib.bitLenAux f (x / 2) = m at a b c ⊢
      obtain ⟨k, rfl⟩ : ∃ k, m = k + 1 := ⟨m - 1, by omega⟩
      rw [Nat.add_sub_cancel] at b
      refine ⟨by omega, ?_, ?_⟩
      · rw [show 1 + (k + 1) - 1 = k + 1 by omega, Nat.pow_succ]; omega
      · rw [show 1 + (k + 1) = k + 1 + 1 by omega, Nat.pow_succ]; omega
theorem lenN_spec {x : Nat} (h : x < 18446744073709551616) (h0 : x ≠ 0) : 1 ≤ lenN x ∧ 2 ^ (lenN x - 1) ≤ x ∧ x < 2 ^ lenN x := lenAux 64 x h h0
theorem lenN_le (x : Nat) (h : x < 18446744073709551616) : lenN x ≤ 64 := Lib.bitLen_le x 64 (by decide) h

theorem tab_at (y : Int) (h0 : 0 ≤ y) (h1 : y ≤ 255) (p : y.toNat < Lib.len8tab.size) : (((Lib.len8tab[y.toNat]'p).toNat : Nat) : Int) = (Lib.bitLen y.toNat : Int) := by
  have e := Lib.len8_of y h0 h1
  unfold Lib.len8 at e
  rw [← e, ByteArray.getElem?_lt' _ _ p, Option.getD_some]
theorem wrap64_id {n : Int} (h0 : -9223372036854775808 ≤ n) (h1 : n ≤ 9223372036854775807) : wrap64 n = n := by
  unfold wrap64; omega
theorem two_wraps {m L : Int} (h0 : 0 ≤ m) (h1 : m ≤ 56) (l0 : 0 ≤ L) (l1 : L ≤ 8) : wrap64 (m + wrap64 L) = m + L := by
  rw [wrap64_id (n := L) (by omega) (by omega), wrap64_id (by omega) (by omega)]
theorem one_wrap {L : Int} (l0 : 0 ≤ L) (l1 : L ≤ 8) : wrap64 (wrap64 L) = L := by
  rw [wrap64_id (n := L) (by omega) (by omega), wrap64_id (by omega) (by omega)]

set_option maxHeartbeats 4000000 in
set_option maxRecDepth 100000 in
theorem len64_any (x : Int) (w : World) (h0 : 0 ≤ x) (h1 : x ≤ 18446744073709551615) :
    Calls Tryd.prog 33 #[.int .u64 x] w fun e w' => e = .returned (.int .i64 (Lib.bitLen x.toNat)) ∧ w' = w := by
  go_enter Tryd.func33, Tryd.ntmps33
  go_wp2
  all_goals first
    | (exfalso; rename_i h; rw [Lib.len8tab_size] at h; omega)
    | (go_ret; refine ⟨congrArg Ending.returned (congrArg (Value.int IntKind.i64) ?_), rfl⟩)
  all_goals first
    | (rw [tab_at (x / 4294967296 / 65536 / 256) (by omega) (by omega)]
       have e : (x / 4294967296 / 65536 / 256).toNat = x.toNat / 72057594037927936 := by omega
       have l := Lib.bitLen_le8' (x / 4294967296 / 65536 / 256) (by omega) (by omega)
       have s := Lib.bitLen_shift56 x.toNat (by omega) (by omega)
       rw [e] at l ⊢
       rw [two_wraps (by omega) (by omega) (by omega) (by omega)]
       omega)
    | (rw [tab_at (x / 4294967296 / 65536) (by omega) (by omega)]
       have e : (x / 4294967296 / 65536).toNat = x.toNat / 281474976710656 := by omega
       have l := Lib.bitLen_le8' (x / 4294967296 / 65536) (by omega) (by omega)
       have s := Lib.bitLen_shift48 x.toNat (by omega) (by omega)
       rw [e] at l ⊢
       rw [two_wraps (by omega) (by omega) (by omega) (by omega)]
       omega)
    | (rw [tab_at (x / 4294967296 / 256) (by omega) (by omega)]
       have e : (x / 4294967296 / 256).toNat = x.toNat / 1099511627776 := by omega
       have l := Lib.bitLen_le8' (x / 4294967296 / 256) (by omega) (by omega)
       have s := Lib.bitLen_shift40 x.toNat (by omega) (by omega)
       rw [e] at l ⊢
       rw [two_wraps (by omega) (by omega) (by omega) (by omega)]
       omega)
    | (rw [tab_at (x / 4294967296) (by omega) (by omega)]
       have e : (x / 4294967296).toNat = x.toNat / 4294967296 := by omega
       have l := Lib.bitLen_le8' (x / 4294967296) (by omega) (by omega)
       have s := Lib.bitLen_shift32 x.toNat (by omega) (by omega)
       rw [e] at l ⊢
       rw [two_wraps (by omega) (by omega) (by omega) (by omega)]
       omega)
    | (rw [tab_at (x / 65536 / 256) (by omega) (by omega)]
       have e : (x / 65536 / 256).toNat = x.toNat / 16777216 := by omega
       have l := Lib.bitLen_le8' (x / 65536 / 256) (by omega) (by omega)
       have s := Lib.bitLen_shift24 x.toNat (by omega) (by omega)
       rw [e] at l ⊢
       rw [two_wraps (by omega) (by omega) (by omega) (by omega)]
       omega)
    | (rw [tab_at (x / 65536) (by omega) (by omega)]
       have e : (x / 65536).toNat = x.toNat / 65536 := by omega
       have l := Lib.bitLen_le8' (x / 65536) (by omega) (by omega)
       have s := Lib.bitLen_shift16 x.toNat (by omega) (by omega)
       rw [e] at l ⊢
       rw [two_wraps (by omega) (by omega) (by omega) (by omega)]
       omega)
    | (rw [tab_at (x / 256) (by omega) (by omega)]
       have e : (x / 256).toNat = x.toNat / 256 := by omega
       have l := Lib.bitLen_le8' (x / 256) (by omega) (by omega)
       have s := Lib.bitLen_shift8 x.toNat (by omega) (by omega)
       rw [e] at l ⊢
       rw [two_wraps (by omega) (by omega) (by omega) (by omega)]
       omega)
    | (rw [tab_at x (by omega) (by omega)]
       have l := Lib.bitLen_le8' x (by omega) (by omega)
       exact one_wrap (by omega) (by omega))
theorem Len64_any {x : Nat} (hx : x < 18446744073709551616) (w : World) :
    Calls Tryd.prog 33 #[.int .u64 x] w fun e w' => e = .returned (.int .i64 (lenN x)) ∧ w = w' := by
  refine (len64_any x w (by omega) (by omega)).mono ?_
  rintro e w' ⟨rfl, rfl⟩
  exact ⟨by unfold lenN; rw [Int.toNat_natCast], rfl⟩
theorem High_any {x : Nat} (hx : x < 18446744073709551616) (w : World) :
    Calls Tryd.prog 26 #[.int .u64 x] w fun e w' => e = .returned (.int .i64 ((lenN x : Int) - 1)) ∧ w = w' := by
  have l := lenN_le x hx
  have L := Len64_any hx
  generalize lenN x = m at *
  have i0 : (m : Int) ≤ 64 := by omega
  go_enter Tryd.func26, Tryd.ntmps26
  go_wp2_with fail
  refine (L _).mono ?_
  rintro e w' ⟨rfl, rfl⟩
  go_wp2
  go_ret
  exact ⟨rfl, rfl⟩
end Go.Proofs.YtpbahbigimnboaaDoor
