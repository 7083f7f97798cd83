/-
  The walks of pos.Spot and pos.Place.
-/
import Derived.Test.YtpbahbigimnboaaDoorPosWalk
import Derived.RegionTactic
import Derived.Deep.QuietTactic
import Derived.BigQuiet
namespace Go.Proofs.YtpbahbigimnboaaDoor
open Go.RowKit
set_option linter.unusedVariables false

def spotV (h k : Nat) : Value := .agg #[.int .u8 (h : Int), .int .u64 (k : Int)]
theorem nodes_most : nodeN 4611686018427387904 = 9223372036854775807 := by
  have e : (2 : Nat) ^ 62 = 4611686018427387904 := by decide
  have o : ones 4611686018427387904 = 1 := by
    have := ones_shift 62 1 (by rw [e]; decide)
    rw [Nat.one_mul, e] at this
    rw [this]; exact ones_one
  unfold nodeN
  rw [o]
theorem nodes_quiet {n q : Nat} (hn : n < 9223372036854775808) (hq : nodeN n = q) (w : World) :
    Calls Tryd.prog 28 #[.int .u64 n] w fun e w' => e = .returned (.int .u64 (q : Int)) ∧ w' = w := by
  rw [← hq]
  exact (nodes_any hn w).mono fun _ _ ⟨he, hw⟩ => ⟨he, hw.symm⟩
theorem Place_no {h k : Nat} (hh : h < 256) (hk : k < 18446744073709551616) (r : ¬ Right h k) (w : World) :
    Calls Tryd.prog 16 #[spotV h k] w fun e w' => e = .returned (.tuple #[.int .u64 0, .bool false]) ∧ Below w.heap.size w w' := by
  unfold spotV
  by_cases h1 : 62 < h
  · have i1 : (62 : Int) < (h : Int) := by omega
    go_enter Tryd.func16, Tryd.ntmps16
    go_wp2
    go_ret2
    exact ⟨rfl, (Below.refl _ _).alloc (Nat.le_refl _) _⟩
  · have hp := Nat.two_pow_pos h
    have h2 : 2 ^ (62 - h) ≤ k := by
      by_cases hk : k < 2 ^ (62 - h)
      · exact absurd ⟨by omega, hk⟩ r
      · omega
    have e : (4611686018427387904 : Int) / 2 ^ h = ((2 ^ (62 - h) : Nat) : Int) := by
      have e1 : (4611686018427387904 : Int) = ((4611686018427387904 : Nat) : Int) := rfl
      have e2 : (4611686018427387904 : Nat) = 2 ^ (62 - h) * 2 ^ h := by
        rw [← Nat.pow_add, show 62 - h + h = 62 by omega]
      rw [e1, cast_pow, ← Int.natCast_ediv, e2, Nat.mul_div_cancel _ hp]
    have HE := Lib.hid e
    have i2 : ((2 ^ (62 - h) : Nat) : Int) ≤ (k : Int) := by omega
    generalize 2 ^ (62 - h) = q at *
    have i1 : (h : Int) ≤ 62 := by omega
    clear h2 e hp r
    have E := HE.out
    go_enter Tryd.func16, Tryd.ntmps16
    go_wp2
    go_ret2
    exact ⟨rfl, (Below.refl _ _).alloc (Nat.le_refl _) _⟩
theorem Place_yes {h k : Nat} (r : Right h k) (w : World) :
    Calls Tryd.prog 16 #[spotV h k] w fun e w' => e = .returned (.tuple #[.int .u64 (placeN h k), .bool true]) ∧ Below w.heap.size w w' := by
  unfold spotV
  have b := right_bound r
  have kb := right_k r
  have h62 := r.1
  have k2 := r.2
  have hp0 := Nat.two_pow_pos h
  have b1 : 1 ≤ (k + 1) * 2 ^ h := Nat.mul_pos (by omega) hp0
  have pl := place_leaf (h := h) (k := k) (by omega)
  have e : (4611686018427387904 : Int) / 2 ^ h = ((2 ^ (62 - h) : Nat) : Int) := by
    have e1 : (4611686018427387904 : Int) = ((4611686018427387904 : Nat) : Int) := rfl
    have e2 : (4611686018427387904 : Nat) = 2 ^ (62 - h) * 2 ^ h := by
      rw [← Nat.pow_add, show 62 - h + h = 62 by omega]
    rw [e1, cast_pow, ← Int.natCast_ediv, e2, Nat.mul_div_cancel _ hp0]
  have i2 : (k : Int) < ((2 ^ (62 - h) : Nat) : Int) := by omega
  generalize 2 ^ (62 - h) = q at *
  have i1 : (h : Int) ≤ 62 := by omega
  clear r k2
  have E := e
  clear e
  obtain ⟨c, hc⟩ : ∃ c : Int, c = ((k + 1 : Nat) : Int) := ⟨_, rfl⟩
  obtain ⟨d, hd⟩ : ∃ d : Int, d = (((k + 1) * 2 ^ h : Nat) : Int) := ⟨_, rfl⟩
  have A1 : IntKind.u64.wrap ((k : Int) + 1) = c := by
    rw [hc, wrap_u64]; omega
  have A2 : IntKind.u64.wrap (c * 2 ^ h) = d := by
    have e1 : c * 2 ^ h = (((k + 1) * 2 ^ h : Nat) : Int) := by rw [hc, cast_pow, ← Int.natCast_mul]
    rw [e1, hd, wrap_u64]
    omega
  obtain ⟨i, hi⟩ : ∃ i : Nat, i = (k + 1) * 2 ^ h - 1 := ⟨_, rfl⟩
  have A3 : IntKind.u64.wrap (d - 1) = (i : Int) := by
    rw [hd, wrap_u64]; omega
  have ib : i < 9223372036854775808 := by omega
  rw [← hi] at pl
  have nm := nodeN_mono_le (show i ≤ 4611686018427387904 by omega)
  rw [nodes_most] at nm
  obtain ⟨nq, hnq⟩ : ∃ nq, nodeN i = nq := ⟨_, rfl⟩
  rw [hnq] at pl nm
  have A4 : IntKind.u64.wrap ((nq : Int) + (h : Int)) = ((placeN h k : Nat) : Int) := by
    rw [pl, wrap_u64]; omega
  have HNQ := Lib.hid hnq
  clear pl nm hnq hi hd hc b b1 hp0
  go_enter Tryd.func16, Tryd.ntmps16
  go_wp2_with fail
  go_quiet ((go_at_call 28; exact Calls.quiet_of_same (nodes_quiet ib HNQ.out _)))
  go_wp2
  go_ret2
  exact ⟨rfl, below_drewN ((Below.refl _ _).alloc (Nat.le_refl _) _) _⟩
end Go.Proofs.YtpbahbigimnboaaDoor
