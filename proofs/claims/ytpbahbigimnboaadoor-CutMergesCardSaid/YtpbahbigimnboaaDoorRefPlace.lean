/-
  massifref3.Place.
-/
import Derived.Test.YtpbahbigimnboaaDoorRefPos
namespace Go.Proofs.YtpbahbigimnboaaDoor
open Go.RowKit
set_option linter.unusedVariables false

theorem wrap_i64_id {n : Int} (h0 : -9223372036854775808 ≤ n) (h1 : n ≤ 9223372036854775807) : IntKind.i64.wrap n = n := by
  rw [IntKind.wrap_i64]; omega

theorem quiet_add_same {P : Program} {f : FuncId} {args : Array Value} {w : World} {a n : Nat} {v : Value}
    (h : Calls P f args (w.drewN (a + n)) fun e w' => e = .returned v ∧ w' = w.drewN (a + n)) :
    Calls P f args (w.drewN (a + n)) fun e w'' => e = .returned v ∧ ∃ m, w'' = w.drewN (a + m) :=
  h.mono fun _ _ ⟨he, hm⟩ => ⟨he, n, hm⟩
theorem ret2_pl {a b : Int} {c : Bool} (h : a = b) : Ending.returned (.tuple #[.int .u64 a, .bool c]) = .returned (.tuple #[.int .u64 b, .bool c]) := by rw [h]
theorem refPlace_high {h k : Nat} (hh : h < 256) (hk : k < 18446744073709551616) (h1 : 62 < h) (w : World) :
    Calls Tryd.prog 35 #[spotV h k] w fun e w' => e = .returned (.tuple #[.int .u64 0, .bool false]) ∧ Below w.heap.size w w' := by
  unfold spotV
  have i1 : (62 : Int) < (h : Int) := by omega
  have i2 : decide ((62 : Int) < (h : Int)) = true := decide_eq_true i1
  go_enter Tryd.func35, Tryd.ntmps35
  go_wp2_with fail
  go_quiet (fail)
  go_wp2
  go_ret2
  exact ⟨rfl, below_drewN ((Below.refl _ _).alloc (Nat.le_refl _) _) _⟩
theorem refPlace_wide {h k : Nat} (hk : k < 18446744073709551616) (h1 : h ≤ 62) (h2 : 2 ^ (62 - h) ≤ k) (w : World) :
    Calls Tryd.prog 35 #[spotV h k] w fun e w' => e = .returned (.tuple #[.int .u64 0, .bool false]) ∧ Below w.heap.size w w' := by
  unfold spotV
  have i2 : decide ((62 : Int) < (h : Int)) = false := decide_eq_false (by omega)
  obtain ⟨g, hg⟩ : ∃ g, g = 62 - h := ⟨_, rfl⟩
  have A0 : IntKind.i64.wrap (62 - (h : Int)) = (g : Int) := by rw [wrap_i64_id (by omega) (by omega)]; omega
  rw [← hg] at h2
  have g63 : g ≤ 63 := by omega
  obtain ⟨q, hq⟩ : ∃ q, 2 ^ g = q := ⟨_, rfl⟩
  rw [hq] at h2
  have HQ := Lib.hid hq
  have i3 : (q : Int) ≤ (k : Int) := by omega
  clear hq hg h2
  go_enter Tryd.func35, Tryd.ntmps35
  go_wp2_with fail
  go_quiet ((go_at_call 24; exact Calls.quiet_of_same (power_quiet g63 HQ.out _)))
  go_wp2
  go_ret2
  exact ⟨rfl, below_drewN ((Below.refl _ _).alloc (Nat.le_refl _) _) _⟩
theorem refPlace_no {h k : Nat} (hh : h < 256) (hk : k < 18446744073709551616) (r : ¬ Right h k) (w : World) :
    Calls Tryd.prog 35 #[spotV h k] w fun e w' => e = .returned (.tuple #[.int .u64 0, .bool false]) ∧ Below w.heap.size w w' := by
  by_cases h1 : 62 < h
  · exact refPlace_high hh hk h1 w
  · refine refPlace_wide hk (by omega) ?_ w
    by_cases hk : k < 2 ^ (62 - h)
    · exact absurd ⟨by omega, hk⟩ r
    · omega
theorem refPlace_yes {h k : Nat} (r : Right h k) (w : World) :
    Calls Tryd.prog 35 #[spotV h k] w fun e w' => e = .returned (.tuple #[.int .u64 (placeN h k), .bool true]) ∧ Below w.heap.size w w' := by
  unfold spotV
  have b := right_bound r
  have kb := right_k r
  have h62 := r.1
  have k2 := r.2
  have hp0 := Nat.two_pow_pos h
  have b1 : 1 ≤ (k + 1) * 2 ^ h := Nat.mul_pos (by omega) hp0
  have pl := place_leaf (h := h) (k := k) (by omega)
  have i2 : decide ((62 : Int) < (h : Int)) = false := decide_eq_false (by omega)
  obtain ⟨g, hg⟩ : ∃ g, g = 62 - h := ⟨_, rfl⟩
  have A0 : IntKind.i64.wrap (62 - (h : Int)) = (g : Int) := by rw [wrap_i64_id (by omega) (by omega)]; omega
  rw [← hg] at k2
  have g63 : g ≤ 63 := by omega
  obtain ⟨q, hq⟩ : ∃ q, 2 ^ g = q := ⟨_, rfl⟩
  rw [hq] at k2
  have HQ := Lib.hid hq
  have i3 : (k : Int) < (q : Int) := by omega
  obtain ⟨t, ht⟩ : ∃ t, 2 ^ h = t := ⟨_, rfl⟩
  have HT := Lib.hid ht
  rw [ht] at b b1 pl hp0
  obtain ⟨c, hc⟩ : ∃ c : Int, c = ((k + 1 : Nat) : Int) := ⟨_, rfl⟩
  obtain ⟨d, hd⟩ : ∃ d : Int, d = (((k + 1) * t : Nat) : Int) := ⟨_, rfl⟩
  have A1 : IntKind.u64.wrap ((k : Int) + 1) = c := by
    rw [hc, wrap_u64]; omega
  have A2 : IntKind.u64.wrap (c * (t : Int)) = d := by
    have e1 : c * (t : Int) = (((k + 1) * t : Nat) : Int) := by rw [hc, ← Int.natCast_mul]
    rw [e1, hd, wrap_u64]
    omega
  obtain ⟨i, hi⟩ : ∃ i : Nat, i = (k + 1) * t - 1 := ⟨_, rfl⟩
  have A3 : IntKind.u64.wrap (d - 1) = (i : Int) := by
    rw [hd, wrap_u64]; omega
  have ib : i ≤ 4611686018427387904 := by omega
  rw [← hi] at pl
  have nm := nodeN_mono_le ib
  rw [nodes_most] at nm
  obtain ⟨nq, hnq⟩ : ∃ nq, nodeN i = nq := ⟨_, rfl⟩
  rw [hnq] at pl nm
  have HPL := Lib.hid (show (nq : Int) + (h : Int) = ((placeN h k : Nat) : Int) by rw [pl]; omega)
  have nb : nq ≤ 9223372036854775807 := nm
  have HNQ := Lib.hid hnq
  have h63 : h ≤ 63 := by omega
  clear pl nm hnq hi hd hc b b1 hp0 ht hq hg k2 r
  go_enter Tryd.func35, Tryd.ntmps35
  go_wp2_with fail
  go_quiet ((go_at_call 24; exact Calls.quiet_of_same (power_quiet g63 HQ.out _)))
  go_wp2_with fail
  go_quiet ((first | (go_at_call 24; exact quiet_add_same (power_quiet h63 HT.out _)) | (go_at_call 37; exact quiet_add_same (refNodes_quiet ib HNQ.out _))))
  go_wp2
  go_ret2
  exact ⟨ret2_pl HPL.out, below_drewN ((Below.refl _ _).alloc (Nat.le_refl _) _) _⟩
end Go.Proofs.YtpbahbigimnboaaDoor
