/-
  The walks of OnesCount64 and num.Ones.
-/
import Derived.Test.YtpbahbigimnboaaDoorOnes
namespace Go.Proofs.YtpbahbigimnboaaDoor
open Go.RowKit
set_option linter.unusedVariables false

def q1 (x : Int) : Int := IntKind.u64.wrap (bits .and .u64 (x / 2) 6148914691236517205 + bits .and .u64 x 6148914691236517205)
def q2 (y : Int) : Int := IntKind.u64.wrap (bits .and .u64 (y / 4) 3689348814741910323 + bits .and .u64 y 3689348814741910323)
def q3 (z : Int) : Int := bits .and .u64 (IntKind.u64.wrap (z / 16 + z)) 1085102592571150095
def q4 (u : Int) : Int := IntKind.u64.wrap (u + u / 256)
def q5 (u : Int) : Int := IntKind.u64.wrap (u + u / 65536)
def q6 (u : Int) : Int := IntKind.u64.wrap (u + u / 4294967296)
theorem wrapU (n : Nat) (h : n < 18446744073709551616) : IntKind.u64.wrap (n : Int) = n := by
  have e : IntKind.u64.wrap (n : Int) = (n : Int) % 18446744073709551616 := by simp [IntKind.wrap, IntKind.bits, IntKind.signed]
  rw [e]
  omega
theorem andU (a b : Nat) (ha : a < 18446744073709551616) (hb : b < 18446744073709551616) : bits .and .u64 (a : Int) (b : Int) = ((a &&& b : Nat) : Int) := u64_and_nat a b ha hb
theorem q1_nat {x : Nat} (hx : x < 18446744073709551616) (h : s1 x < 18446744073709551616) : q1 x = (s1 x : Nat) := by
  unfold q1
  have e : (x : Int) / 2 = ((x / 2 : Nat) : Int) := by omega
  have m : (6148914691236517205 : Int) = ((6148914691236517205 : Nat) : Int) := rfl
  rw [e, m, andU _ _ (by omega) (by decide), andU _ _ hx (by decide), ← Int.natCast_add]
  exact wrapU _ h
theorem q2_nat {x : Nat} (hx : x < 18446744073709551616) (h : s2 x < 18446744073709551616) : q2 x = (s2 x : Nat) := by
  unfold q2
  have e : (x : Int) / 4 = ((x / 4 : Nat) : Int) := by omega
  have m : (3689348814741910323 : Int) = ((3689348814741910323 : Nat) : Int) := rfl
  rw [e, m, andU _ _ (by omega) (by decide), andU _ _ hx (by decide), ← Int.natCast_add]
  exact wrapU _ h
theorem q3_nat {x : Nat} (hx : x / 16 + x < 18446744073709551616) : q3 x = (s3 x : Nat) := by
  unfold q3
  have e : (x : Int) / 16 + x = ((x / 16 + x : Nat) : Int) := by omega
  have m : (1085102592571150095 : Int) = ((1085102592571150095 : Nat) : Int) := rfl
  rw [e, m, wrapU _ hx, andU _ _ hx (by decide)]
  rfl
theorem and127_u64 {u : Nat} (h : u < 18446744073709551616) : bits .and .i64 (wrap64 (u : Int)) 127 = ((u % 128 : Nat) : Int) := by
  have hw : wrap64 (u : Int) % 18446744073709551616 = (u : Int) := by unfold wrap64; omega
  have hb : (BitVec.ofInt 64 (wrap64 (u : Int)) &&& BitVec.ofInt 64 127).toNat = u % 128 := by
    have e1 : (BitVec.ofInt 64 127).toNat = 127 := by decide
    have e2 : (BitVec.ofInt 64 (wrap64 (u : Int))).toNat = u := by
      rw [BitVec.toNat_ofInt]
      show (wrap64 (u : Int) % 18446744073709551616).toNat = u
      rw [hw, Int.toNat_natCast]
    rw [BitVec.toNat_and, e1, e2, nat_mask7]
  have e3 : bits .and .i64 (wrap64 (u : Int)) 127 = IntKind.i64.wrap (((BitVec.ofInt 64 (wrap64 (u : Int)) &&& BitVec.ofInt 64 127).toNat : Nat) : Int) := rfl
  rw [e3, hb, IntKind.wrap_i64]
  have : u % 128 < 128 := Nat.mod_lt _ (by decide)
  omega
theorem oc_eq {x : Nat} (hx : x < 18446744073709551616) : bits .and .i64 (wrap64 (q6 (q5 (q4 (q3 (q2 (q1 x))))))) 127 = (ones x : Int) := by
  obtain ⟨u, hu⟩ : ∃ u, u = s3 (s2 (s1 x)) := ⟨_, rfl⟩
  obtain ⟨u1, hu1⟩ : ∃ u1, u1 = u + u / 256 := ⟨_, rfl⟩
  obtain ⟨u2, hu2⟩ : ∃ u2, u2 = u1 + u1 / 65536 := ⟨_, rfl⟩
  obtain ⟨u3, hu3⟩ : ∃ u3, u3 = u2 + u2 / 4294967296 := ⟨_, rfl⟩
  obtain ⟨h1, h2, h3, h4, h5, h6, h7, h8⟩ := swar x hx u u1 u2 u3 hu hu1 hu2 hu3
  rw [q1_nat hx h1, q2_nat h1 h2, q3_nat h3, ← hu]
  clear hu h1 h2 h3
  have e4 : q4 u = (u1 : Int) := by
    unfold q4
    have e : (u : Int) + u / 256 = (u1 : Int) := by omega
    rw [e]
    exact wrapU _ h5
  have e5 : q5 u1 = (u2 : Int) := by
    unfold q5
    have e : (u1 : Int) + u1 / 65536 = (u2 : Int) := by omega
    rw [e]
    exact wrapU _ h6
  have e6 : q6 u2 = (u3 : Int) := by
    unfold q6
    have e : (u2 : Int) + u2 / 4294967296 = (u3 : Int) := by omega
    rw [e]
    exact wrapU _ h7
  rw [e4, e5, e6, ← h8]
  exact and127_u64 h7
theorem count_any {x : Nat} (hx : x < 18446744073709551616) (w : World) :
    Calls Tryd.prog 36 #[.int .u64 x] w fun e w' => e = .returned (.int .i64 (ones x)) ∧ w = w' := by
  have E := Lib.hid (oc_eq hx)
  go_enter Tryd.func36, Tryd.ntmps36
  go_wp2
  go_ret
  exact ⟨by rw [← E.out]; rfl, rfl⟩
theorem Ones_any {x : Nat} (hx : x < 18446744073709551616) (w : World) :
    Calls Tryd.prog 34 #[.int .u64 x] w fun e w' => e = .returned (.int .i64 (ones x)) ∧ w = w' := by
  go_enter Tryd.func34, Tryd.ntmps34
  go_wp2_with fail
  refine (count_any hx _).mono ?_
  rintro e w' ⟨rfl, rfl⟩
  go_wp2
  go_ret
  exact ⟨rfl, rfl⟩
end Go.Proofs.YtpbahbigimnboaaDoor
