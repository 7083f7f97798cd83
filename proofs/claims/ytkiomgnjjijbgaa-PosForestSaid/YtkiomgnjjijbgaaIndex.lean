/-
  Leaf and Index, by the program and by the reference.
-/
import Derived.Test.YtkiomgnjjijbgaaBox
namespace Go.Proofs.Ytkiomgnjjijbgaa
open Go.RowKit
set_option linter.unusedVariables false

/-- What a call of the program's Spot says at p; of the reference's. -/
def Says (p x y : Nat) (c : Bool) : Prop := ∀ w : World, Calls Try.prog 13 #[.int .u64 p] w fun e w' => e = .returned (.tuple #[spotV x y, .bool c]) ∧ Below w.heap.size w w'
def RefSays (p x y : Nat) (c : Bool) : Prop := ∀ w : World, Calls Try.prog 14 #[.int .u64 p] w fun e w' => e = .returned (.tuple #[spotV x y, .bool c]) ∧ Below w.heap.size w w'
theorem says_both {p : Nat} (hp : p < 18446744073709551616) : ∃ (a b : Nat) (c : Bool), Says p a b c ∧ RefSays p a b c ∧ (c = true → Right a b ∧ placeN a b = p) := by
  by_cases h : p < 9223372036854775807
  · obtain ⟨a, b, r, rfl⟩ := spot_at h
    exact ⟨a, b, true, Spot_yes r, refSpot_yes r, fun _ => ⟨r, rfl⟩⟩
  · exact ⟨0, 0, false, Spot_no hp (by omega), refSpot_no hp (by omega), fun h => by cases h⟩

theorem Leaf_yes {n : Nat} (hn : n < 4611686018427387904) (w : World) :
    Calls Try.prog 26 #[.int .u64 n] w fun e w' => e = .returned (.tuple #[.int .u64 (nodeN n), .bool true]) ∧ w = w' := by
  have hm : n ≤ 4611686018427387903 := by omega
  have i2 : decide ((4611686018427387904 : Int) ≤ (n : Int)) = false := decide_eq_false (by omega)
  clear hn
  go_enter Try.func26, Try.ntmps26
  go_wp2_with fail
  refine (nodes_any (by omega) _).mono ?_
  rintro e w' ⟨rfl, rfl⟩
  go_wp2
  go_ret2
  exact ⟨rfl, rfl⟩
theorem Leaf_no {n : Nat} (hn : 4611686018427387904 ≤ n) (w : World) :
    Calls Try.prog 26 #[.int .u64 n] w fun e w' => e = .returned (.tuple #[.int .u64 0, .bool false]) ∧ w = w' := by
  have i0 : (4611686018427387904 : Int) ≤ (n : Int) := by omega
  go_enter Try.func26, Try.ntmps26
  go_wp2
  go_ret2
  exact ⟨rfl, rfl⟩
theorem refLeaf_yes {n : Nat} (hn : n < 4611686018427387904) (w : World) :
    Calls Try.prog 27 #[.int .u64 n] w fun e w' => e = .returned (.tuple #[.int .u64 (nodeN n), .bool true]) ∧ w = w' := by
  have hm : n ≤ 4611686018427387903 := by omega
  have i2 : decide ((4611686018427387904 : Int) ≤ (n : Int)) = false := decide_eq_false (by omega)
  clear hn
  go_enter Try.func27, Try.ntmps27
  go_wp2_with fail
  refine (refNodes_any (by omega) _).mono ?_
  rintro e w' ⟨rfl, rfl⟩
  go_wp2
  go_ret2
  exact ⟨rfl, rfl⟩
theorem refLeaf_no {n : Nat} (hn : 4611686018427387904 ≤ n) (w : World) :
    Calls Try.prog 27 #[.int .u64 n] w fun e w' => e = .returned (.tuple #[.int .u64 0, .bool false]) ∧ w = w' := by
  have i0 : (4611686018427387904 : Int) ≤ (n : Int) := by omega
  go_enter Try.func27, Try.ntmps27
  go_wp2
  go_ret2
  exact ⟨rfl, rfl⟩
theorem leaf_both (n : Nat) : ∃ (a : Nat) (c : Bool), (∀ w : World, Calls Try.prog 26 #[.int .u64 n] w fun e w' => e = .returned (.tuple #[.int .u64 a, .bool c]) ∧ w = w') ∧
    (∀ w : World, Calls Try.prog 27 #[.int .u64 n] w fun e w' => e = .returned (.tuple #[.int .u64 a, .bool c]) ∧ w = w') := by
  by_cases h : n < 4611686018427387904
  · exact ⟨nodeN n, true, Leaf_yes h, refLeaf_yes h⟩
  · exact ⟨0, false, Leaf_no (by omega), refLeaf_no (by omega)⟩

def indexN (x y : Nat) (c : Bool) : Nat × Bool := if c = true ∧ x = 0 then (y, true) else (0, false)
theorem Index_any {p x y : Nat} {c : Bool} (S : Says p x y c) (w : World) :
    Calls Try.prog 28 #[.int .u64 p] w fun e w' => e = .returned (.tuple #[.int .u64 (indexN x y c).1, .bool (indexN x y c).2]) ∧ Below w.heap.size w w' := by
  cases c with
  | false =>
    go_enter Try.func28, Try.ntmps28
    go_wp2_with fail
    refine (S _).mono ?_
    rintro e w' ⟨rfl, q⟩
    unfold spotV
    have s := q.size
    go_wp2
    go_ret2
    exact ⟨rfl, q.alloc s _⟩
  | true =>
    by_cases h0 : x = 0
    · subst h0
      go_enter Try.func28, Try.ntmps28
      go_wp2_with fail
      refine (S _).mono ?_
      rintro e w' ⟨rfl, q⟩
      unfold spotV
      have s := q.size
      go_wp2
      go_ret2
      exact ⟨rfl, q.alloc s _⟩
    · have i0 : (0 : Int) < (x : Int) := by omega
      have e : indexN x y true = (0, false) := by unfold indexN; rw [if_neg (by simp [h0])]
      rw [e]
      clear h0 e
      go_enter Try.func28, Try.ntmps28
      go_wp2_with fail
      refine (S _).mono ?_
      rintro e w' ⟨rfl, q⟩
      unfold spotV
      have s := q.size
      go_wp2
      go_ret2
      exact ⟨rfl, q.alloc s _⟩
theorem refIndex_any {p x y : Nat} {c : Bool} (S : RefSays p x y c) (w : World) :
    Calls Try.prog 29 #[.int .u64 p] w fun e w' => e = .returned (.tuple #[.int .u64 (indexN x y c).1, .bool (indexN x y c).2]) ∧ Below w.heap.size w w' := by
  cases c with
  | false =>
    go_enter Try.func29, Try.ntmps29
    go_wp2_with fail
    refine (S _).mono ?_
    rintro e w' ⟨rfl, q⟩
    unfold spotV
    have s := q.size
    go_wp2
    go_ret2
    exact ⟨rfl, q.alloc s _⟩
  | true =>
    by_cases h0 : x = 0
    · subst h0
      go_enter Try.func29, Try.ntmps29
      go_wp2_with fail
      refine (S _).mono ?_
      rintro e w' ⟨rfl, q⟩
      unfold spotV
      have s := q.size
      go_wp2
      go_ret2
      exact ⟨rfl, q.alloc s _⟩
    · have i0 : ((x : Int) == 0) = false := beq_eq_false_iff_ne.2 (by omega)
      have e : indexN x y true = (0, false) := by unfold indexN; rw [if_neg (by simp [h0])]
      rw [e]
      clear h0 e
      go_enter Try.func29, Try.ntmps29
      go_wp2_with fail
      refine (S _).mono ?_
      rintro e w' ⟨rfl, q⟩
      unfold spotV
      have s := q.size
      go_wp2
      go_ret2
      exact ⟨rfl, q.alloc s _⟩
attribute [irreducible] indexN
end Go.Proofs.Ytkiomgnjjijbgaa
