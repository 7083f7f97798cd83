/-
  PosBack: what the walk asks of places, and the walk, case by case.
-/
import Derived.Test.YtkiomgnjjijbgaaKids
namespace Go.Proofs.Ytkiomgnjjijbgaa
open Go.RowKit
set_option linter.unusedVariables false

theorem sib_sib (y : Nat) : sibN (sibN y) = y := by unfold sibN; split <;> split <;> omega
theorem sib_half (y : Nat) : sibN y / 2 = y / 2 := by unfold sibN; split <;> omega
theorem sib_even (y : Nat) : sibN (2 * y) = 2 * y + 1 := by unfold sibN; rw [if_neg (by omega)]
theorem up_more {x y : Nat} (r : Right x y) (hx : x < 62) : placeN x y < placeN (x + 1) (y / 2) := by
  obtain ⟨k1, k2, k3, _, k5, _⟩ := kids_place (right_up r hx) rfl
  have := Nat.two_pow_pos (x + 1)
  rcases (show y % 2 = 0 ∨ y % 2 = 1 by omega) with h | h
  · rw [show 2 * (y / 2) = y by omega] at k1; omega
  · rw [show 2 * (y / 2) + 1 = y by omega] at k2; omega
theorem PA_yes {x y : Nat} (r : Right x y) (hx : x < 62) (w : World) : Calls Try.prog 31 #[.int .u64 (placeN x y)] w fun e w' => e = .returned (.tuple #[.int .u64 (placeN (x + 1) (y / 2)), .bool true]) ∧ Below w.heap.size w w' := by
  have h := Parent_any (c := true) (Spot_yes r) (fun _ => ⟨r, rfl⟩) w
  rwa [show nParent x y true = (placeN (x + 1) (y / 2), true) by unfold nParent; rw [if_pos ⟨rfl, hx⟩]] at h
theorem SA_yes {x y : Nat} (r : Right x y) (hx : x < 62) (w : World) : Calls Try.prog 33 #[.int .u64 (placeN x y)] w fun e w' => e = .returned (.tuple #[.int .u64 (placeN x (sibN y)), .bool true]) ∧ Below w.heap.size w w' := by
  have h := Sibling_any (c := true) (Spot_yes r) (fun _ => ⟨r, rfl⟩) w
  rwa [show nSibling x y true = (placeN x (sibN y), true) by unfold nSibling; rw [if_pos ⟨rfl, hx⟩]] at h
theorem PA_top {y : Nat} (r : Right 62 y) (w : World) : Calls Try.prog 31 #[.int .u64 (placeN 62 y)] w fun e w' => e = .returned (.tuple #[.int .u64 0, .bool false]) ∧ Below w.heap.size w w' := by
  have h := Parent_any (c := true) (Spot_yes r) (fun _ => ⟨r, rfl⟩) w
  rwa [show nParent 62 y true = (0, false) by unfold nParent; rw [if_neg (by simp)]] at h
theorem SA_top {y : Nat} (r : Right 62 y) (w : World) : Calls Try.prog 33 #[.int .u64 (placeN 62 y)] w fun e w' => e = .returned (.tuple #[.int .u64 0, .bool false]) ∧ Below w.heap.size w w' := by
  have h := Sibling_any (c := true) (Spot_yes r) (fun _ => ⟨r, rfl⟩) w
  rwa [show nSibling 62 y true = (0, false) by unfold nSibling; rw [if_neg (by simp)]] at h
theorem UN_yes {x y : Nat} (r : Right x y) (w : World) : Calls Try.prog 22 #[.int .u64 (placeN x y)] w fun e w' => e = .returned (.tuple #[.int .u64 ((y * 2 ^ x : Nat) : Int), .int .u64 (((y + 1) * 2 ^ x : Nat) : Int), .bool true]) ∧ Below w.heap.size w w' := by
  have h := Under_any (c := true) (Spot_yes r) (fun _ => ⟨r, rfl⟩) w
  rwa [show fromN x y true = y * 2 ^ x by unfold fromN; rw [if_pos rfl], show toN x y true = (y + 1) * 2 ^ x by unfold toN; rw [if_pos rfl]] at h
theorem SI_yes {x y : Nat} (r : Right x y) (w : World) : Calls Try.prog 24 #[.int .u64 (placeN x y)] w fun e w' => e = .returned (.tuple #[.int .u64 (((y + 1) * 2 ^ x : Nat) : Int), .bool true]) ∧ Below w.heap.size w w' := by
  have h := Since_any (c := true) (Spot_yes r) (fun _ => ⟨r, rfl⟩) w
  rwa [show toN x y true = (y + 1) * 2 ^ x by unfold toN; rw [if_pos rfl]] at h
theorem RT_yes {x y : Nat} (r : Right x y) (b : Bool) (hb : ((y % 2 : Nat) == 1) = b) (w : World) : Calls Try.prog 37 #[.int .u64 (placeN x y)] w fun e w' => e = .returned (.bool b) ∧ Below w.heap.size w w' := by
  have h := Right_one (c := true) (Spot_yes r) (by have := right_k r; omega) w
  have e : (((y % 2 : Nat) : Int) == 1) = b := by
    rw [← hb]
    rcases (show y % 2 = 0 ∨ y % 2 = 1 by omega) with h | h <;> rw [h] <;> rfl
  rwa [e] at h
end Go.Proofs.Ytkiomgnjjijbgaa
