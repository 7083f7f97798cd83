/-
  The words' bytes, one by one: the plain side of the last loops of both Compress.
-/
import Derived.Test.YtcifnfffoiiceaaDoorCompFacts
namespace Go.Proofs.YtcifnfffoiiceaaDoor
open Go.RowKit
set_option linter.unusedVariables false

/-- Thirty-two bytes by place. -/
def mapL (f : Nat → Nat) : List Nat := (List.range 32).map f
theorem mapL_length (f : Nat → Nat) : (mapL f).length = 32 := by simp [mapL]
theorem mapL_congr {f g : Nat → Nat} (h : ∀ p, p < 32 → f p = g p) : mapL f = mapL g := List.map_congr_left fun p hp => h p (List.mem_range.1 hp)
theorem mapL_set (f : Nat → Nat) (p v : Nat) : (mapL f).set p v = mapL (fun i => if i = p then v else f i) := by
  apply List.ext_getElem?
  intro i
  simp only [mapL, List.getElem?_set, List.getElem?_map, List.length_map, List.length_range]
  by_cases h : p = i
  · subst h
    by_cases hk : p < 32
    · simp [hk]
    · simp [hk]
  · rw [if_neg h]
    by_cases hi : i < 32
    · simp [hi, show ¬ i = p from fun e => h e.symm]
    · simp [hi]
theorem mapL_get (f : Nat → Nat) {p : Nat} (hp : p < 32) : (mapL f)[p]? = some (f p) := by simp [mapL, hp]
theorem mapL_zero : List.replicate 32 0 = mapL fun _ => 0 := by decide
/-- The p-th byte of eight words. -/
def byteF (D : List Nat) (p : Nat) : Nat := D.getD (p / 4) 0 / 256 ^ (3 - p % 4) % 256
theorem bytes_mapL {D : List Nat} (h : D.length = 8) : mapL (byteF D) = bytesN D := by
  match D, h with
  | [a, b, c, d, e, f, g, i], _ => simp [mapL, byteF, bytesN, List.range_succ]
/-- After i words whole and k bytes of the next. -/
def partF (D : List Nat) (i k p : Nat) : Nat := if p < 4 * i then byteF D p else if p < 4 * i + 4 ∧ 4 * i + 4 - k ≤ p then byteF D p else 0
theorem part_start (D : List Nat) : mapL (partF D 0 0) = mapL fun _ => 0 := mapL_congr fun p hp => by
  unfold partF
  rw [if_neg (by omega), if_neg (by omega)]
theorem part_next (D : List Nat) (i : Nat) : mapL (partF D i 4) = mapL (partF D (i + 1) 0) := mapL_congr fun p hp => by
  unfold partF
  by_cases h : p < 4 * i
  · rw [if_pos h, if_pos (by omega)]
  · rw [if_neg h]
    by_cases h2 : p < 4 * i + 4
    · rw [if_pos (by omega), if_pos (by omega)]
    · rw [if_neg (by omega), if_neg (by omega), if_neg (by omega)]
theorem part_end (D : List Nat) : mapL (partF D 8 0) = mapL (byteF D) := mapL_congr fun p hp => by
  unfold partF
  rw [if_pos (by omega)]
theorem part_set {D : List Nat} {i k x : Nat} (hk : k < 4) (hx : D[i]? = some x) : (mapL (partF D i k)).set (4 * i + (3 - k)) (x / 256 ^ k % 256) = mapL (partF D i (k + 1)) := by
  rw [mapL_set]
  refine mapL_congr fun p hp => ?_
  by_cases h : p = 4 * i + (3 - k)
  · rw [if_pos h]
    unfold partF
    rw [if_neg (by omega), if_pos (by omega)]
    unfold byteF
    rw [show p / 4 = i by omega, show 3 - p % 4 = k by omega, getD_of hx]
  · rw [if_neg h]
    unfold partF
    by_cases h1 : p < 4 * i
    · rw [if_pos h1, if_pos h1]
    · rw [if_neg h1, if_neg h1]
      by_cases h2 : p < 4 * i + 4 ∧ 4 * i + 4 - k ≤ p
      · rw [if_pos h2, if_pos (by omega)]
      · rw [if_neg h2, if_neg (by omega)]
/-- The eight sums. -/
def sumsN (V T : List Nat) : List Nat := (List.range 8).map fun i => (V.getD i 0 + T.getD i 0) % 4294967296
theorem sums_length (V T : List Nat) : (sumsN V T).length = 8 := by simp [sumsN]
theorem sums_at {V T : List Nat} {i v t : Nat} (hi : i < 8) (hv : V[i]? = some v) (ht : T[i]? = some t) : (sumsN V T)[i]? = some ((v + t) % 4294967296) := by
  simp [sumsN, hi, hv, ht]
theorem compress_eq (w : Int) (S K : List Nat) : compressN w S K = cutL w (bytesN (sumsN (wordsN S) (listOf (roundsN tableK (schedN 48 (wordsN K)) 64 (stOf (wordsN S)))))) := by
  unfold compressN sumsN
  rfl
theorem next_half (x k : Nat) : x / 256 ^ k / 256 = x / 256 ^ (k + 1) := by rw [Nat.pow_succ, Nat.div_div_eq_div_mul]
end Go.Proofs.YtcifnfffoiiceaaDoor
