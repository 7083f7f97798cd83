/-
  Widths: what a narrow hash is of the widest. No program's walk in sight.
-/
import Derived.Test.YtcifnfffoiiceaaDoorHashN
namespace Go.Proofs.YtcifnfffoiiceaaDoor
open Go.RowKit
set_option linter.unusedVariables false

theorem widthN_pos (wd : Int) : 1 ≤ widthN wd := by
  unfold widthN
  split
  · exact Nat.le_refl _
  · split
    · decide
    · omega
theorem widthN_max (wd : Int) : widthN wd ≤ 32 := by
  unfold widthN
  split
  · decide
  · split
    · exact Nat.le_refl _
    · omega
theorem width_own (wd : Int) : widthN (widthN wd : Int) = widthN wd := by
  have h1 := widthN_pos wd
  have h2 := widthN_max wd
  generalize widthN wd = n at *
  unfold widthN
  rw [if_neg (by omega), if_neg (by omega)]
  omega
theorem cut_own (wd : Int) (l : List Nat) : cutL (widthN wd : Int) l = cutL wd l := by
  unfold cutL
  rw [width_own]
theorem cut_at {wd : Int} {l : List Nat} {i x : Nat} (h : l[i]? = some x) : (cutL wd l)[i]? = some (if i < widthN wd then x else 0) := by
  have hi := (List.getElem?_eq_some_iff.1 h).1
  unfold cutL
  by_cases hw : i < widthN wd
  · rw [List.getElem?_append_left (by rw [List.length_take]; omega), List.getElem?_take, if_pos hw, if_pos hw, h]
  · rw [List.getElem?_append_right (by rw [List.length_take]; omega), if_neg hw, List.getElem?_replicate, if_pos (by rw [List.length_take]; omega)]
theorem compress_own (wd : Int) (S K : List Nat) : compressN (widthN wd : Int) S K = compressN wd S K := by rw [compress_eq, compress_eq, cut_own]
theorem compress_full (wd : Int) (S K : List Nat) : compressN wd S K = cutL wd (compressN 32 S K) := by
  rw [compress_eq wd, compress_eq 32]
  have h : (bytesN (sumsN (wordsN S) (listOf (roundsN tableK (schedN 48 (wordsN K)) 64 (stOf (wordsN S)))))).length = 32 := by rw [bytesN_length, sums_length]
  generalize bytesN (sumsN (wordsN S) (listOf (roundsN tableK (schedN 48 (wordsN K)) 64 (stOf (wordsN S))))) = l at *
  have e : cutL 32 l = l := by
    unfold cutL
    rw [show widthN 32 = 32 from rfl, List.take_of_length_le (by omega), h]
    simp
  rw [e]
theorem begin_own (wd : Int) : beginN (widthN wd : Int) = beginN wd := by
  unfold beginN
  rw [cut_own]
theorem state_own (wd : Int) (T : List Nat) (k : Nat) : stateN (widthN wd : Int) T k = stateN wd T k := by
  induction k with
  | zero => rw [state_zero, state_zero, begin_own]
  | succ k ih => rw [state_succ, state_succ, ih, compress_own]
theorem sum_own (wd : Int) (T : List Nat) : sumN (widthN wd : Int) T = sumN wd T := by
  unfold sumN
  rw [state_own]
theorem sum_last (wd : Int) (T : List Nat) : ∃ S K, sumN wd T = compressN wd S K := by
  have h := tail_len T.length
  have hw := tail_whole T.length
  obtain ⟨k, hk⟩ : ∃ k, (T ++ tailN T.length).length / 64 = k + 1 := ⟨(T ++ tailN T.length).length / 64 - 1, by rw [List.length_append]; omega⟩
  unfold sumN
  rw [hk, state_succ]
  exact ⟨_, _, rfl⟩
theorem sum_above (wd : Int) (T : List Nat) {i : Nat} (hi : i < 32) (hw : widthN wd ≤ i) : (sumN wd T)[i]? = some 0 := by
  obtain ⟨S, K, e⟩ := sum_last wd T
  rw [e, compress_full]
  have hl := compress_len 32 S K
  rw [cut_at (List.getElem?_eq_getElem (by omega)), if_neg (by omega)]
theorem compress_above (wd : Int) (S K : List Nat) {i : Nat} (hi : i < 32) (hw : widthN wd ≤ i) : (compressN wd S K)[i]? = some 0 := by
  rw [compress_full]
  have hl := compress_len 32 S K
  rw [cut_at (List.getElem?_eq_getElem (by omega)), if_neg (by omega)]
theorem compress_below (wd : Int) (S K : List Nat) {i : Nat} (hw : i < widthN wd) : (compressN wd S K)[i]? = (compressN 32 S K)[i]? := by
  rw [compress_full]
  have hl := compress_len 32 S K
  have hm := widthN_max wd
  rw [cut_at (List.getElem?_eq_getElem (by omega)), if_pos hw, List.getElem?_eq_getElem (by omega)]
theorem width_cases (wd : Int) : (wd < 1 ∧ widthN wd = 1) ∨ (32 < wd ∧ widthN wd = 32) ∨ (∃ n : Nat, wd = (n : Int) ∧ 1 ≤ n ∧ n ≤ 32 ∧ widthN wd = n) := by
  unfold widthN
  by_cases h1 : wd < 1
  · exact .inl ⟨h1, if_pos h1⟩
  · by_cases h2 : 32 < wd
    · exact .inr (.inl ⟨h2, by rw [if_neg h1, if_pos h2]⟩)
    · exact .inr (.inr ⟨wd.toNat, by omega, by omega, by omega, by rw [if_neg h1, if_neg h2]⟩)
end Go.Proofs.YtcifnfffoiiceaaDoor
