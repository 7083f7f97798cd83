/-
  The hash of a text, as a plain function: blocks, states, the tail. No program in sight.
-/
import Derived.Test.YtcifnfffoiiceaaDoorDoor2
import Derived.Laws.CopyOwn
namespace Go.Proofs.YtcifnfffoiiceaaDoor
open Go.RowKit
set_option linter.unusedVariables false

theorem bytesN_length : ∀ l : List Nat, (bytesN l).length = 4 * l.length
  | [] => rfl
  | x :: l => by simp [bytesN, bytesN_length l]; omega
theorem bytesN_bytes : ∀ l : List Nat, Bytes (bytesN l)
  | [] => fun c hc => by cases hc
  | x :: l => fun c hc => by
    simp only [bytesN, List.mem_cons] at hc
    rcases hc with rfl | rfl | rfl | rfl | hc
    · omega
    · omega
    · omega
    · omega
    · exact bytesN_bytes l c hc
theorem cutL_bytes {w : Int} {l : List Nat} (h : Bytes l) : Bytes (cutL w l) := by
  intro c hc
  unfold cutL at hc
  rw [List.mem_append] at hc
  rcases hc with hc | hc
  · exact h c (List.mem_of_mem_take hc)
  · rw [List.mem_replicate] at hc
    omega
theorem compress_len (w : Int) (S K : List Nat) : (compressN w S K).length = 32 := by
  have h : (bytesN (sumsN (wordsN S) (listOf (roundsN tableK (schedN 48 (wordsN K)) 64 (stOf (wordsN S)))))).length = 32 := by rw [bytesN_length, sums_length]
  rw [compress_eq, cutL_length h, h]
theorem compress_bytes (w : Int) (S K : List Nat) : Bytes (compressN w S K) := by
  rw [compress_eq]
  exact cutL_bytes (bytesN_bytes _)
/-- The state before the first block, of a width. -/
def beginN (wd : Int) : List Nat := cutL wd firstN
theorem begin_len (wd : Int) : (beginN wd).length = 32 := by unfold beginN; rw [cutL_length first_len, first_len]
theorem begin_bytes (wd : Int) : Bytes (beginN wd) := cutL_bytes first_bytes
attribute [irreducible] beginN
/-- The i-th block of a text. -/
def chunk (T : List Nat) (i : Nat) : List Nat := (T.drop (64 * i)).take 64
theorem chunk_len {T : List Nat} {i : Nat} (h : 64 * i + 64 ≤ T.length) : (chunk T i).length = 64 := by
  unfold chunk
  rw [List.length_take, List.length_drop]
  omega
theorem chunk_bytes {T : List Nat} (h : Bytes T) (i : Nat) : Bytes (chunk T i) := h.part _ _
theorem chunk_app {T b : List Nat} {i : Nat} (h : 64 * i + 64 ≤ T.length) : chunk (T ++ b) i = chunk T i := by
  unfold chunk
  rw [List.drop_append_of_le_length (by omega), List.take_append_of_le_length (by rw [List.length_drop]; omega)]
/-- The state behind k blocks. -/
def stateN (wd : Int) (T : List Nat) (k : Nat) : List Nat := (List.range k).foldl (fun s i => compressN wd s (chunk T i)) (beginN wd)
theorem state_zero (wd : Int) (T : List Nat) : stateN wd T 0 = beginN wd := rfl
theorem state_succ (wd : Int) (T : List Nat) (k : Nat) : stateN wd T (k + 1) = compressN wd (stateN wd T k) (chunk T k) := by
  unfold stateN
  rw [List.range_succ, List.foldl_append]
  rfl
theorem state_len (wd : Int) (T : List Nat) (k : Nat) : (stateN wd T k).length = 32 := by
  cases k with
  | zero => rw [state_zero]; exact begin_len wd
  | succ k => rw [state_succ]; exact compress_len _ _ _
theorem state_bytes (wd : Int) (T : List Nat) (k : Nat) : Bytes (stateN wd T k) := by
  cases k with
  | zero => rw [state_zero]; exact begin_bytes wd
  | succ k => rw [state_succ]; exact compress_bytes _ _ _
theorem state_app (wd : Int) {T b : List Nat} {k : Nat} (h : 64 * k ≤ T.length) : stateN wd (T ++ b) k = stateN wd T k := by
  induction k with
  | zero => rw [state_zero, state_zero]
  | succ k ih => rw [state_succ, state_succ, ih (by omega), chunk_app (by omega)]
attribute [irreducible] stateN
/-- What stands behind a text of n bytes. -/
def tailN (n : Nat) : List Nat := 128 :: (List.replicate ((119 - n % 64) % 64) 0 ++ bigL (8 * n) 8)
theorem tail_len (n : Nat) : (tailN n).length = 9 + (119 - n % 64) % 64 := by
  simp [tailN, bigL_length]
  omega
theorem tail_whole (n : Nat) : (n + (tailN n).length) % 64 = 0 := by rw [tail_len]; omega
theorem tail_bytes (n : Nat) : Bytes (tailN n) := by
  intro c hc
  simp only [tailN, List.mem_cons, List.mem_append, List.mem_replicate] at hc
  rcases hc with rfl | ⟨_, rfl⟩ | hc
  · omega
  · omega
  · exact bigL_bytes _ _ c hc
/-- The hash of a text. -/
def sumN (wd : Int) (T : List Nat) : List Nat := stateN wd (T ++ tailN T.length) ((T ++ tailN T.length).length / 64)
theorem sum_len (wd : Int) (T : List Nat) : (sumN wd T).length = 32 := state_len _ _ _
theorem sum_bytes (wd : Int) (T : List Nat) : Bytes (sumN wd T) := state_bytes _ _ _
/-- What a hasher's row of 64 bytes holds behind a text: its last bytes, that fill no block. -/
structure RestOf (T R : List Nat) : Prop where
  len : R.length = 64
  bytes : Bytes R
  head : R.take (T.length % 64) = T.drop (64 * (T.length / 64))
theorem rest_zero : RestOf [] (List.replicate 64 0) := ⟨by decide, fun c hc => by rw [List.mem_replicate] at hc; omega, rfl⟩
theorem splice_bytes {R b : List Nat} {o : Nat} (h : Bytes R) (hb : Bytes b) : Bytes (Go.splice R o b) := by
  intro c hc
  unfold Go.splice at hc
  rw [List.mem_append, List.mem_append] at hc
  rcases hc with hc | hc | hc
  · exact h c (List.mem_of_mem_take hc)
  · exact hb c hc
  · exact h c (List.mem_of_mem_drop hc)
theorem rest_head {T R b : List Nat} (h : RestOf T R) (hm : T.length % 64 + b.length ≤ 64) : (Go.splice R (T.length % 64) b).take (T.length % 64 + b.length) = (T ++ b).drop (64 * (T.length / 64)) := by
  have hl : (R.take (T.length % 64)).length = T.length % 64 := by rw [List.length_take, h.len]; omega
  unfold Go.splice
  rw [List.drop_append_of_le_length (by omega), ← h.head, ← List.append_assoc, List.take_append_of_le_length (by rw [List.length_append, hl]; exact Nat.le_refl _), List.take_of_length_le (by rw [List.length_append, hl]; exact Nat.le_refl _)]
/-- Some bytes more, and no block is full. -/
theorem rest_more {T R b : List Nat} (h : RestOf T R) (hb : Bytes b) (hm : T.length % 64 + b.length < 64) : RestOf (T ++ b) (Go.splice R (T.length % 64) b) ∧ (T ++ b).length / 64 = T.length / 64 ∧ ∀ wd, stateN wd (T ++ b) ((T ++ b).length / 64) = stateN wd T (T.length / 64) := by
  have e : (T ++ b).length / 64 = T.length / 64 := by rw [List.length_append]; omega
  have e2 : (T ++ b).length % 64 = T.length % 64 + b.length := by rw [List.length_append]; omega
  refine ⟨⟨by rw [Go.length_splice _ _ _ (by rw [h.len]; omega), h.len], splice_bytes h.bytes hb, ?_⟩, e, fun wd => ?_⟩
  · rw [e, e2]
    exact rest_head h (by omega)
  · rw [e]
    exact state_app wd (by omega)
/-- Some bytes more, and a block is full. -/
theorem rest_full {T R b : List Nat} (h : RestOf T R) (hb : Bytes b) (hm : T.length % 64 + b.length = 64) : RestOf (T ++ b) (Go.splice R (T.length % 64) b) ∧ ∀ wd, stateN wd (T ++ b) ((T ++ b).length / 64) = compressN wd (stateN wd T (T.length / 64)) (Go.splice R (T.length % 64) b) := by
  have e : (T ++ b).length / 64 = T.length / 64 + 1 := by rw [List.length_append]; omega
  have e2 : (T ++ b).length % 64 = 0 := by rw [List.length_append]; omega
  have hl : (Go.splice R (T.length % 64) b).length = 64 := by rw [Go.length_splice _ _ _ (by rw [h.len]; omega), h.len]
  have hk := rest_head h (b := b) (by omega)
  rw [hm, List.take_of_length_le (by omega)] at hk
  refine ⟨⟨hl, splice_bytes h.bytes hb, ?_⟩, fun wd => ?_⟩
  · rw [e, e2, List.drop_eq_nil_of_le (by rw [List.length_append]; omega)]
    rfl
  · rw [e, state_succ, state_app wd (by omega)]
    congr 1
    unfold chunk
    rw [← hk, List.take_of_length_le (by omega)]
end Go.Proofs.YtcifnfffoiiceaaDoor
