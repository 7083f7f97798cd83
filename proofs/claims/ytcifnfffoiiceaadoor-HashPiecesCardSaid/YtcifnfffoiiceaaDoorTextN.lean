/-
  A text with its tail, its blocks and states as lists; rows filled from the front, from the back. No program in sight.
  When two texts of one kind are the same. No program's walk in sight.
  The last two unlike inputs, as a plain function; its law. No program in sight.
-/
import Derived.Test.YtcifnfffoiiceaaDoorHashN
import Derived.Test.YtcifnfffoiiceaaDoorSchedW
namespace Go.Proofs.YtcifnfffoiiceaaDoor
section
open Go.RowKit
set_option linter.unusedVariables false

theorem set_front {C : List Nat} {n j : Nat} (hC : C.length = n) {x : Nat} (hx : C[j]? = some x) : (C.take j ++ List.replicate (n - j) 0).set j x = C.take (j + 1) ++ List.replicate (n - (j + 1)) 0 := by
  have hj : j < n := by rw [← hC]; exact (List.getElem?_eq_some_iff.1 hx).1
  have h1 : (C.take j).length = j := by rw [List.length_take]; omega
  rw [List.set_append_right _ _ (by omega), h1, Nat.sub_self, show n - j = (n - (j + 1)) + 1 by omega, List.replicate_succ, List.set_cons_zero, List.take_add_one, hx, List.append_assoc]
  rfl
theorem front_len {C : List Nat} {n j : Nat} (hC : C.length = n) (hj : j ≤ n) : (C.take j ++ List.replicate (n - j) 0).length = n := by
  rw [List.length_append, List.length_take, List.length_replicate]
  omega
theorem front_get {C : List Nat} {n j : Nat} (hC : C.length = n) (hj : j < n) : (C.take j ++ List.replicate (n - j) 0)[j]? = some 0 := by
  rw [List.getElem?_append_right (by rw [List.length_take]; omega), List.getElem?_replicate, if_pos (by rw [List.length_take]; omega)]
theorem set_back {C : List Nat} {n c : Nat} (hC : C.length = n) (hc : c < n) {x : Nat} (hx : C[c]? = some x) : (List.replicate (c + 1) 0 ++ C.drop (c + 1)).set c x = List.replicate c 0 ++ C.drop c := by
  have e : C.drop c = C[c] :: C.drop (c + 1) := List.drop_eq_getElem_cons (by omega)
  have hx2 : C[c] = x := by
    rw [List.getElem?_eq_getElem (by omega)] at hx
    exact Option.some.inj hx
  rw [List.replicate_succ', List.append_assoc, List.set_append_right _ _ (by simp), List.length_replicate, Nat.sub_self, e, hx2]
  rfl
theorem back_len {C : List Nat} {n m : Nat} (hC : C.length = n) (hm : m ≤ n) : (List.replicate m 0 ++ C.drop m).length = n := by
  rw [List.length_append, List.length_drop, List.length_replicate]
  omega
theorem back_get {C : List Nat} {c : Nat} : (List.replicate (c + 1) 0 ++ C.drop (c + 1))[c]? = some 0 := by
  rw [List.getElem?_append_left (by simp), List.getElem?_replicate, if_pos (by omega)]
/-- A text and what stands behind it. -/
def textN (L : List Nat) : List Nat := L ++ tailN L.length
theorem text_whole (L : List Nat) : (textN L).length = 64 * ((textN L).length / 64) := by
  have := tail_whole L.length
  unfold textN
  rw [List.length_append]
  omega
theorem text_len (L : List Nat) : (textN L).length = L.length + 9 + (119 - L.length % 64) % 64 := by
  unfold textN
  rw [List.length_append, tail_len]
  omega
theorem text_bytes {L : List Nat} (h : Bytes L) : Bytes (textN L) := by
  intro c hc
  rcases List.mem_append.1 hc with hc | hc
  · exact h c hc
  · exact tail_bytes _ c hc
theorem text_eq (L : List Nat) : textN L = (L ++ (128 :: List.replicate ((119 - L.length % 64) % 64) 0)) ++ bigL (8 * L.length) 8 := by
  unfold textN tailN
  simp
/-- How many blocks. -/
def countN (L : List Nat) : Nat := (textN L).length / 64
theorem count_pos (L : List Nat) : 0 < countN L := by
  have := text_len L
  have := text_whole L
  unfold countN
  omega
theorem count_le (L : List Nat) : countN L ≤ L.length + 2 := by
  have := text_len L
  unfold countN
  omega
theorem sum_text (wd : Int) (L : List Nat) : sumN wd L = stateN wd (textN L) (countN L) := rfl
def blocksN (L : List Nat) : List (List Nat) := (List.range (countN L)).map (chunk (textN L))
theorem blocks_len (L : List Nat) : (blocksN L).length = countN L := by simp [blocksN]
theorem blocks_get {L : List Nat} {k : Nat} (h : k < countN L) : (blocksN L)[k]? = some (chunk (textN L) k) := by simp [blocksN, h]
theorem blocks_take {L : List Nat} {k : Nat} (h : k < countN L) : (blocksN L).take (k + 1) = (blocksN L).take k ++ [chunk (textN L) k] := by
  rw [List.take_add_one, blocks_get h]
  rfl
theorem blocks_64 {L : List Nat} : ∀ K ∈ blocksN L, K.length = 64 := by
  intro K hK
  obtain ⟨i, hi, rfl⟩ := List.mem_map.1 hK
  rw [List.mem_range] at hi
  have := text_whole L
  unfold countN at hi
  exact chunk_len (by omega)
theorem chunk_get {L : List Nat} {k j : Nat} (hj : j < 64) : (chunk (textN L) k)[j]? = (textN L)[64 * k + j]? := by
  unfold chunk
  rw [List.getElem?_take, if_pos hj, List.getElem?_drop]
def statesN (wd : Int) (L : List Nat) (n : Nat) : List (List Nat) := (List.range (n + 1)).map (stateN wd (textN L))
theorem states_len (wd : Int) (L : List Nat) (n : Nat) : (statesN wd L n).length = n + 1 := by simp [statesN]
theorem states_get {wd : Int} {L : List Nat} {n k : Nat} (h : k ≤ n) : (statesN wd L n)[k]? = some (stateN wd (textN L) k) := by
  unfold statesN
  rw [List.getElem?_map, List.getElem?_range (by omega)]
  rfl
theorem states_zero (wd : Int) (L : List Nat) : statesN wd L 0 = [beginN wd] := by simp [statesN, state_zero]
theorem states_succ (wd : Int) (L : List Nat) (n : Nat) : statesN wd L (n + 1) = statesN wd L n ++ [compressN wd (stateN wd (textN L) n) (chunk (textN L) n)] := by
  unfold statesN
  rw [List.range_succ, List.map_append, List.map_singleton, state_succ]
end

section
set_option linter.unusedVariables false

theorem leaf_same (t : Nat) (x y : List Nat) : decide (t :: x = t :: y) = decide (x = y) := by
  congr 1
  simp
theorem pair_same {t : Nat} {a b c d : List Nat} (h : a.length = c.length) : decide (t :: (a ++ b) = t :: (c ++ d)) = (decide (a = c) && decide (b = d)) := by
  rw [leaf_same, ← Bool.decide_and]
  congr 1
  apply propext
  exact ⟨fun e => List.append_inj e h, fun ⟨e1, e2⟩ => by rw [e1, e2]⟩
theorem bigL_back {x : Nat} : ∀ n : Nat, x < 256 ^ n → bigV (bigL x n) = x := by
  intro n
  induction n generalizing x with
  | zero => intro h; simp at h; subst h; rfl
  | succ n ih =>
    intro h
    have e : bigL x (n + 1) = bigL (x / 256) n ++ [x % 256] := by
      unfold bigL
      rw [List.range_succ, List.map_append]
      congr 1
      · apply List.map_congr_left
        intro j hj
        rw [List.mem_range] at hj
        rw [show n + 1 - 1 - j = (n - 1 - j) + 1 by omega, Nat.pow_succ, Nat.mul_comm, ← Nat.div_div_eq_div_mul]
      · simp
    rw [e, bigV_snoc, ih (by rw [Nat.pow_succ] at h; exact Nat.div_lt_of_lt_mul (by rw [Nat.mul_comm]; exact h))]
    omega
theorem big_same {n m : Nat} (hn : n < 18446744073709551616) (hm : m < 18446744073709551616) : bigL n 8 = bigL m 8 ↔ n = m := by
  refine ⟨fun e => ?_, fun e => by rw [e]⟩
  have h1 := bigL_back (x := n) 8 (by show n < 18446744073709551616; exact hn)
  have h2 := bigL_back (x := m) 8 (by show m < 18446744073709551616; exact hm)
  rw [← h1, ← h2, e]
theorem root_same {n m : Nat} (hn : n < 18446744073709551616) (hm : m < 18446744073709551616) (a c : List Nat) : decide (3 :: (bigL n 8 ++ a) = 3 :: (bigL m 8 ++ c)) = (decide (n = m) && decide (a = c)) := by
  rw [pair_same (by rw [bigL_length, bigL_length])]
  congr 2
  exact propext (big_same hn hm)
end

section
open Go.RowKit
set_option linter.unusedVariables false

def stB (wd : Int) (l : List Nat) (i : Nat) : List Nat := stateN wd (textN l) (countN l - (i + 1))
def bkB (l : List Nat) (i : Nat) : List Nat := chunk (textN l) (countN l - (i + 1))
def unlikeN (wd : Int) (a b : List Nat) (i : Nat) : Bool := decide (¬ (stB wd a i = stB wd b i ∧ bkB a i = bkB b i))
def stepN (wd : Int) (a b : List Nat) (i : Nat) : List Nat := stB wd a i ++ (stB wd b i ++ (bkB a i ++ bkB b i))
def leastN (a b : List Nat) : Nat := min (countN a) (countN b)
/-- A step of nothing but 0. -/
@[irreducible] def zeroN : List Nat := List.replicate 192 0
theorem zero_len : zeroN.length = 192 := by unfold zeroN; rw [List.length_replicate]
def descN (wd : Int) (a b : List Nat) : List Nat × Bool :=
  if a = b ∨ sumN wd a ≠ sumN wd b then (zeroN, false) else
  match (List.range (leastN a b)).find? (unlikeN wd a b) with
  | none => (zeroN, false)
  | some i => (stepN wd a b i, true)
theorem desc_off {wd : Int} {a b : List Nat} (h : a = b ∨ sumN wd a ≠ sumN wd b) : descN wd a b = (zeroN, false) := by unfold descN; rw [if_pos h]
theorem desc_hit {wd : Int} {a b : List Nat} {i : Nat} (h : ¬ (a = b ∨ sumN wd a ≠ sumN wd b)) (hi : i < leastN a b) (hu : unlikeN wd a b i = true) (hn : ∀ j, j < i → unlikeN wd a b j = false) : descN wd a b = (stepN wd a b i, true) := by
  unfold descN
  rw [if_neg h]
  have : (List.range (leastN a b)).find? (unlikeN wd a b) = some i := by
    rw [List.find?_range_eq_some]
    exact ⟨hu, by simpa using hi, fun j hj => by rw [hn j hj]; rfl⟩
  rw [this]
theorem desc_miss {wd : Int} {a b : List Nat} (h : ¬ (a = b ∨ sumN wd a ≠ sumN wd b)) (hn : ∀ j, j < leastN a b → unlikeN wd a b j = false) : descN wd a b = (zeroN, false) := by
  unfold descN
  rw [if_neg h]
  have : (List.range (leastN a b)).find? (unlikeN wd a b) = none := by
    rw [List.find?_range_eq_none]
    intro j hj
    rw [hn j hj]
    rfl
  rw [this]
theorem like_same {wd : Int} {a b : List Nat} {i : Nat} (h : unlikeN wd a b i = false) : stB wd a i = stB wd b i ∧ bkB a i = bkB b i := by
  unfold unlikeN at h
  simpa using h
theorem bk_len {l : List Nat} {i : Nat} (h : i < countN l) : (bkB l i).length = 64 := by
  unfold bkB
  have := text_whole l
  unfold countN at h ⊢
  exact chunk_len (by omega)
theorem bk_bytes {l : List Nat} {i : Nat} (h : Bytes l) : Bytes (bkB l i) := chunk_bytes (text_bytes h) _
theorem st_len' (wd : Int) (l : List Nat) (i : Nat) : (stB wd l i).length = 32 := state_len _ _ _
theorem st_bytes' (wd : Int) (l : List Nat) (i : Nat) : Bytes (stB wd l i) := state_bytes _ _ _
/-- The last eight bytes tell the length. -/
def L0 (l : List Nat) : List Nat := l ++ (128 :: List.replicate ((119 - l.length % 64) % 64) 0)
theorem tail8 (l : List Nat) : (bkB l 0).drop 56 = bigL (8 * l.length) 8 := by
  have hw := text_whole l
  have hp := count_pos l
  have e : textN l = (L0 l) ++ bigL (8 * l.length) 8 := text_eq l
  have hl0 : (L0 l).length + 8 = 64 * countN l := by
    have : (textN l).length = 64 * countN l := hw
    rw [e, List.length_append, bigL_length] at this
    exact this
  unfold bkB chunk
  rw [Nat.zero_add, List.drop_take, List.drop_drop, e, List.drop_append_of_le_length (by omega), List.drop_of_length_le (by omega), List.nil_append, List.take_of_length_le (by rw [bigL_length]; omega)]
theorem blocks_same {a b : List Nat} (hc : countN a = countN b) (h : ∀ i, i < countN a → bkB a i = bkB b i) : textN a = textN b := by
  have ha := text_whole a
  have hb := text_whole b
  have la : (textN a).length = 64 * countN a := ha
  have lb : (textN b).length = 64 * countN b := hb
  apply List.ext_getElem?
  intro j
  by_cases hj : j < 64 * countN a
  · have hk : j / 64 < countN a := by omega
    have := h (countN a - (j / 64 + 1)) (by omega)
    unfold bkB at this
    rw [← hc, show countN a - (countN a - (j / 64 + 1) + 1) = j / 64 by omega] at this
    have hm : j % 64 < 64 := Nat.mod_lt _ (by decide)
    have h1 := chunk_get (L := a) (k := j / 64) hm
    have h2 := chunk_get (L := b) (k := j / 64) hm
    rw [show 64 * (j / 64) + j % 64 = j by omega] at h1 h2
    rw [← h1, ← h2, this]
  · rw [List.getElem?_eq_none (by omega), List.getElem?_eq_none (by omega)]
theorem len_same {a b : List Nat} (ha : a.length ≤ 1000000) (hb : b.length ≤ 1000000) (h : bkB a 0 = bkB b 0) : a.length = b.length := by
  have h1 := tail8 a
  rw [h, tail8 b] at h1
  have := (big_same (n := 8 * b.length) (m := 8 * a.length) (by omega) (by omega)).1 h1
  omega
theorem some_unlike {wd : Int} {a b : List Nat} (ha : a.length ≤ 1000000) (hb : b.length ≤ 1000000) (hne : a ≠ b) : ∃ i, i < leastN a b ∧ unlikeN wd a b i = true := by
  apply Classical.byContradiction
  intro hn
  have hall : ∀ i, i < leastN a b → bkB a i = bkB b i := fun i hi => by
    apply (like_same (wd := wd) (i := i) _).2
    cases hu : unlikeN wd a b i with
    | false => rfl
    | true => exact absurd ⟨i, hi, hu⟩ hn
  have hp : 0 < leastN a b := by have := count_pos a; have := count_pos b; unfold leastN; omega
  have hlen := len_same ha hb (hall 0 hp)
  have hc : countN a = countN b := by
    unfold countN
    rw [text_len, text_len, hlen]
  have ht := blocks_same hc (fun i hi => hall i (by unfold leastN; omega))
  apply hne
  unfold textN at ht
  exact (List.append_inj ht hlen).1
theorem first_unlike {p : Nat → Bool} : ∀ {n i : Nat}, i < n → p i = true → ∃ k, k < n ∧ p k = true ∧ ∀ j, j < k → p j = false
  | n, i, hi, hp => by
    induction i using Nat.strongRecOn with
    | _ i ih =>
      by_cases h : ∃ j, j < i ∧ p j = true
      · obtain ⟨j, hj, hpj⟩ := h
        exact ih j hj (by omega) hpj
      · exact ⟨i, hi, hp, fun j hj => by
          cases hu : p j with
          | false => rfl
          | true => exact absurd ⟨j, hj, hu⟩ h⟩
/-- Where two unlike texts have one hash, two unlike inputs are told, of one outcome. -/
theorem desc_law {wd : Int} {a b : List Nat} (ha : a.length ≤ 1000000) (hb : b.length ≤ 1000000) (h : ¬ (a = b ∨ sumN wd a ≠ sumN wd b)) :
    ∃ i, i < leastN a b ∧ descN wd a b = (stepN wd a b i, true) ∧ unlikeN wd a b i = true ∧ compressN wd (stB wd a i) (bkB a i) = compressN wd (stB wd b i) (bkB b i) := by
  have hne : a ≠ b := fun e => h (.inl e)
  have hs : sumN wd a = sumN wd b := Classical.byContradiction fun e => h (.inr e)
  obtain ⟨i0, hi0, hu0⟩ := some_unlike (wd := wd) ha hb hne
  obtain ⟨i, hi, hu, hn⟩ := first_unlike hi0 hu0
  refine ⟨i, hi, desc_hit h hi hu hn, hu, ?_⟩
  have hca : i < countN a := by unfold leastN at hi; omega
  have hcb : i < countN b := by unfold leastN at hi; omega
  have nx : ∀ l, i < countN l → compressN wd (stB wd l i) (bkB l i) = stateN wd (textN l) (countN l - i) := fun l hl => by
    unfold stB bkB
    rw [← state_succ, show countN l - (i + 1) + 1 = countN l - i by omega]
  rw [nx a hca, nx b hcb]
  cases i with
  | zero => rw [Nat.sub_zero, Nat.sub_zero, ← sum_text, ← sum_text]; exact hs
  | succ k => exact (like_same (hn k (Nat.lt_succ_self k))).1
end
end Go.Proofs.YtcifnfffoiiceaaDoor
