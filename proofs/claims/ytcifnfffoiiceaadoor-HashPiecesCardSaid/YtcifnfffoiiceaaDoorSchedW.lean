/-
  The schedule as a row of 64 words filled from below: the plain side of the program's first loop.
-/
import Derived.Test.YtcifnfffoiiceaaDoorDoor2
import Derived.Laws.CopyOwn
namespace Go.Proofs.YtcifnfffoiiceaaDoor
open Go.RowKit
set_option linter.unusedVariables false

theorem sched_take {M : List Nat} (hM : M.length = 16) {j : Nat} (d : Nat) : (schedN (j + d) M).take (16 + j) = schedN j M := by
  induction d with
  | zero => rw [Nat.add_zero, List.take_of_length_le (by rw [sched_len, hM]; exact Nat.le_refl _)]
  | succ d ih => rw [← Nat.add_assoc, sched_succ, List.take_append_of_le_length (by rw [sched_len, hM]; omega), ih]
theorem sched_at {M : List Nat} (hM : M.length = 16) {j : Nat} (hj : j < 48) : (schedN 48 M)[16 + j]? = some (nextW (schedN j M)) := by
  have h := sched_take hM (j := j + 1) (48 - (j + 1))
  rw [show j + 1 + (48 - (j + 1)) = 48 by omega] at h
  have e : ((schedN 48 M).take (16 + (j + 1)))[16 + j]? = (schedN 48 M)[16 + j]? := by rw [List.getElem?_take, if_pos (by omega)]
  rw [← e, h, sched_succ, List.getElem?_append_right (by rw [sched_len, hM]; exact Nat.le_refl _), sched_len, hM, Nat.sub_self]
  rfl
theorem sched_low {M : List Nat} (hM : M.length = 16) {n : Nat} (hn : n < 16) : (schedN 48 M)[n]? = M[n]? := by
  have h := sched_take hM (j := 0) 48
  rw [sched_zero, Nat.zero_add, Nat.add_zero] at h
  have e : ((schedN 48 M).take 16)[n]? = (schedN 48 M)[n]? := by rw [List.getElem?_take, if_pos hn]
  rw [← e, h]
/-- The schedule's m-th word out of four below it. -/
theorem sched_word {M : List Nat} (hM : M.length = 16) {m x2 x7 x15 x16 : Nat} (h0 : 16 ≤ m) (h1 : m < 64) (h2 : (schedN 48 M)[m - 2]? = some x2) (h7 : (schedN 48 M)[m - 7]? = some x7) (h15 : (schedN 48 M)[m - 15]? = some x15) (h16 : (schedN 48 M)[m - 16]? = some x16) :
    (schedN 48 M)[m]? = some ((xorN (rotN x2 17) (rotN x2 19) (x2 / 2 ^ 10) + x7 + xorN (rotN x15 7) (rotN x15 18) (x15 / 2 ^ 3) + x16) % 4294967296) := by
  obtain ⟨j, rfl⟩ : ∃ j, m = 16 + j := ⟨m - 16, by omega⟩
  have ht := sched_take hM (j := j) (48 - j)
  rw [show j + (48 - j) = 48 by omega] at ht
  have key : ∀ i x, i < 16 + j → (schedN 48 M)[i]? = some x → (schedN j M)[i]? = some x := fun i x hi hx => by
    rw [← ht, List.getElem?_take, if_pos hi]
    exact hx
  rw [sched_at hM (by omega), next_at (l := schedN j M) (m := 16 + j) (by rw [sched_len, hM]) (key _ _ (by omega) h2) (key _ _ (by omega) h7) (key _ _ (by omega) h15) (key _ _ (by omega) h16)]
/-- A block's n-th word. -/
theorem word_big {l : List Nat} {n : Nat} (h : 4 * n + 4 ≤ l.length) : (wordsN l)[n]? = some (bigV ((l.drop (4 * n)).take 4)) := by
  rw [words_at h]
  have e : (l.drop (4 * n)).take 4 = [l.getD (4 * n) 0, l.getD (4 * n + 1) 0, l.getD (4 * n + 2) 0, l.getD (4 * n + 3) 0] := by
    apply List.ext_getElem?
    intro i
    rw [List.getElem?_take]
    match i with
    | 0 => simp [List.getElem?_drop, List.getD_eq_getElem?_getD, List.getElem?_eq_getElem (show 4 * n < l.length by omega)]
    | 1 => simp [List.getElem?_drop, List.getD_eq_getElem?_getD, List.getElem?_eq_getElem (show 4 * n + 1 < l.length by omega)]
    | 2 => simp [List.getElem?_drop, List.getD_eq_getElem?_getD, List.getElem?_eq_getElem (show 4 * n + 2 < l.length by omega)]
    | 3 => simp [List.getElem?_drop, List.getD_eq_getElem?_getD, List.getElem?_eq_getElem (show 4 * n + 3 < l.length by omega)]
    | i + 4 => rw [if_neg (by omega)]; rfl
  rw [e]
  simp [bigV]
  omega
/-- Sixty-four words by place. -/
def padW (F : List Nat) (n : Nat) : List Nat := F.take n ++ List.replicate (64 - n) 0
theorem padW_zero (F : List Nat) : padW F 0 = List.replicate 64 0 := by simp [padW]
theorem padW_full {F : List Nat} (h : F.length = 64) : padW F 64 = F := by simp [padW, ← h]
theorem padW_set {F : List Nat} (h : F.length = 64) {n x : Nat} (hn : n < 64) (hx : F[n]? = some x) : (padW F n).set n x = padW F (n + 1) := by
  unfold padW
  have h1 : (F.take n).length = n := by rw [List.length_take]; omega
  rw [List.set_append_right _ _ (by omega), h1, Nat.sub_self, show 64 - n = (64 - (n + 1)) + 1 by omega, List.replicate_succ, List.set_cons_zero, take_snoc hx, List.append_assoc]
  rfl
theorem padW_at {F : List Nat} (h : F.length = 64) {n i x : Nat} (hn : n ≤ 64) (hi : i < n) (hx : F[i]? = some x) : (padW F n)[i]? = some x := by
  unfold padW
  rw [List.getElem?_append_left (by rw [List.length_take]; omega), List.getElem?_take, if_pos hi, hx]
theorem padW_length {F : List Nat} (h : F.length = 64) {n : Nat} (hn : n ≤ 64) : (padW F n).length = 64 := by
  unfold padW
  rw [List.length_append, List.length_take, List.length_replicate]
  omega
/-- A row of N words filled from below. -/
def padV (N : Nat) (F : List Nat) (n : Nat) : List Nat := F.take n ++ List.replicate (N - n) 0
theorem padV_zero (N : Nat) (F : List Nat) : padV N F 0 = List.replicate N 0 := by simp [padV]
theorem padV_full {N : Nat} {F : List Nat} (h : F.length = N) : padV N F N = F := by simp [padV, ← h]
theorem padV_set {N : Nat} {F : List Nat} (h : F.length = N) {n x : Nat} (hn : n < N) (hx : F[n]? = some x) : (padV N F n).set n x = padV N F (n + 1) := by
  unfold padV
  have h1 : (F.take n).length = n := by rw [List.length_take]; omega
  rw [List.set_append_right _ _ (by omega), h1, Nat.sub_self, show N - n = (N - (n + 1)) + 1 by omega, List.replicate_succ, List.set_cons_zero, take_snoc hx, List.append_assoc]
  rfl
theorem padV_length {N : Nat} {F : List Nat} (h : F.length = N) {n : Nat} (hn : n ≤ N) : (padV N F n).length = N := by
  unfold padV
  rw [List.length_append, List.length_take, List.length_replicate]
  omega
theorem xor3 {a b c : Nat} (ha : a < 4294967296) (hb : b < 4294967296) (hc : c < 4294967296) : ∃ u : Nat, bits .xor .u32 (a : Int) (b : Int) = (u : Int) ∧ bits .xor .u32 (u : Int) (c : Int) = ((xorN a b c : Nat) : Int) :=
  ⟨a ^^^ b, u32_xor_nat a b ha hb, by rw [u32_xor_nat _ c (xor_lt32 ha hb) hc]; unfold xorN; rfl⟩
theorem alloc4 (w : World) (o1 o2 o3 o4 : Obj) : ((((w.alloc o1).alloc o2).alloc o3).alloc o4).heap[w.heap.size]? = some o1 ∧ ((((w.alloc o1).alloc o2).alloc o3).alloc o4).heap[w.heap.size + 1]? = some o2 ∧ ((((w.alloc o1).alloc o2).alloc o3).alloc o4).heap[w.heap.size + 2]? = some o3 ∧ ((((w.alloc o1).alloc o2).alloc o3).alloc o4).heap[w.heap.size + 3]? = some o4 ∧ ((((w.alloc o1).alloc o2).alloc o3).alloc o4).heap.size = w.heap.size + 4 ∧ Below w.heap.size w ((((w.alloc o1).alloc o2).alloc o3).alloc o4) := by
  obtain ⟨h1, h2, h3, h4, h5⟩ := alloc3 w o1 o2 o3
  refine ⟨?_, ?_, ?_, ?_, by simp, h5.alloc (by rw [h4]; omega) _⟩
  · rw [Below.heap_alloc _ _ _ (by rw [h4]; omega), h1]
  · rw [Below.heap_alloc _ _ _ (by rw [h4]; omega), h2]
  · rw [Below.heap_alloc _ _ _ (by rw [h4]; omega), h3]
  · rw [← h4, heap_alloc_new]
theorem not_xor {x : Nat} (hx : x < 4294967296) : 4294967295 ^^^ x = notN x := by
  apply Nat.eq_of_testBit_eq
  intro i
  rw [Nat.testBit_xor]
  by_cases hi : i < 32
  · rw [not_bit hx hi]
    have : (4294967295 : Nat) = 2 ^ 32 - 1 := by decide
    rw [this, Nat.testBit_two_pow_sub_one]
    simp [hi]
  · have h1 : Nat.testBit 4294967295 i = false := Nat.testBit_lt_two_pow (Nat.lt_of_lt_of_le (by decide : 4294967295 < 2 ^ 32) (Nat.pow_le_pow_right (by decide) (by omega)))
    have h2 : Nat.testBit x i = false := Nat.testBit_lt_two_pow (Nat.lt_of_lt_of_le (show x < 2 ^ 32 from hx) (Nat.pow_le_pow_right (by decide) (by omega)))
    have h3 : Nat.testBit (notN x) i = false := Nat.testBit_lt_two_pow (Nat.lt_of_lt_of_le (show notN x < 2 ^ 32 by unfold notN; omega) (Nat.pow_le_pow_right (by decide) (by omega)))
    rw [h1, h2, h3]
    rfl
theorem not_lt {x : Nat} : notN x < 4294967296 := by unfold notN; omega
/-- The choice, step by step. -/
theorem ch3 {e f g : Nat} (he : e < 4294967296) (hf : f < 4294967296) (hg : g < 4294967296) : ∃ y1 y2 y3 : Nat, bits .and .u32 (e : Int) (f : Int) = (y1 : Int) ∧ bits .xor .u32 (if IntKind.u32.signed = true then -1 else IntKind.u32.max) (e : Int) = (y2 : Int) ∧ bits .and .u32 (y2 : Int) (g : Int) = (y3 : Int) ∧ bits .xor .u32 (y1 : Int) (y3 : Int) = ((chN e f g : Nat) : Int) :=
  ⟨e &&& f, notN e, notN e &&& g, u32_and_nat e f he hf, by rw [← not_xor he]; exact u32_xor_nat 4294967295 e (by decide) he, u32_and_nat _ g not_lt hg, by rw [u32_xor_nat _ _ (and_lt32 he) (and_lt32 not_lt)]; unfold chN; rfl⟩
/-- The majority, step by step. -/
theorem maj3 {a b c : Nat} (ha : a < 4294967296) (hb : b < 4294967296) (hc : c < 4294967296) : ∃ z1 z2 z3 z4 : Nat, bits .and .u32 (a : Int) (b : Int) = (z1 : Int) ∧ bits .and .u32 (a : Int) (c : Int) = (z2 : Int) ∧ bits .xor .u32 (z1 : Int) (z2 : Int) = (z3 : Int) ∧ bits .and .u32 (b : Int) (c : Int) = (z4 : Int) ∧ bits .xor .u32 (z3 : Int) (z4 : Int) = ((majN a b c : Nat) : Int) :=
  ⟨a &&& b, a &&& c, (a &&& b) ^^^ (a &&& c), b &&& c, u32_and_nat a b ha hb, u32_and_nat a c ha hc, u32_xor_nat _ _ (and_lt32 ha) (and_lt32 ha), u32_and_nat b c hb hc, by rw [u32_xor_nat _ _ (xor_lt32 (and_lt32 ha) (and_lt32 ha)) (and_lt32 hb)]; unfold majN; rfl⟩
theorem next_mod5 (a b c d e : Nat) : ((a : Int) + (b : Int) + (c : Int) + (d : Int) + (e : Int)) % 4294967296 = (((a + b + c + d + e) % 4294967296 : Nat) : Int) := by omega
theorem next_mod5b (a b c d e : Nat) : (((a : Int) + (b : Int) + (c : Int) + (d : Int)) % 4294967296 + (e : Int)) % 4294967296 = (((a + b + c + d + e) % 4294967296 : Nat) : Int) := by omega
theorem next_mod3 (n a b : Nat) : ((n : Int) + ((a : Int) + (b : Int))) % 4294967296 = (((n + (a + b) % 4294967296) % 4294967296 : Nat) : Int) := by omega
theorem next_wrap2 (a b : Nat) (ha : a < 4294967296) (hb : b < 4294967296) : IntKind.u64.wrap (IntKind.u32.wrap ((a : Int) + (b : Int))) = (((a + b) % 4294967296 : Nat) : Int) := by
  simp only [IntKind.wrap_u32, wrap_u64]
  omega
theorem next_mod2 (a b : Nat) : ((a : Int) + (b : Int)) % 4294967296 = (((a + b) % 4294967296 : Nat) : Int) := by omega
theorem next_mod32 (a b c d : Nat) : ((a : Int) + (b : Int) + (c : Int) + (d : Int)) % 4294967296 = (((a + b + c + d) % 4294967296 : Nat) : Int) := by omega
theorem next_int32 {a b c d : Nat} (h : a < 4294967296 ∧ b < 4294967296 ∧ c < 4294967296 ∧ d < 4294967296) :
    IntKind.u32.wrap (IntKind.u32.wrap (IntKind.u32.wrap ((a : Int) + (b : Int)) + (c : Int)) + (d : Int)) = (((a + b + c + d) % 4294967296 : Nat) : Int) := by
  obtain ⟨ha, hb, hc, hd⟩ := h
  simp only [IntKind.wrap_u32]
  omega
theorem big_at (x : Nat) {n j : Nat} (hj : j < n) : (bigL x n)[j]? = some (x / 256 ^ (n - 1 - j) % 256) := by simp [bigL, hj]
/-- A word's four bytes copied behind n words whole. -/
theorem part_copy {D : List Nat} {n X : Nat} (hn : n < 8) (hx : D[n]? = some X) : Go.splice ((mapL (partF D n 0)).map u8c) (4 * n) (u8s (bigL X 4)) = (mapL (partF D (n + 1) 0)).map u8c := by
  have hl : (u8s (bigL X 4)).length = 4 := by simp [u8s, bigL_length]
  apply List.ext_getElem?
  intro p
  unfold Go.splice
  rw [hl]
  by_cases h1 : p < 4 * n
  · rw [List.getElem?_append_left (by simp [mapL]; omega), List.getElem?_take, if_pos h1, List.getElem?_map, List.getElem?_map, mapL_get _ (by omega), mapL_get _ (by omega)]
    unfold partF
    rw [if_pos h1, if_pos (by omega)]
  · have ht : (((mapL (partF D n 0)).map u8c).take (4 * n)).length = 4 * n := by simp [mapL]; omega
    rw [List.getElem?_append_right (by rw [ht]; omega), ht]
    by_cases h2 : p < 4 * n + 4
    · rw [List.getElem?_append_left (by rw [hl]; omega)]
      unfold u8s
      rw [List.getElem?_map, List.getElem?_map, big_at X (by omega), mapL_get _ (by omega)]
      unfold partF byteF
      rw [if_pos (by omega), show p / 4 = n by omega, show 3 - p % 4 = 4 - 1 - (p - 4 * n) by omega, getD_of hx]
      rfl
    · rw [List.getElem?_append_right (by rw [hl]; omega), hl, List.getElem?_drop, List.getElem?_map, List.getElem?_map, show 4 * n + 4 + (p - 4 * n - 4) = p by omega]
      by_cases h3 : p < 32
      · rw [mapL_get _ h3, mapL_get _ h3]
        unfold partF
        rw [if_neg h1, if_neg (by omega), if_neg (by omega), if_neg (by omega)]
      · rw [List.getElem?_eq_none (by rw [mapL_length]; omega), List.getElem?_eq_none (by rw [mapL_length]; omega)]
theorem size_u8' : (Tryd.prog.info? 5).map (·.size) = some 1 := by kernel_rfl
theorem u8s_one {l : List Nat} : ∀ v ∈ u8s l, v.oneCell' = true := by
  intro v hv
  simp only [u8s, List.mem_map] at hv
  obtain ⟨c, _, rfl⟩ := hv
  rfl
theorem copy_cells {w : World} {g o : Nat} {l : List Nat} (h : ∀ (j : Nat) (x : Nat), l[j]? = some x → w.cell? ⟨g, o + j, none⟩ = some (u8c x)) : ∀ (j : Nat) (v : Value), (u8s l)[j]? = some v → w.cell? ((⟨g, o, none⟩ : Addr).add j) = some v := by
  intro j v hj
  rw [u8s_get] at hj
  obtain ⟨c, hc, rfl⟩ := Option.map_eq_some_iff.1 hj
  rw [Go.WideShapes.add_plain]
  exact h j c hc
theorem info8 (a b c d e f g h : Nat) : (Tryd.prog.info? 68).map (·.size) = some (cellsOf' u32c [a, b, c, d, e, f, g, h]).size := by rw [co_size]; exact size_w8
theorem hold8 (s : St) (a b c d e f g h : Nat) : (cellsOf' u32c (listOf s)).size = (cellsOf' u32c [a, b, c, d, e, f, g, h]).size := by rw [co_size, co_size]; rfl
theorem one8 (a b c d e f g h : Nat) : (cellsOf' u32c [a, b, c, d, e, f, g, h]).all (·.oneCell') = true := co_one u32c_one
theorem DoorAt.low {w w' : World} (h : DoorAt w) {Z : Nat} (hZ : 1 < Z) (q : Below Z w w') : DoorAt w' :=
  ⟨Nat.lt_of_lt_of_le h.1 q.size, fun j t ht => by rw [← h.2.1 j t ht]; exact q.cell (p := ⟨0, j, none⟩) (by show 0 < Z; omega), fun j t ht => by rw [← h.2.2 j t ht]; exact q.cell (p := ⟨1, j, none⟩) hZ⟩
/-- The cells that a round of the program reads. -/
def RoundCells (w : World) (g : Nat) (s : St) (gl k t x : Nat) : Prop :=
  w.cell? ⟨g, 0, none⟩ = some (.int .u32 (s.a : Int)) ∧ w.cell? ⟨g, 1, none⟩ = some (.int .u32 (s.b : Int)) ∧ w.cell? ⟨g, 2, none⟩ = some (.int .u32 (s.c : Int)) ∧ w.cell? ⟨g, 3, none⟩ = some (.int .u32 (s.d : Int)) ∧
    w.cell? ⟨g, 4, none⟩ = some (.int .u32 (s.e : Int)) ∧ w.cell? ⟨g, 5, none⟩ = some (.int .u32 (s.f : Int)) ∧ w.cell? ⟨g, 6, none⟩ = some (.int .u32 (s.g : Int)) ∧ w.cell? ⟨g, 7, none⟩ = some (.int .u32 (s.h : Int)) ∧
    w.cell? ⟨0, k, none⟩ = some (.int .u32 (t : Int)) ∧ w.cell? ⟨gl, k, none⟩ = some (.int .u32 (x : Int))
theorem below_drew {Z : Nat} {a w : World} (h : Below Z a w) (n : Nat) : Below Z a (w.drewN n) := h.trans ⟨rfl, rfl, rfl, Nat.le_refl _, fun _ _ => rfl⟩
end Go.Proofs.YtcifnfffoiiceaaDoor
