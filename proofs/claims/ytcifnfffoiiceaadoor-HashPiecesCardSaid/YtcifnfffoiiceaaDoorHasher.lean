/-
  A hasher in memory: a row of 98 cells. What writing changes. No program's walk in sight.
-/
import Derived.Test.YtcifnfffoiiceaaDoorHashN
import Derived.Test.YtcifnfffoiiceaaDoorSchedW
import Derived.Deep.MidRow
namespace Go.Proofs.YtcifnfffoiiceaaDoor
open Go.RowKit
set_option linter.unusedVariables false

/-- But for block g the world w' is as w was. -/
structure TouchB (g : Nat) (w w' : World) : Prop where
  os : w'.os = w.os
  tape : w'.tape = w.tape
  output : w'.output = w.output
  size : w.heap.size ≤ w'.heap.size
  block : ∀ k, k < w.heap.size → k ≠ g → w'.heap[k]? = w.heap[k]?
section
variable {g : Nat} {w w' w2 : World}
theorem TouchB.refl (g : Nat) (w : World) : TouchB g w w := ⟨rfl, rfl, rfl, Nat.le_refl _, fun _ _ _ => rfl⟩
theorem TouchB.trans (h : TouchB g w w') (h2 : TouchB g w' w2) : TouchB g w w2 :=
  ⟨h2.os.trans h.os, h2.tape.trans h.tape, h2.output.trans h.output, Nat.le_trans h.size h2.size, fun k hk hg => (h2.block k (Nat.lt_of_lt_of_le hk h.size) hg).trans (h.block k hk hg)⟩
theorem TouchB.of_below (h : Below w.heap.size w w') : TouchB g w w' := ⟨h.os, h.tape, h.output, h.size, fun k hk _ => h.block k hk⟩
theorem TouchB.drewN (h : TouchB g w w') (n : Nat) : TouchB g w (w'.drewN n) := ⟨h.os, h.tape, h.output, h.size, h.block⟩
theorem TouchB.drew (h : TouchB g w w') : TouchB g w w'.drew := ⟨h.os, h.tape, h.output, h.size, h.block⟩
theorem TouchB.setRow (h : TouchB g w w') (cs : Array Value) : TouchB g w (w'.setRow g cs) :=
  ⟨h.os, h.tape, h.output, by have := h.size; simp; omega, fun k hk hne => by rw [setRow_other w' g k cs hne]; exact h.block k hk hne⟩
theorem TouchB.setCell (h : TouchB g w w') (o : Nat) (u : Value) : TouchB g w (w'.setCell ⟨g, o, none⟩ u) :=
  ⟨h.os, h.tape, h.output, by have := h.size; rw [World.size_setCell]; exact this, fun k hk hne => by rw [heap_setCell_other _ _ _ _ hne]; exact h.block k hk hne⟩
theorem TouchB.setCells : ∀ (vs : List Value) (o : Nat) {w' : World}, TouchB g w w' → TouchB g w (w'.setCells g o vs)
  | [], _, _, h => h
  | v :: r, o, _, h => TouchB.setCells r (o + 1) (h.setCell o v)
/-- What was made behind w is nobody's. -/
theorem TouchB.below (h : TouchB g w w') {B : Nat} (hB : B ≤ w.heap.size) (hg : B ≤ g) : Below B w w' := ⟨h.os, h.tape, h.output, h.size, fun k hk => h.block k (by omega) (by omega)⟩
theorem TouchB.cell (h : TouchB g w w') {p : Addr} {v : Value} (hc : w.cell? p = some v) (hg : p.block ≠ g) : w'.cell? p = some v := by
  have hb : p.block < w.heap.size := World.block_lt_of_cell? w _ hc
  rw [← hc]
  unfold World.cell?
  rw [h.block _ hb hg]
theorem SliceOf.touch {α : Type} {mk : α → Value} {v : Value} {l : List α} (hs : SliceOf mk w v l) (h : TouchB g w w') (hv : v.ownBlock ≠ some g) : SliceOf mk w' v l := by
  obtain ⟨a, cap, rfl, h1, h2, h0, h3⟩ := hs
  refine ⟨a, cap, rfl, h1, h2, h0, h3.imp id ?_⟩
  rintro ⟨b, off, rfl, hc⟩
  exact ⟨b, off, rfl, fun j x hj => h.cell (hc j x hj) (by intro e; exact hv (by rw [← e]; rfl))⟩
theorem DoorAt.touch (hd : DoorAt w) (h : TouchB g w w') (hg : 1 < g) : DoorAt w' := hd.low (Z := 2) (by decide) (h.below (by have := hd.1; omega) hg)
end

/-- A struct's cells. -/
def hCells (wd : Int) (st R : List Nat) (n : Nat) : List Value := .int .i64 wd :: (st.map u8c ++ (R.map u8c ++ [.int .u64 (n : Int)]))
section
variable {wd : Int} {st R : List Nat} {n : Nat}
theorem hc_len (hs : st.length = 32) (hR : R.length = 64) : (hCells wd st R n).length = 98 := by simp [hCells, hs, hR]
theorem hc_w : (hCells wd st R n)[0]? = some (.int .i64 wd) := rfl
theorem hc_n (hs : st.length = 32) (hR : R.length = 64) : (hCells wd st R n)[97]? = some (.int .u64 (n : Int)) := by
  unfold hCells
  rw [List.getElem?_cons_succ, List.getElem?_append_right (by simp [hs]), List.getElem?_append_right (by simp [hs, hR])]
  simp [hs, hR]
theorem hc_st (hs : st.length = 32) {j : Nat} {v : Value} (h : (st.map u8c)[j]? = some v) : (hCells wd st R n)[1 + j]? = some v := by
  unfold hCells
  have hj := (List.getElem?_eq_some_iff.1 h).1
  rw [Nat.add_comm, List.getElem?_cons_succ, List.getElem?_append_left hj, h]
theorem hc_rest (hs : st.length = 32) {j : Nat} {v : Value} (h : (R.map u8c)[j]? = some v) : (hCells wd st R n)[33 + j]? = some v := by
  unfold hCells
  have hj := (List.getElem?_eq_some_iff.1 h).1
  rw [show 33 + j = (32 + j) + 1 by omega, List.getElem?_cons_succ, List.getElem?_append_right (by simp [hs]), List.getElem?_append_left (by simp [hs]; simpa using hj)]
  simp only [List.length_map, hs]
  rw [show 32 + j - 32 = j by omega, h]
theorem splice_mid {α : Type} (A X C Y : List α) (o : Nat) (h : o + Y.length ≤ X.length) : Go.splice (A ++ (X ++ C)) (A.length + o) Y = A ++ (Go.splice X o Y ++ C) := by
  unfold Go.splice
  rw [List.take_append, List.take_of_length_le (by omega), show A.length + o - A.length = o by omega, List.take_append_of_le_length (by omega), List.drop_append, List.drop_eq_nil_of_le (show A.length ≤ A.length + o + Y.length by omega), show A.length + o + Y.length - A.length = o + Y.length by omega, List.drop_append_of_le_length h]
  simp
theorem splice_map {α β : Type} (f : α → β) (X Y : List α) (o : Nat) : Go.splice (X.map f) o (Y.map f) = (Go.splice X o Y).map f := by simp [Go.splice, List.map_take, List.map_drop]
theorem splice_all {α : Type} {X Y : List α} (h : X.length = Y.length) : Go.splice X 0 Y = Y := by simp [Go.splice, h]
theorem hc_splice_rest (hs : st.length = 32) {o : Nat} {b : List Nat} (h : o + b.length ≤ R.length) : Go.splice (hCells wd st R n) (33 + o) (b.map u8c) = hCells wd st (Go.splice R o b) n := by
  have e : ((Value.int .i64 wd :: st.map u8c) : List Value).length = 33 := by simp [hs]
  have := splice_mid (Value.int .i64 wd :: st.map u8c) (R.map u8c) [.int .u64 (n : Int)] (b.map u8c) o (by simpa using h)
  rw [e, splice_map] at this
  unfold hCells
  simpa using this
theorem hc_splice_st (hs : st.length = 32) {st' : List Nat} (h : st'.length = 32) : Go.splice (hCells wd st R n) 1 (st'.map u8c) = hCells wd st' R n := by
  have := splice_mid [Value.int .i64 wd] (st.map u8c) (R.map u8c ++ [.int .u64 (n : Int)]) (st'.map u8c) 0 (by simp [h, hs])
  rw [splice_map, splice_all (by rw [hs, h])] at this
  unfold hCells
  simpa using this
theorem hc_set_n (hs : st.length = 32) (hR : R.length = 64) (n' : Nat) : (hCells wd st R n).set 97 (.int .u64 (n' : Int)) = hCells wd st R n' := by
  unfold hCells
  rw [List.set_cons_succ, List.set_append_right _ _ (by simp [hs]), List.set_append_right _ _ (by simp [hs, hR])]
  simp [hs, hR]
theorem hc_one : ∀ v ∈ hCells wd st R n, v.oneCell' = true := by
  intro v hv
  simp only [hCells, List.mem_cons, List.mem_append, List.mem_map, List.not_mem_nil, or_false] at hv
  rcases hv with rfl | ⟨_, _, rfl⟩ | ⟨_, _, rfl⟩ | rfl <;> rfl
end
theorem heap_setCells {g : Nat} {t : TypeId} : ∀ (vs : List Value) (o : Nat) (cur : List Value) (w : World), w.heap[g]? = some (.cells cur.toArray t (0, 0)) → o + vs.length ≤ cur.length → (w.setCells g o vs).heap[g]? = some (.cells (Go.splice cur o vs).toArray t (0, 0))
  | [], o, cur, w, h, hl => by
    rw [World.setCells, h]
    simp [Go.splice]
  | v :: r, o, cur, w, h, hl => by
    rw [World.setCells]
    simp only [List.length_cons] at hl
    have h2 : (w.setCell ⟨g, o, none⟩ v).heap[g]? = some (.cells (cur.set o v).toArray t (0, 0)) := by
      rw [heap_setCell_same w g o _ t _ h]
      simp
    rw [heap_setCells r (o + 1) (cur.set o v) _ h2 (by simp; omega)]
    congr 3
    unfold Go.splice
    apply List.ext_getElem?
    intro i
    by_cases h1 : i < o
    · rw [List.getElem?_append_left (by simp; omega), List.getElem?_append_left (by simp; omega), List.getElem?_take, List.getElem?_take, if_pos (by omega), if_pos h1, List.getElem?_set_ne (by omega)]
    · by_cases h3 : i = o
      · subst h3
        rw [List.getElem?_append_left (by simp; omega), List.getElem?_take, if_pos (by omega), List.getElem?_set_self (by omega), List.getElem?_append_right (by simp; omega)]
        simp [Nat.min_eq_left (show i ≤ cur.length by omega)]
      · have t1 : (List.take (o + 1) (cur.set o v)).length = o + 1 := by simp; omega
        have t2 : (List.take o cur).length = o := by simp; omega
        rw [List.getElem?_append_right (l₁ := List.take (o + 1) (cur.set o v)) (by omega), t1, List.getElem?_append_right (l₁ := List.take o cur) (by omega), t2, List.cons_append, show i - o = (i - (o + 1)) + 1 by omega, List.getElem?_cons_succ]
        congr 2
        simp only [List.length_cons]
        rw [List.drop_set_of_lt (by omega)]
        congr 1
        omega

/-- Block g holds a hasher that has taken a text. -/
def HashAt (w : World) (g : Nat) (wd : Int) (T : List Nat) : Prop :=
  Bytes T ∧ ∃ R, RestOf T R ∧ w.heap[g]? = some (.cells (hCells wd (stateN wd T (T.length / 64)) R T.length).toArray 83 (0, 0))
theorem HashAt.lt {w : World} {g : Nat} {wd : Int} {T : List Nat} (h : HashAt w g wd T) : g < w.heap.size := by
  obtain ⟨_, R, _, hh⟩ := h
  exact lt_of_heap hh
theorem HashAt.of_heap {w w' : World} {g : Nat} {wd : Int} {T : List Nat} (h : HashAt w g wd T) (e : w'.heap[g]? = w.heap[g]?) : HashAt w' g wd T := by
  obtain ⟨hT, R, hR, hh⟩ := h
  exact ⟨hT, R, hR, e.trans hh⟩
theorem row_range {w : World} {g : Nat} {cur : List Value} {t : TypeId} (h : w.heap[g]? = some (.cells cur.toArray t (0, 0))) {o : Nat} {cs : List Value} (hc : ∀ j v, cs[j]? = some v → cur[o + j]? = some v) : w.rangeAt g o cs := fun j v hv => by
  rw [cell_of_row _ _ _ _ _ _ h]
  simpa using hc j v hv
theorem row_there {w : World} {g : Nat} {cur : List Value} {t : TypeId} (h : w.heap[g]? = some (.cells cur.toArray t (0, 0))) {o n : Nat} (hn : o + n ≤ cur.length) : w.there g o n := fun j hj => by
  refine ⟨?_, frozen_of_row _ _ _ _ _ h⟩
  rw [cell_of_row _ _ _ _ _ _ h]
  simp
  omega
theorem size_h : (Tryd.prog.info? 83).map (·.size) = some 98 := by kernel_rfl
end Go.Proofs.YtcifnfffoiiceaaDoor
