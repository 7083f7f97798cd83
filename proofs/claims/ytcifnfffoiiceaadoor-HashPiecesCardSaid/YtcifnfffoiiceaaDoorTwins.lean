/-
  Two rows of texts of the call's own that grow side by side, each text a row of its own that was written over. No walk in sight, but 'append' of a byte.
-/
import Derived.Test.YtcifnfffoiiceaaDoorRowsOwn
import Derived.Test.YtcifnfffoiiceaaDoorHelds
import Derived.OneCell
import Derived.Test.YtcifnfffoiiceaaDoorRow2
namespace Go.Proofs.YtcifnfffoiiceaaDoor
open Go.RowKit
set_option linter.unusedVariables false

theorem ownsRow_keep {Z n s : Nat} {t : TypeId} {w w' : World} {v : Value} {xs : List Value} (h : w.ownsRow Z t s v n xs) (hv : ∀ b, v.ownBlock = some b → w'.heap[b]? = w.heap[b]?) : w'.ownsRow Z t s v n xs :=
  ⟨h.1, h.2.imp id fun ⟨g, cap, cur, e, h1, h2, h3⟩ => ⟨g, cap, cur, e, h1, by rw [hv g (by rw [e]; rfl)]; exact h2, h3⟩⟩
theorem ownsRow_base0 {Z n s : Nat} {t : TypeId} {w : World} {v : Value} {xs : List Value} (h : w.ownsRow Z t s v n xs) : w.ownsRow 0 t s v n xs :=
  ⟨h.1, h.2.imp id fun ⟨g, cap, cur, e, h1, h2⟩ => ⟨g, cap, cur, e, Nat.zero_le _, h2⟩⟩
theorem SliceOf.keepB {α : Type} {mk : α → Value} {w w' : World} {v : Value} {l : List α} (hs : SliceOf mk w v l) (hv : ∀ b, v.ownBlock = some b → w'.heap[b]? = w.heap[b]?) : SliceOf mk w' v l := by
  obtain ⟨a, cap, rfl, h1, h2, h0, h3⟩ := hs
  refine ⟨a, cap, rfl, h1, h2, h0, h3.imp id ?_⟩
  rintro ⟨b, off, rfl, hc⟩
  exact ⟨b, off, rfl, fun j x hj => (World.cell?_of_block (a := ⟨b, off + j, none⟩) (hv b rfl)).trans (hc j x hj)⟩
section
variable {Z : Nat} {w w' : World} {v : Value} {vs : List Value} {Ls : List (List Nat)}
theorem RowsOwn.keepB (h : RowsOwn Z w v vs Ls) (hs : w.heap.size ≤ w'.heap.size) (hv : ∀ b, v.ownBlock = some b → w'.heap[b]? = w.heap[b]?) (hx : ∀ x ∈ vs, ∀ b, x.ownBlock = some b → w'.heap[b]? = w.heap[b]?) : RowsOwn Z w' v vs Ls :=
  ⟨ownsRow_keep h.1 hv, h.2.1, fun i x L hi hL => ⟨(h.2.2 i x L hi hL).1.keepB (hx x (List.mem_of_getElem? hi)), fun b hb => ⟨Nat.lt_of_lt_of_le ((h.2.2 i x L hi hL).2 b hb).1 hs, ((h.2.2 i x L hi hL).2 b hb).2⟩⟩⟩
theorem RowsOwn.mem (h : RowsOwn Z w v vs Ls) {x : Value} (hx : x ∈ vs) : ∀ b, x.ownBlock = some b → b < w.heap.size ∧ v.ownBlock ≠ some b := by
  obtain ⟨i, hi⟩ := List.mem_iff_getElem?.1 hx
  obtain ⟨L, hL⟩ : ∃ L, Ls[i]? = some L := ⟨Ls[i]'(by have := (List.getElem?_eq_some_iff.1 hi).1; have := h.2.1; omega), List.getElem?_eq_getElem _⟩
  exact (h.2.2 i x L hi hL).2
theorem RowsOwn.grownB {r : Option Nat} (h : RowsOwn Z w v vs Ls) (hg : w.grownBy w' r) (hv : ∀ b, v.ownBlock = some b → r ≠ some b) (hx : ∀ x ∈ vs, ∀ b, x.ownBlock = some b → r ≠ some b) : RowsOwn Z w' v vs Ls :=
  h.keepB hg.size (fun b hb => hg.block b (h.1.lt b hb).2 (fun e => hv b hb e.symm)) fun x hxm b hb => hg.block b (h.mem hxm b hb).1 (fun e => hx x hxm b hb e.symm)
end
structure Twin (zs : Nat) (zw : World) (GA GB : List Nat) (s ix iy m1 m2 : Nat) (w : World) (x y : Value) (xs ys : List Value) (Xs Ys : List (List Nat)) : Prop where
  os : w.os = zw.os
  tape : w.tape = zw.tape
  output : w.output = zw.output
  size : zs ≤ w.heap.size
  sp : ∀ p, p < zs → (∀ j, j < s → GA[j]? ≠ some p ∧ GB[j]? ≠ some p) → w.heap[p]? = zw.heap[p]?
  rx : RowsOwn zs w x xs Xs
  ry : RowsOwn zs w y ys Ys
  bx : ∀ v ∈ xs, ∀ b, v.ownBlock = some b → y.ownBlock ≠ some b ∧ (b < zs → ∃ j, j < ix ∧ GA[j]? = some b)
  bz : ∀ v ∈ ys, ∀ b, v.ownBlock = some b → x.ownBlock ≠ some b ∧ (b < zs → ∃ j, j < iy ∧ GB[j]? = some b)
  xy : ∀ b, x.ownBlock = some b → y.ownBlock ≠ some b
  lx : xs.length = ix
  ly : ys.length = iy
  mx : ∀ X ∈ Xs, ∀ c ∈ X, c = m1
  my : ∀ X ∈ Ys, ∀ c ∈ X, c = m2
/-- The blocks of the texts are apart. -/
def Apart (zs : Nat) (GA GB : List Nat) : Prop :=
  (∀ i j g : Nat, GA[i]? = some g → GB[j]? ≠ some g) ∧ (∀ i j g : Nat, i < j → GA[i]? = some g → GA[j]? ≠ some g) ∧ (∀ i j g : Nat, i < j → GB[i]? = some g → GB[j]? ≠ some g) ∧ (∀ i g : Nat, GA[i]? = some g → g < zs) ∧ ∀ i g : Nat, GB[i]? = some g → g < zs
theorem Apart.swap {zs : Nat} {GA GB : List Nat} (h : Apart zs GA GB) : Apart zs GB GA := ⟨fun i j g h1 h2 => h.1 j i g h2 h1, h.2.2.1, h.2.1, h.2.2.2.2, h.2.2.2.1⟩
section
variable {zs s ix iy m1 m2 i ga gb : Nat} {zw w w' : World} {GA GB : List Nat} {x y : Value} {xs ys : List Value} {Xs Ys : List (List Nat)}
theorem Twin.swap (T : Twin zs zw GA GB s ix iy m1 m2 w x y xs ys Xs Ys) : Twin zs zw GB GA s iy ix m2 m1 w y x ys xs Ys Xs :=
  ⟨T.os, T.tape, T.output, T.size, fun p hp h => T.sp p hp fun j hj => ⟨(h j hj).2, (h j hj).1⟩, T.ry, T.rx, T.bz, T.bx, fun b h1 h2 => T.xy b h2 h1, T.ly, T.lx, T.my, T.mx⟩
theorem Twin.start (hz : zw.heap.size = zs) : Twin zs zw GA GB 0 0 0 m1 m2 zw (.slice none 0 0) (.slice none 0 0) [] [] [] [] :=
  ⟨rfl, rfl, rfl, by omega, fun _ _ _ => rfl, RowsOwn.nil, RowsOwn.nil, fun v hv => (by cases hv), fun v hv => (by cases hv), fun b h => (by cases h), rfl, rfl, fun X hX => (by cases hX), fun X hX => (by cases hX)⟩
theorem Twin.drew (T : Twin zs zw GA GB s ix iy m1 m2 w x y xs ys Xs Ys) : Twin zs zw GA GB s ix iy m1 m2 w.drew x y xs ys Xs Ys :=
  ⟨T.os, T.tape, T.output, T.size, T.sp, T.rx.below (Below.refl _ _).drew, T.ry.below (Below.refl _ _).drew, T.bx, T.bz, T.xy, T.lx, T.ly, T.mx, T.my⟩
theorem Twin.moved (T : Twin zw.heap.size zw GA GB s ix iy m1 m2 w x y xs ys Xs Ys) (q : Below w.heap.size w w') : Twin zw.heap.size zw GA GB s ix iy m1 m2 w' x y xs ys Xs Ys :=
  ⟨q.os.trans T.os, q.tape.trans T.tape, q.output.trans T.output, Nat.le_trans T.size q.size, fun p hp h => (q.block p (Nat.lt_of_lt_of_le hp T.size)).trans (T.sp p hp h), T.rx.below q, T.ry.below q, T.bx, T.bz, T.xy, T.lx, T.ly, T.mx, T.my⟩
/-- What is neither the i-th text of the one nor of the other stays. -/
structure Tch (r1 r2 : Option Nat) (w w' : World) : Prop where
  os : w'.os = w.os
  tape : w'.tape = w.tape
  output : w'.output = w.output
  size : w.heap.size ≤ w'.heap.size
  block : ∀ b, b < w.heap.size → r1 ≠ some b → r2 ≠ some b → w'.heap[b]? = w.heap[b]?
theorem Tch.refl {r1 r2 : Option Nat} : Tch r1 r2 w w := ⟨rfl, rfl, rfl, Nat.le_refl _, fun _ _ _ _ => rfl⟩
theorem Tch.below {r1 r2 : Option Nat} {w0 : World} (t : Tch r1 r2 w0 w) (q : Below w.heap.size w w') : Tch r1 r2 w0 w' :=
  ⟨q.os.trans t.os, q.tape.trans t.tape, q.output.trans t.output, Nat.le_trans t.size q.size, fun b hb h1 h2 => (q.block b (Nat.lt_of_lt_of_le hb t.size)).trans (t.block b hb h1 h2)⟩
theorem Tch.grow1 {r1 r2 : Option Nat} {w0 : World} (t : Tch r1 r2 w0 w) (q : w.grownBy w' r1) : Tch r1 r2 w0 w' :=
  ⟨q.os.trans t.os, q.tape.trans t.tape, q.output.trans t.output, Nat.le_trans t.size q.size, fun b hb h1 h2 => (q.block b (Nat.lt_of_lt_of_le hb t.size) (fun e => h1 e.symm)).trans (t.block b hb h1 h2)⟩
theorem Tch.grow2 {r1 r2 : Option Nat} {w0 : World} (t : Tch r1 r2 w0 w) (q : w.grownBy w' r2) : Tch r1 r2 w0 w' :=
  ⟨q.os.trans t.os, q.tape.trans t.tape, q.output.trans t.output, Nat.le_trans t.size q.size, fun b hb h1 h2 => (q.block b (Nat.lt_of_lt_of_le hb t.size) (fun e => h2 e.symm)).trans (t.block b hb h1 h2)⟩
theorem Tch.set1 {g k : Nat} {r2 : Option Nat} {w0 : World} (t : Tch (some g) r2 w0 w) (u : Value) : Tch (some g) r2 w0 (w.setCell ⟨g, k, none⟩ u) :=
  ⟨t.os, t.tape, t.output, by simpa [World.setCell] using t.size, fun b hb h1 h2 => (Below.heap_setCell _ _ _ _ (fun e => h1 (by rw [e]))).trans (t.block b hb h1 h2)⟩
theorem Tch.set2 {g k : Nat} {r1 : Option Nat} {w0 : World} (t : Tch r1 (some g) w0 w) (u : Value) : Tch r1 (some g) w0 (w.setCell ⟨g, k, none⟩ u) :=
  ⟨t.os, t.tape, t.output, by simpa [World.setCell] using t.size, fun b hb h1 h2 => (Below.heap_setCell _ _ _ _ (fun e => h2 (by rw [e]))).trans (t.block b hb h1 h2)⟩
theorem Tch.cell {r1 r2 : Option Nat} (t : Tch r1 r2 w w') {b k : Nat} {u : Value} (h : w.cell? ⟨b, k, none⟩ = some u) (h1 : r1 ≠ some b) (h2 : r2 ≠ some b) : w'.cell? ⟨b, k, none⟩ = some u :=
  (World.cell?_of_block (a := ⟨b, k, none⟩) (t.block b (World.block_lt_of_cell? w _ h) h1 h2)).trans h
theorem Twin.touch (T : Twin zs zw GA GB i i i m1 m2 w x y xs ys Xs Ys) (A : Apart zs GA GB) (hA : GA[i]? = some ga) (hB : GB[i]? = some gb) (t : Tch (some ga) (some gb) w w') : Twin zs zw GA GB (i + 1) i i m1 m2 w' x y xs ys Xs Ys := by
  have la := A.2.2.2.1 i ga hA
  have lb := A.2.2.2.2 i gb hB
  have hb : ∀ b, b < w.heap.size → b ≠ ga → b ≠ gb → w'.heap[b]? = w.heap[b]? := fun b h1 h2 h3 => t.block b h1 (fun e => h2 (Option.some.inj e).symm) (fun e => h3 (Option.some.inj e).symm)
  refine ⟨t.os.trans T.os, t.tape.trans T.tape, t.output.trans T.output, Nat.le_trans T.size t.size, fun p hp h => ?_, ?_, ?_, T.bx, T.bz, T.xy, T.lx, T.ly, T.mx, T.my⟩
  · have h2 := h i (Nat.lt_succ_self i)
    rw [hA, hB] at h2
    exact (hb p (Nat.lt_of_lt_of_le hp T.size) (fun e => h2.1 (by rw [e])) (fun e => h2.2 (by rw [e]))).trans (T.sp p hp fun j hj => h j (by omega))
  · refine T.rx.keepB t.size (fun b e => ?_) fun v hv b e => ?_
    · have := T.rx.1.lt b e
      exact hb b this.2 (by omega) (by omega)
    · refine hb b (T.rx.mem hv b e).1 (fun e2 => ?_) (fun e2 => ?_)
      · obtain ⟨j, hj, hg⟩ := (T.bx v hv b e).2 (by omega)
        exact A.2.1 j i b hj hg (by rw [hA, e2])
      · obtain ⟨j, hj, hg⟩ := (T.bx v hv b e).2 (by omega)
        exact A.1 j i b hg (by rw [hB, e2])
  · refine T.ry.keepB t.size (fun b e => ?_) fun v hv b e => ?_
    · have := T.ry.1.lt b e
      exact hb b this.2 (by omega) (by omega)
    · refine hb b (T.ry.mem hv b e).1 (fun e2 => ?_) (fun e2 => ?_)
      · obtain ⟨j, hj, hg⟩ := (T.bz v hv b e).2 (by omega)
        exact A.1 i j b (by rw [hA, e2]) hg
      · obtain ⟨j, hj, hg⟩ := (T.bz v hv b e).2 (by omega)
        exact A.2.2.1 j i b hj hg (by rw [hB, e2])
/-- One text more in the one row. -/
theorem Twin.more (T : Twin zs zw GA GB s i iy m1 m2 w x y xs ys Xs Ys) (A : Apart zs GA GB) (hA : GA[i]? = some ga) (hi : i < s) {x' v' : Value} {L : List Nat} (t : Tch (some ga) x.ownBlock w w') (R : RowsOwn zs w' x' (xs ++ [v']) (Xs ++ [L])) (hL : ∀ c ∈ L, c = m1)
    (hv : ∀ b, v'.ownBlock = some b → b = ga ∨ w.heap.size ≤ b) (hx : ∀ b, x'.ownBlock = some b → x.ownBlock = some b ∨ w.heap.size ≤ b) : Twin zs zw GA GB s (i + 1) iy m1 m2 w' x' y (xs ++ [v']) ys (Xs ++ [L]) Ys := by
  have la := A.2.2.2.1 i ga hA
  have zw' := T.size
  have hb : ∀ b, b < w.heap.size → b ≠ ga → x.ownBlock ≠ some b → w'.heap[b]? = w.heap[b]? := fun b h1 h2 h3 => t.block b h1 (fun e => h2 (Option.some.inj e).symm) h3
  have xl : ∀ b, x.ownBlock = some b → zs ≤ b := fun b e => (T.rx.1.lt b e).1
  have yl : ∀ b, y.ownBlock = some b → zs ≤ b ∧ b < w.heap.size := fun b e => T.ry.1.lt b e
  refine ⟨t.os.trans T.os, t.tape.trans T.tape, t.output.trans T.output, Nat.le_trans T.size t.size, fun p hp h => ?_, R, ?_, fun v hm b e => ?_, fun v hm b e => ⟨fun e2 => ?_, (T.bz v hm b e).2⟩, fun b e e2 => ?_, by simp [T.lx], T.ly, fun X hX => ?_, T.my⟩
  · have h2 := h i hi
    rw [hA] at h2
    exact (hb p (by omega) (fun e => h2.1 (by rw [e])) (fun e => by have := xl p e; omega)).trans (T.sp p hp h)
  · refine T.ry.keepB t.size (fun b e => ?_) fun v hm b e => ?_
    · have := yl b e
      exact hb b this.2 (by omega) (fun e2 => T.xy b e2 e)
    · refine hb b (T.ry.mem hm b e).1 (fun e2 => ?_) (T.bz v hm b e).1
      obtain ⟨j, hj, hg⟩ := (T.bz v hm b e).2 (by omega)
      exact A.1 i j b (by rw [hA, e2]) hg
  · rcases List.mem_append.1 hm with hm | hm
    · obtain ⟨h1, h2⟩ := T.bx v hm b e
      exact ⟨h1, fun hz => by obtain ⟨j, hj, hg⟩ := h2 hz; exact ⟨j, by omega, hg⟩⟩
    · rw [List.mem_singleton] at hm
      subst hm
      rcases hv b e with rfl | hb2
      · exact ⟨fun e2 => by have := yl b e2; omega, fun _ => ⟨i, by omega, hA⟩⟩
      · exact ⟨fun e2 => by have := yl b e2; omega, fun hz => by omega⟩
  · rcases hx b e2 with h1 | h1
    · exact (T.bz v hm b e).1 h1
    · have := (T.ry.mem hm b e).1; omega
  · rcases hx b e with h1 | h1
    · exact T.xy b h1 e2
    · have := yl b e2; omega
  · rcases List.mem_append.1 hX with h1 | h1
    · exact T.mx X h1
    · rw [List.mem_singleton] at h1
      subst h1
      exact hL
end
theorem Twin.below {Z s ix iy m1 m2 : Nat} {zw w : World} {GA GB : List Nat} {x y : Value} {xs ys : List Value} {Xs Ys : List (List Nat)} (T : Twin zw.heap.size zw GA GB s ix iy m1 m2 w x y xs ys Xs Ys) (hZ : Z ≤ zw.heap.size) (h : ∀ i g : Nat, (GA[i]? = some g ∨ GB[i]? = some g) → Z ≤ g) : Below Z zw w :=
  ⟨T.os, T.tape, T.output, T.size, fun k hk => T.sp k (by omega) fun j hj => ⟨fun e => by have := h j k (.inl e); omega, fun e => by have := h j k (.inr e); omega⟩⟩
theorem RowAt.keepB {B : Nat} {w w' : World} {v : Value} {l : List Nat} (h : RowAt B w v l) (hv : ∀ b, v.ownBlock = some b → w'.heap[b]? = w.heap[b]?) : RowAt B w' v l := by
  obtain ⟨g, cap, e, own⟩ := h
  subst e
  exact ⟨g, cap, rfl, ownsRow_keep own fun b e => hv b e⟩
theorem RowsOwn.base2 {Z n cap j : Nat} {w : World} {a : Option Addr} {x : Value} {vs : List Value} {Ls : List (List Nat)} (h : RowsOwn Z w (.slice a n cap) vs Ls) (hx : vs[j]? = some x) : ∃ b, a = some ⟨b, 0, none⟩ ∧ w.cell? ⟨b, j, none⟩ = some x := by
  have hj := (List.getElem?_eq_some_iff.1 hx).1
  obtain ⟨h1, h2⟩ := id h.1
  rcases h2 with ⟨_, h0⟩ | ⟨g, c, cur, e, hg, hh, hc, hm, hs, ht⟩
  · omega
  · cases e
    exact ⟨g, rfl, own_cell h.1 hx⟩
theorem Tch.two {r1 r2 : Option Nat} {w w' : World} (t : Tch r1 r2 w w') {pa pb i : Nat} {va vb : Value} (K : w.cell? ⟨pa, i, none⟩ = some va ∧ w.cell? ⟨pb, i, none⟩ = some vb) (h : (r1 ≠ some pa ∧ r1 ≠ some pb) ∧ r2 ≠ some pa ∧ r2 ≠ some pb) : w'.cell? ⟨pa, i, none⟩ = some va ∧ w'.cell? ⟨pb, i, none⟩ = some vb :=
  ⟨t.cell K.1 h.1.1 h.2.1, t.cell K.2 h.1.2 h.2.2⟩
theorem Twin.offX {zs s i iy m1 m2 ga : Nat} {zw w : World} {GA GB : List Nat} {x y : Value} {xs ys : List Value} {Xs Ys : List (List Nat)} (T : Twin zs zw GA GB s i iy m1 m2 w x y xs ys Xs Ys) (A : Apart zs GA GB) (hA : GA[i]? = some ga) : ∀ v ∈ xs, ∀ b, v.ownBlock = some b → some ga ≠ some b := fun v hv b e e2 => by
  cases e2
  obtain ⟨j, hj, hg⟩ := (T.bx v hv ga e).2 (A.2.2.2.1 i ga hA)
  exact A.2.1 j i ga hj hg hA
theorem apart4 {zs a0 a1 a2 a3 b0 b1 b2 b3 : Nat} (h1 : a0 < a1) (h2 : a1 < a2) (h3 : a2 < a3) (h4 : a3 < b0) (h5 : b0 < b1) (h6 : b1 < b2) (h7 : b2 < b3) (h8 : b3 < zs) : Apart zs [a0, a1, a2, a3] [b0, b1, b2, b3] := by
  have KA : ∀ i g : Nat, [a0, a1, a2, a3][i]? = some g → i < 4 ∧ (i = 0 → g = a0) ∧ (i = 1 → g = a1) ∧ (i = 2 → g = a2) ∧ (i = 3 → g = a3) := by
    intro i g h
    match i, h with
    | 0, h => cases h; exact ⟨by omega, fun _ => rfl, by omega, by omega, by omega⟩
    | 1, h => cases h; exact ⟨by omega, by omega, fun _ => rfl, by omega, by omega⟩
    | 2, h => cases h; exact ⟨by omega, by omega, by omega, fun _ => rfl, by omega⟩
    | 3, h => cases h; exact ⟨by omega, by omega, by omega, by omega, fun _ => rfl⟩
    | i + 4, h => simp at h
  have KB : ∀ i g : Nat, [b0, b1, b2, b3][i]? = some g → i < 4 ∧ (i = 0 → g = b0) ∧ (i = 1 → g = b1) ∧ (i = 2 → g = b2) ∧ (i = 3 → g = b3) := by
    intro i g h
    match i, h with
    | 0, h => cases h; exact ⟨by omega, fun _ => rfl, by omega, by omega, by omega⟩
    | 1, h => cases h; exact ⟨by omega, by omega, fun _ => rfl, by omega, by omega⟩
    | 2, h => cases h; exact ⟨by omega, by omega, by omega, fun _ => rfl, by omega⟩
    | 3, h => cases h; exact ⟨by omega, by omega, by omega, by omega, fun _ => rfl⟩
    | i + 4, h => simp at h
  refine ⟨fun i j g hi hj => ?_, fun i j g hij hi hj => ?_, fun i j g hij hi hj => ?_, fun i g hi => ?_, fun i g hi => ?_⟩
  · have := KA i g hi; have := KB j g hj; omega
  · have := KA i g hi; have := KA j g hj; omega
  · have := KB i g hi; have := KB j g hj; omega
  · have := KA i g hi; omega
  · have := KB i g hi; omega
/-- A text in a row of its own. -/
def TextAt (w : World) (v : Value) (g n : Nat) : Prop := ∃ c A, v = .slice (some ⟨g, 0, none⟩) n c ∧ A.length = n ∧ w.ownsRow 0 5 1 v n (u8s A)
theorem TextAt.mk {w : World} {Z g n c : Nat} {A : List Nat} (h : w.ownsRow Z 5 1 (.slice (some ⟨g, 0, none⟩) n c) n (u8s A)) : TextAt w (.slice (some ⟨g, 0, none⟩) n c) g n :=
  ⟨c, A, rfl, by have := h.1; simpa [u8s] using this, ownsRow_base0 h⟩
theorem text_put {w : World} {g n c k : Nat} {A : List Nat} (h : w.ownsRow 0 5 1 (.slice (some ⟨g, 0, none⟩) n c) n (u8s A)) (x : Nat) : (w.setCell ⟨g, k, none⟩ (.int .u8 (x : Int))).ownsRow 0 5 1 (.slice (some ⟨g, 0, none⟩) n c) n (u8s (A.set k x)) := by
  have h1 := (h.stored k (.int .u8 (x : Int))).1
  have e : (u8s A).set k (.int .u8 (x : Int)) = u8s (A.set k x) := by simp [u8s, List.map_set]
  rw [e] at h1
  exact h1
theorem text_slice {w : World} {Z n c : Nat} {v : Value} {A : List Nat} (h : w.ownsRow Z 5 1 v (n + 1) (u8s A ++ u8s [c])) (hA : A.length = n) : SliceOf u8c w v (A ++ [c]) := by
  have e : n + 1 = (A ++ [c]).length := by simp [hA]
  rw [e, ← u8s_append] at h
  exact SliceOf.of_own h (u8s_eq _)
/-- Written over as far as k. -/
def Over (A : List Nat) (k m : Nat) : Prop := ∀ j, j < k → j < A.length → A[j]? = some m
theorem Over.put {A : List Nat} {k m : Nat} (h : Over A k m) : Over (A.set k m) (k + 1) m := fun j hj hl => by
  rw [List.length_set] at hl
  by_cases e : k = j
  · subst e
    rw [List.getElem?_set_self hl]
  · rw [List.getElem?_set_ne e]
    exact h j (by omega) hl
theorem Over.all {A : List Nat} {m : Nat} (h : Over A A.length m) : ∀ c ∈ A ++ [m], c = m := fun c hc => by
  rcases List.mem_append.1 hc with h1 | h1
  · obtain ⟨j, hj⟩ := List.mem_iff_getElem?.1 h1
    have hl := (List.getElem?_eq_some_iff.1 hj).1
    have := h j hl hl
    rw [hj] at this
    exact Option.some.inj this
  · rw [List.mem_singleton] at h1
    exact h1
/-- As app_u8; where the row lies. -/
theorem app_u8b {ops : Array Oper} {rest : List Oper} {o : Oper} {a : Act} {Q : Exit → Act → World → Prop} {w : World} (s x : Operand) (hgd : o.guard = none)
    (ho : o.op = .call { callee := .builtin .append, args := #[s, x], argTypes := #[29, 29] })
    (B : Nat) (v : Value) (n : Nat) (xs : List Value) (hs : a.eval s = v) (hown : w.ownsRow B 5 1 v n xs) (b c : Nat) (hx : a.eval x = .slice (some ⟨b, 0, none⟩) 1 1) (hb : w.heap[b]? = some (.cells #[.int .u8 (c : Int)] 5 (0, 0)))
    (hlen : n + 1 ≤ 140737488355328) (hB : B ≤ w.heap.size)
    (h : ∀ v' w', w'.ownsRow B 5 1 v' (n + 1) (xs ++ u8s [c]) → w.grownBy w' v.ownBlock → (v'.ownBlock = v.ownBlock ∨ v'.ownBlock = some w.heap.size) → wpList Tryd.prog ops Q rest (a.put o.dst v') w') :
    wpList Tryd.prog ops Q (o :: rest) a w := by
  obtain ⟨i0, hi, hz0, hz1, hz2⟩ := info_parts info_u8
  refine wpList_append_own2 w hgd s x 29 ho B 5 i0 (.int .u8 0) 1 1 Tryd.underlying29 hi hz0 hz1 hz2 rfl (by decide) v n xs hs hown ⟨b, 0, none⟩ 1 1 (u8s [c]) hx (by simp [u8s]) ?_ ?_ (by unfold maxLen; omega) (by omega) hB h
  · intro j u hj
    have e : (⟨b, 0, none⟩ : Addr).add j = ⟨b, 0 + j, none⟩ := Go.WideShapes.add_plain _ _ _
    rw [e, cell_of_row _ _ _ _ _ _ hb]
    match j, hj with
    | 0, hj => cases hj; rfl
    | j + 1, hj => cases hj
  · intro u hu
    simp only [u8s, List.mem_map] at hu
    obtain ⟨c, _, rfl⟩ := hu
    rfl
theorem wpList_store_u8 {ops : Array Oper} {rest : List Oper} {o : Oper} {a : Act} {w : World} {Q : Exit → Act → World → Prop} (hgd : o.guard = none) (hd : o.dst = none) (x y : Operand) (ho : o.op = .store 5 x y)
    (g k : Nat) (c : Int) (hx : a.eval x = .pointer (some ⟨g, k, none⟩)) (hy : a.eval y = .int .u8 c) {u : Value} (hc : w.cell? ⟨g, k, none⟩ = some u) (hf : w.frozen? ⟨g, k, none⟩ = false)
    (h : wpList Tryd.prog ops Q rest a (w.setCell ⟨g, k, none⟩ (.int .u8 c))) : wpList Tryd.prog ops Q (o :: rest) a w :=
  wpList_plain hgd fun _ hK => by
    obtain ⟨i0, hi, hz0, hz1, hz2⟩ := info_parts info_u8
    have e : (⟨g, k, none⟩ : Addr).add 0 = ⟨g, k + 0, none⟩ := Go.WideShapes.add_plain _ _ _
    unfold Oper.wp execOp
    simp only [ho, hx, hy, Instr.storeAt, Instr.sureAddr, Sem.run_bind, Sem.run_pure, Result.andThen_ok]
    have e2 : (storeVar 5 ⟨g, k, none⟩ (.int .u8 c)).run Tryd.prog w = .ok () (w.setCell ⟨g, k, none⟩ (.int .u8 c)) := by
      simp [storeVar, sizeOf, typeInfo, hi, hz1, Value.cells, storeCells, e]
      rw [run_store (hv := rfl), hc]
      simp [hf]
    rw [e2]
    have := hK _ _ h
    have hp : a.put o.dst undef = a := by rw [hd]; rfl
    show _
    first | exact this | (rw [hp.symm] at this; exact this)
section
variable {P : Program} {md : Region.Mode} {ops : Array Oper} {Q : Exit → Act → World → Prop} {S : World → Prop}
theorem anyH_two {i j fuel : Nat} {oi oj : Oper} {listed : Array Bool} {a : Act} {w : World} (hr : Region.ready md ops listed = [i, j]) (hi : ops[i]? = some oi) (hj : ops[j]? = some oj)
    (h1 : wpList P ops (thenH Q fun a' w' => S w' ∧ wpAnyH P md ops Q S fuel (listed.setIfInBounds i true) a' w') [oi] a w)
    (h2 : wpList P ops (thenH Q fun a' w' => S w' ∧ wpAnyH P md ops Q S fuel (listed.setIfInBounds j true) a' w') [oj] a w) : wpAnyH P md ops Q S (fuel + 1) listed a w := by
  have K : ∀ {k : Nat} {o : Oper}, ops[k]? = some o → wpList P ops (thenH Q fun a' w' => S w' ∧ wpAnyH P md ops Q S fuel (listed.setIfInBounds k true) a' w') [o] a w →
      wpOp P ops Q k (fun a' w' => S w' ∧ wpAnyH P md ops Q S fuel (listed.setIfInBounds k true) a' w') a w := by
    intro k o hk h
    unfold wpOp
    rw [hk]
    unfold wpList at h
    by_cases hw : Region.wanted o (yielded ops a.tmps) = true
    · simp only [hw, if_true] at h ⊢
      rcases h with h | ⟨h1, h2⟩
      · left
        unfold Oper.wp at h ⊢
        rw [upon_same] at h
        exact h
      · exact .inr ⟨h1, h2⟩
    · simp only [hw] at h ⊢
      exact h
  refine wpAnyH_all hr (by simp) fun k hk => ?_
  have : k = i ∨ k = j := by simpa using hk
  rcases this with rfl | rfl
  · exact K hi h1
  · exact K hj h2
end
end Go.Proofs.YtcifnfffoiiceaaDoor
