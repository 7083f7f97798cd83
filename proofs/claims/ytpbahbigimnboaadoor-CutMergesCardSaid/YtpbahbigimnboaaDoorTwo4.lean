/-
  Two rows of spots that are written over and grown; a row whose indices are turned. No walk in sight.
-/
import Derived.Test.YtpbahbigimnboaaDoorMerge
import Derived.Test.YtpbahbigimnboaaDoorRow4
namespace Go.Proofs.YtpbahbigimnboaaDoor
open Go.RowKit
set_option linter.unusedVariables false

theorem own_far {w : World} {B : Nat} {t : TypeId} {s n : Nat} {v : Value} {xs : List Value} (h : w.ownsRow B t s v n xs) (a : Addr) (u : Value) (ha : v.ownBlock ≠ some a.block) : (w.setCell a u).ownsRow B t s v n xs := by
  refine ⟨h.1, h.2.imp id ?_⟩
  rintro ⟨g, cap, cur, hv, hg, hh, rest⟩
  have hne : g ≠ a.block := by
    intro e
    apply ha
    rw [hv, ← e]
    rfl
  exact ⟨g, cap, cur, hv, hg, by rw [heap_setCell_other _ _ _ _ hne]; exact hh, rest⟩
def Mk (m : Int) (xs : List Value) (i : Nat) : Prop := ∀ k, k < i → xs[k * 2 + 1]? = some (.int .u64 m)
def TwoAt (Z : Nat) (vX vY : Value) (n i : Nat) (wr : World) : Prop := ∃ xs ys, wr.ownsRow Z 28 2 vX n xs ∧ wr.ownsRow Z 28 2 vY n ys ∧ Mk 201 xs i ∧ Mk 202 ys i
def Apart (a b : Value) : Prop := ∀ c, a.ownBlock = some c → b.ownBlock ≠ some c
theorem two_cells {Z : Nat} {vX vY : Value} {n i : Nat} {wr : World} (h : TwoAt Z vX vY n i wr) (hi : i < n) : ∃ gX gY cX cY, vX = .slice (some ⟨gX, 0, none⟩) n cX ∧ vY = .slice (some ⟨gY, 0, none⟩) n cY ∧ Z ≤ gX ∧ Z ≤ gY ∧
    (∃ u, wr.cell? ⟨gX, i * 2, none⟩ = some u) ∧ (∃ u, wr.cell? ⟨gX, i * 2 + 1, none⟩ = some u) ∧ (∃ u, wr.cell? ⟨gY, i * 2, none⟩ = some u) ∧ (∃ u, wr.cell? ⟨gY, i * 2 + 1, none⟩ = some u) ∧
    (∀ j, wr.frozen? ⟨gX, j, none⟩ = false) ∧ (∀ j, wr.frozen? ⟨gY, j, none⟩ = false) := by
  obtain ⟨xs, ys, hx, hy, _, _⟩ := h
  obtain ⟨a, cX, rfl, hsx⟩ := own_shape hx
  obtain ⟨gX, rfl, x1, x2, x3, cx⟩ := hsx (by omega)
  obtain ⟨b, cY, rfl, hsy⟩ := own_shape hy
  obtain ⟨gY, rfl, y1, y2, y3, cy⟩ := hsy (by omega)
  have lx : xs.length = n * 2 := hx.1
  have ly : ys.length = n * 2 := hy.1
  exact ⟨gX, gY, cX, cY, rfl, rfl, x1, y1, ⟨_, cx _ _ (List.getElem?_eq_getElem (by omega))⟩, ⟨_, cx _ _ (List.getElem?_eq_getElem (by omega))⟩, ⟨_, cy _ _ (List.getElem?_eq_getElem (by omega))⟩, ⟨_, cy _ _ (List.getElem?_eq_getElem (by omega))⟩, fun j => hx.frozenAt j, fun j => hy.frozenAt j⟩
theorem mk_set {m : Int} {xs : List Value} {n i : Nat} {u : Value} (h : Mk m xs i) (hl : xs.length = n * 2) (hi : i < n) : Mk m ((xs.set (i * 2) u).set (i * 2 + 1) (.int .u64 m)) (i + 1) := fun k hk => by
  rw [List.getElem?_set]
  by_cases e : i = k
  · subst e
    rw [if_pos rfl, if_pos (by rw [List.length_set]; omega)]
  · rw [if_neg (by omega), List.getElem?_set_ne (by omega)]
    exact h k (by omega)
theorem two_store {Z : Nat} {n i gX gY cX cY : Nat} {wr : World} {u u' : Value} (h : TwoAt Z (.slice (some ⟨gX, 0, none⟩) n cX) (.slice (some ⟨gY, 0, none⟩) n cY) n i wr) (hi : i < n) (D : Apart (.slice (some ⟨gX, 0, none⟩) n cX) (.slice (some ⟨gY, 0, none⟩) n cY)) :
    TwoAt Z (.slice (some ⟨gX, 0, none⟩) n cX) (.slice (some ⟨gY, 0, none⟩) n cY) n (i + 1) ((((wr.setCell ⟨gX, i * 2, none⟩ u).setCell ⟨gX, i * 2 + 1, none⟩ (.int .u64 201)).setCell ⟨gY, i * 2, none⟩ u').setCell ⟨gY, i * 2 + 1, none⟩ (.int .u64 202)) := by
  obtain ⟨xs, ys, hx, hy, mx, my⟩ := h
  have ne : (Value.slice (some ⟨gY, 0, none⟩) n cY).ownBlock ≠ some gX := D gX rfl
  have ne' : (Value.slice (some ⟨gX, 0, none⟩) n cX).ownBlock ≠ some gY := fun e => D gY e rfl
  exact ⟨_, _, own_far (own_far ((hx.stored (i * 2) u).1.stored (i * 2 + 1) (.int .u64 201)).1 _ _ ne') _ _ ne', ((own_far (own_far hy _ _ ne) _ _ ne).stored (i * 2) u').1.stored (i * 2 + 1) (.int .u64 202) |>.1, mk_set mx hx.1 hi, mk_set my hy.1 hi⟩
theorem mk_grow {m : Int} {xs : List Value} {n : Nat} {u : Value} (h : Mk m xs n) (hl : xs.length = n * 2) : Mk m (xs ++ [u, .int .u64 m]) (n + 1) := fun k hk => by
  by_cases e : k < n
  · rw [List.getElem?_append_left (by omega)]
    exact h k e
  · rw [List.getElem?_append_right (by omega), show k * 2 + 1 - xs.length = 1 by omega]
    rfl
theorem y_keep {Z n : Nat} {vX vY : Value} {wr wA : World} {ys : List Value} {o : Obj} (hy : wr.ownsRow Z 28 2 vY n ys) (hg : (wr.alloc o).grownBy wA vX.ownBlock) (D : Apart vX vY) : wA.ownsRow Z 28 2 vY n ys :=
  (hy.alloc o).kept hg (by
    cases hb : vY.ownBlock with
    | none => exact .inl rfl
    | some c => exact .inr fun e => D c e.symm hb)
theorem two_fin {Z n : Nat} {vX vY v1 v2 : Value} {wr wA wB : World} {xs ys : List Value} {o o' : Obj} (hx : wr.ownsRow Z 28 2 vX n xs) (hy : wr.ownsRow Z 28 2 vY n ys) (mx : Mk 201 xs n) (my : Mk 202 ys n) (D : Apart vX vY)
    (ownA : wA.ownsRow Z 28 2 v1 (n + 1) (xs ++ spotC [(0, 201)])) (hgA : (wr.alloc o).grownBy wA vX.ownBlock) (hatA : v1.ownBlock = vX.ownBlock ∨ v1.ownBlock = some (wr.alloc o).heap.size)
    (ownB : wB.ownsRow Z 28 2 v2 (n + 1) (ys ++ spotC [(0, 202)])) (hgB : (wA.alloc o').grownBy wB vY.ownBlock) (hZ : Z ≤ wr.heap.size) : TwoAt Z v1 v2 (n + 1) (n + 1) wB ∧ ∀ w5 : World, Below Z w5 wr → Below Z w5 wB := by
  have zA : wr.heap.size + 1 ≤ wA.heap.size := by
    have := hgA.size
    simpa using this
  refine ⟨⟨_, _, (ownA.alloc o').kept hgB ?_, ownB, mk_grow mx hx.1, mk_grow my hy.1⟩, fun w5 hb => ?_⟩
  · cases hb : v1.ownBlock with
    | none => exact .inl rfl
    | some c =>
      refine .inr fun e => ?_
      rcases hatA with h | h
      · rw [hb] at h
        exact D c h.symm e.symm
      · rw [hb] at h
        have h1 := Option.some.inj h
        have h2 := (hy.lt c e.symm).2
        simp at h1
        omega
  · exact (((hb.alloc hZ o).grown hgA (by simp; omega) (fun c hc => (hx.lt c hc).1)).alloc (by omega) o').grown hgB (by simp; omega) (fun c hc => (hy.lt c hc).1)
theorem two_read {Z : Nat} {vX vY : Value} {n i : Nat} {wr : World} (h : TwoAt Z vX vY n n wr) (hi : i < n) : ∃ gX gY cX cY, vX = .slice (some ⟨gX, 0, none⟩) n cX ∧ vY = .slice (some ⟨gY, 0, none⟩) n cY ∧
    wr.cell? ⟨gX, i * 2 + 1, none⟩ = some (.int .u64 201) ∧ wr.cell? ⟨gY, i * 2 + 1, none⟩ = some (.int .u64 202) := by
  obtain ⟨xs, ys, hx, hy, mx, my⟩ := h
  obtain ⟨a, cX, rfl, hsx⟩ := own_shape hx
  obtain ⟨gX, rfl, x1, x2, x3, cx⟩ := hsx (by omega)
  obtain ⟨b, cY, rfl, hsy⟩ := own_shape hy
  obtain ⟨gY, rfl, y1, y2, y3, cy⟩ := hsy (by omega)
  exact ⟨gX, gY, cX, cY, rfl, rfl, cx _ _ (mx i hi), cy _ _ (my i hi)⟩
theorem mergeV_len (l : List (Nat × Nat)) : (mergeV l).length ≤ 124 := by
  cases ho : overL l with
  | none =>
    unfold mergeV
    rw [ho]
    exact Nat.zero_le _
  | some ab =>
    obtain ⟨a, b⟩ := ab
    rw [(merge_some ho).1]
    exact spanL_124 (over_top ho)
theorem overV_form (l : List (Nat × Nat)) : ∃ (a b : Nat) (c : Bool), overV l = .tuple #[.int .u64 (a : Int), .int .u64 (b : Int), .bool c] := by
  cases ho : overL l with
  | none => exact ⟨0, 0, false, overV_none ho⟩
  | some ab => exact ⟨ab.1, ab.2, true, overV_some ho⟩

/-- The index turned. -/
def flipS (s : Nat × Nat) : Nat × Nat := (s.1, s.2 ^^^ 1)
def flipL (l : List (Nat × Nat)) (i : Nat) : List (Nat × Nat) := (l.take i).map flipS ++ l.drop i
theorem flipL_len (l : List (Nat × Nat)) (i : Nat) : (flipL l i).length = l.length := by
  unfold flipL
  rw [List.length_append, List.length_map, List.length_take, List.length_drop]
  omega
theorem flipL_get {l : List (Nat × Nat)} {i : Nat} (hi : i < l.length) : (flipL l i)[i]? = l[i]? := by
  unfold flipL
  rw [List.getElem?_append_right (by rw [List.length_map, List.length_take]; omega), List.length_map, List.length_take, List.getElem?_drop]
  congr 1
  omega
theorem flipL_set {l : List (Nat × Nat)} {i : Nat} {s : Nat × Nat} (h : l[i]? = some s) : (flipL l i).set i (flipS s) = flipL l (i + 1) := by
  have hi : i < l.length := (List.getElem?_eq_some_iff.1 h).1
  unfold flipL
  have hl : ((l.take i).map flipS).length = i := by rw [List.length_map, List.length_take]; omega
  rw [List.set_append, if_neg (by omega), hl, Nat.sub_self, List.drop_eq_getElem_cons hi, List.set_cons_zero, List.take_add_one, h, List.map_append, List.append_assoc]
  rfl
theorem flipL_end (l : List (Nat × Nat)) : flipL l l.length = l.map flipS := by
  unfold flipL
  rw [List.take_length, List.drop_length, List.append_nil]
theorem spotC_set : ∀ (l : List (Nat × Nat)) (i k : Nat) (s : Nat × Nat), l[i]? = some s → (spotC l).set (i * 2 + 1) (.int .u64 (k : Int)) = spotC (l.set i (s.1, k))
  | [], i, k, s, h => by simp at h
  | a :: l, 0, k, s, h => by
    have e : a = s := Option.some.inj h
    subst e
    rfl
  | a :: l, i + 1, k, s, h => by
    have ih := spotC_set l i k s h
    show (_ :: _ :: spotC l).set ((i + 1) * 2 + 1) _ = _ :: _ :: spotC (l.set i (s.1, k))
    rw [← ih, show (i + 1) * 2 + 1 = i * 2 + 1 + 1 + 1 by omega, List.set_cons_succ, List.set_cons_succ]
theorem small_flip {l : List (Nat × Nat)} (h : Small l) : Small (l.map flipS) := fun s hs => by
  obtain ⟨t, ht, rfl⟩ := List.mem_map.1 hs
  obtain ⟨h1, h2⟩ := h t ht
  refine ⟨h1, ?_⟩
  have := Nat.xor_lt_two_pow (x := t.2) (y := 1) (n := 64) h2 (by decide)
  exact this
end Go.Proofs.YtpbahbigimnboaaDoor
