/-
  Four rows of numbers, apart in memory, that are written over and grown. No walk in sight.
-/
import Derived.Test.YtkiomgnjjijbgaaList3
import Derived.Test.YtkiomgnjjijbgaaGrow
namespace Go.Proofs.Ytkiomgnjjijbgaa
open Go.RowKit
set_option linter.unusedVariables false

def mark (j : Nat) : Value := .int .u64 (201 + (j : Int))
theorem mark_one (j : Nat) : (mark j).oneCell' = true := rfl
/-- The four values of rows lie in blocks of their own, none of them in block g. -/
def Dis (V : Nat → Value) (g : Nat) : Prop := (∀ j k b, j < 4 → k < 4 → j ≠ k → (V j).ownBlock = some b → (V k).ownBlock ≠ some b) ∧ ∀ j, j < 4 → (V j).ownBlock ≠ some g
def Inv1 (Z gl : Nat) (V : Nat → Value) (n : Nat → Nat) (x y : Nat) (wr : World) : Prop :=
  (∀ j, j < 4 → ∃ xs, wr.ownsRow Z 22 1 (V j) (n j) xs ∧ ∀ k, k < n j → (j < x ∨ (j = x ∧ k < y)) → xs[k]? = some (mark j)) ∧
  (∀ j, j < 4 → wr.cell? ⟨gl, j, none⟩ = some (V j)) ∧ Z ≤ gl ∧ gl < wr.heap.size
theorem own_setOther {w : World} {B : Nat} {t : TypeId} {s n : Nat} {v : Value} {xs : List Value} (h : w.ownsRow B t s v n xs) (a : Addr) (u : Value) (ha : v.ownBlock ≠ some a.block) : (w.setCell a u).ownsRow B t s v n xs := by
  refine ⟨h.1, h.2.imp id ?_⟩
  rintro ⟨g, cap, cur, hv, hg, hh, rest⟩
  have hne : g ≠ a.block := by
    intro e
    apply ha
    rw [hv, ← e]
    rfl
  exact ⟨g, cap, cur, hv, hg, by rw [heap_setCell_other _ _ _ _ hne]; exact hh, rest⟩
theorem inv1_store {Z gl : Nat} {V : Nat → Value} {n : Nat → Nat} {x y : Nat} {wr : World} (h : Inv1 Z gl V n x y wr) (hx : x < 4) (hy : y < n x) {g cap : Nat} (hv : V x = .slice (some ⟨g, 0, none⟩) (n x) cap) (D : Dis V gl) :
    Inv1 Z gl V n x (y + 1) (wr.setCell ⟨g, y, none⟩ (mark x)) := by
  obtain ⟨h1, h2, h3, h4⟩ := h
  have hg : (V x).ownBlock = some g := by rw [hv]; rfl
  have ngl : g ≠ gl := fun e => D.2 x hx (by rw [hg, e])
  refine ⟨fun j hj => ?_, fun j hj => ?_, h3, by rw [size_set]; exact h4⟩
  · obtain ⟨xs, hown, hm⟩ := h1 j hj
    by_cases e : j = x
    · subst e
      rw [hv] at hown ⊢
      refine ⟨xs.set y (mark j), (hown.stored y (mark j)).1, fun k hk hc => ?_⟩
      have hl : xs.length = n j := by have := hown.1; omega
      rw [List.getElem?_set]
      by_cases ek : y = k
      · rw [if_pos ek, if_pos (by omega)]
      · rw [if_neg ek]
        exact hm k hk (by omega)
    · exact ⟨xs, own_setOther hown _ _ (D.1 x j g hx hj (fun e' => e e'.symm) hg), fun k hk hc => hm k hk (by omega)⟩
  · rw [← h2 j hj]
    exact World.cell?_of_block (heap_setCell_other _ _ _ _ (by simpa using fun e => ngl e.symm))
theorem inv1_next {Z gl : Nat} {V : Nat → Value} {n : Nat → Nat} {x : Nat} {wr : World} (h : Inv1 Z gl V n x (n x) wr) : Inv1 Z gl V n (x + 1) 0 wr := by
  refine ⟨fun j hj => ?_, h.2⟩
  obtain ⟨xs, hown, hm⟩ := h.1 j hj
  refine ⟨xs, hown, fun k hk hc => hm k hk ?_⟩
  by_cases e : j = x
  · subst e; right; exact ⟨rfl, hk⟩
  · left; omega
/-- In the second part rows below x are grown by two marks and lie in V; the others are as V0 has them. -/
def Inv2 (Z gl ga : Nat) (V0 : Nat → Value) (n : Nat → Nat) (x : Nat) (wr : World) : Prop :=
  ∃ V : Nat → Value, (∀ j, j < 4 → x ≤ j → V j = V0 j) ∧ Dis V gl ∧ (∀ j, j < 4 → (V j).ownBlock ≠ some ga) ∧
  (∀ j, j < 4 → ∃ xs, wr.ownsRow Z 22 1 (V j) (n j + (if j < x then 2 else 0)) xs ∧ ∀ k, k < n j + (if j < x then 2 else 0) → xs[k]? = some (mark j)) ∧
  (∀ j, j < 4 → wr.cell? ⟨gl, j, none⟩ = some (V0 j)) ∧ (∀ j, j < 4 → j < x → wr.cell? ⟨ga, j, none⟩ = some (V j)) ∧ (∀ j, j < 4 → ∃ u, wr.cell? ⟨ga, j, none⟩ = some u) ∧
  (∃ cs t, wr.heap[ga]? = some (.cells cs t (0, 0))) ∧ Z ≤ gl ∧ gl < wr.heap.size ∧ Z ≤ ga ∧ ga < wr.heap.size ∧ gl ≠ ga
theorem size_alloc1 (w : World) (o : Obj) : (w.alloc o).heap.size = w.heap.size + 1 := by simp
theorem inv2_start {Z gl ga : Nat} {V : Nat → Value} {n : Nat → Nat} {wr w' : World} {t : TypeId} {cs : Array Value} (h : Inv1 Z gl V n 4 0 wr) (D : Dis V gl) (e : w' = wr.alloc (.cells cs t (0, 0))) (eg : ga = wr.heap.size) (hc : cs.size = 4) :
    Inv2 Z gl ga V n 0 w' := by
  subst e eg
  obtain ⟨h1, h2, h3, h4⟩ := h
  refine ⟨V, fun _ _ _ => rfl, D, fun j hj e => ?_, fun j hj => ?_, fun j hj => ?_, fun j _ h => by omega, fun j hj => ?_, ⟨cs, t, heap_alloc_new _ _⟩, h3, by simp; omega, by omega, by simp, by omega⟩
  · obtain ⟨xs, hown, _⟩ := h1 j hj
    have := (hown.lt _ e).2
    omega
  · obtain ⟨xs, hown, hm⟩ := h1 j hj
    exact ⟨xs, hown.alloc _, fun k hk => hm k hk (.inl hj)⟩
  · rw [← h2 j hj]
    exact World.cell?_of_block (heap_alloc_old _ _ h4)
  · rw [cell_of_row _ _ _ _ _ _ (heap_alloc_new _ _)]
    exact ⟨cs[j]'(by omega), Array.getElem?_eq_getElem _⟩
theorem inv2_row {Z gl ga : Nat} {V0 : Nat → Value} {n : Nat → Nat} {x : Nat} {wr : World} (h : Inv2 Z gl ga V0 n x wr) (hx : x < 4) :
    ∃ xs, wr.ownsRow Z 22 1 (V0 x) (n x) xs ∧ ∀ k, k < n x → xs[k]? = some (mark x) := by
  obtain ⟨V, eV, _, _, rows, _⟩ := h
  obtain ⟨xs, hown, hm⟩ := rows x hx
  rw [eV x hx (Nat.le_refl _), if_neg (by omega)] at hown
  rw [if_neg (by omega)] at hm
  exact ⟨xs, hown, hm⟩
theorem cells_set {w : World} {g x : Nat} {cs : Array Value} {t : TypeId} (h : w.heap[g]? = some (.cells cs t (0, 0))) (u : Value) (hx : x < cs.size) (j : Nat) :
    (w.setCell ⟨g, x, none⟩ u).cell? ⟨g, j, none⟩ = if j = x then some u else w.cell? ⟨g, j, none⟩ := by
  rw [cell_of_row _ _ _ _ _ _ (heap_setCell_same w g x cs t u h), cell_of_row _ _ _ _ _ _ h]
  by_cases e : j = x
  · subst e
    simp [hx]
  · rw [if_neg e, Array.getElem?_setIfInBounds_ne (fun e' => e e'.symm)]
theorem inv2_step {Z gl ga : Nat} {V0 : Nat → Value} {n : Nat → Nat} {x : Nat} {wr wB wD : World} (h : Inv2 Z gl ga V0 n x wr) (hx : x < 4) {o1 o2 : Obj} {vB vD : Value} {xs : List Value} (hm : ∀ k, k < n x → xs[k]? = some (mark x)) (hl : xs.length = n x)
    (hg1 : (wr.alloc o1).grownBy wB (V0 x).ownBlock) (hb1 : vB.ownBlock = (V0 x).ownBlock ∨ vB.ownBlock = some (wr.alloc o1).heap.size)
    (own2 : wD.ownsRow Z 22 1 vD (n x + 1 + 1) (xs ++ [mark x] ++ [mark x])) (hg2 : (wB.alloc o2).grownBy wD vB.ownBlock) (hb2 : vD.ownBlock = vB.ownBlock ∨ vD.ownBlock = some (wB.alloc o2).heap.size) :
    Inv2 Z gl ga V0 n (x + 1) (wD.setCell ⟨ga, x, none⟩ vD) := by
  obtain ⟨V, eV, D, DA, rows, cl, ca, cu, ⟨cs, t, hga⟩, z1, z2, z3, z4, z5⟩ := h
  have s1 := hg1.size
  have s2 := hg2.size
  simp only [size_alloc1] at s1 s2 hb1 hb2
  have ex := eV x hx (Nat.le_refl _)
  -- a block of the world ahead that is not the row's own: as it was
  have keep : ∀ b, b < wr.heap.size → some b ≠ (V x).ownBlock → wD.heap[b]? = wr.heap[b]? := by
    intro b hb hne
    rw [ex] at hne
    have nb : some b ≠ vB.ownBlock := by
      rcases hb1 with e | e
      · rw [e]; exact hne
      · rw [e]; intro e'; have := Option.some.inj e'; omega
    rw [hg2.block b (by simp; omega) nb, heap_alloc_old _ _ (by omega), hg1.block b (by simp; omega) hne, heap_alloc_old _ _ hb]
  -- where the row lies now
  have at_ : ∀ b, vD.ownBlock = some b → (V x).ownBlock = some b ∨ wr.heap.size ≤ b := by
    intro b hb
    rw [ex]
    rcases hb2 with e | e
    · rw [e] at hb
      rcases hb1 with e1 | e1
      · left; rw [← e1]; exact hb
      · right; rw [e1] at hb; have := Option.some.inj hb; omega
    · right; rw [e] at hb; have := Option.some.inj hb; omega
  have hlt : ∀ j, j < 4 → ∀ b, (V j).ownBlock = some b → b < wr.heap.size := fun j hj b hb => by
    obtain ⟨ys, hown, _⟩ := rows j hj
    exact (hown.lt b hb).2
  have ngl : vD.ownBlock ≠ some gl := fun e => by
    rcases at_ gl e with h | h
    · exact D.2 x hx h
    · omega
  have nga : vD.ownBlock ≠ some ga := fun e => by
    rcases at_ ga e with h | h
    · exact DA x hx h
    · omega
  have kga := keep ga z4 (fun e => DA x hx e.symm)
  have kgl := keep gl z2 (fun e => D.2 x hx e.symm)
  have hgaD : wD.heap[ga]? = some (.cells cs t (0, 0)) := by rw [kga]; exact hga
  have csz : ∀ j, j < 4 → j < cs.size := fun j hj => by
    obtain ⟨u, hu⟩ := cu j hj
    rw [cell_of_row _ _ _ _ _ _ hga] at hu
    exact (Array.getElem?_eq_some_iff.1 hu).1
  have cE := cells_set hgaD vD (csz x hx)
  refine ⟨fun j => if j = x then vD else V j, fun j hj hle => ?_, ⟨fun j k b hj hk hne => ?_, fun j hj => ?_⟩, fun j hj => ?_, fun j hj => ?_, fun j hj => ?_, fun j hj hlt2 => ?_, fun j hj => ?_, ⟨_, t, heap_setCell_same _ _ _ _ _ _ hgaD⟩, z1, by rw [size_set]; omega, z3, by rw [size_set]; omega, z5⟩
  · show (if j = x then vD else V j) = V0 j
    rw [if_neg (by omega)]
    exact eV j hj (by omega)
  · show (if j = x then vD else V j).ownBlock = some b → (if k = x then vD else V k).ownBlock ≠ some b
    intro hb hb'
    by_cases ej : j = x
    · rw [if_pos ej] at hb
      rw [if_neg (by omega)] at hb'
      rcases at_ b hb with h | h
      · exact D.1 x k b hx hk (by omega) h hb'
      · have := hlt k hk b hb'; omega
    · rw [if_neg ej] at hb
      by_cases ek : k = x
      · rw [if_pos ek] at hb'
        rcases at_ b hb' with h | h
        · exact D.1 j x b hj hx ej hb h
        · have := hlt j hj b hb; omega
      · rw [if_neg ek] at hb'
        exact D.1 j k b hj hk hne hb hb'
  · show (if j = x then vD else V j).ownBlock ≠ some gl
    by_cases ej : j = x
    · rw [if_pos ej]; exact ngl
    · rw [if_neg ej]; exact D.2 j hj
  · show (if j = x then vD else V j).ownBlock ≠ some ga
    by_cases ej : j = x
    · rw [if_pos ej]; exact nga
    · rw [if_neg ej]; exact DA j hj
  · show ∃ ys, (wD.setCell ⟨ga, x, none⟩ vD).ownsRow Z 22 1 (if j = x then vD else V j) (n j + (if j < x + 1 then 2 else 0)) ys ∧ ∀ k, k < n j + (if j < x + 1 then 2 else 0) → ys[k]? = some (mark j)
    by_cases ej : j = x
    · subst ej
      rw [if_pos rfl, if_pos (by omega)]
      refine ⟨_, own_setOther own2 _ _ nga, fun k hk => ?_⟩
      by_cases k1 : k < n j
      · rw [List.getElem?_append_left (by simp; omega), List.getElem?_append_left (by omega)]
        exact hm k k1
      · by_cases k2 : k = n j
        · rw [List.getElem?_append_left (by simp; omega), List.getElem?_append_right (by omega), hl, k2, Nat.sub_self]
          rfl
        · rw [List.getElem?_append_right (by simp; omega), show k - (xs ++ [mark j]).length = 0 by simp; omega]
          rfl
    · rw [if_neg ej]
      obtain ⟨ys, hown, hy⟩ := rows j hj
      have e2 : (if j < x + 1 then 2 else 0) = (if j < x then 2 else 0) := by
        by_cases h : j < x
        · rw [if_pos h, if_pos (by omega)]
        · rw [if_neg h, if_neg (by omega)]
      rw [e2]
      have nB : (V j).ownBlock = none ∨ (V j).ownBlock ≠ (V0 x).ownBlock := by
        cases hb : (V j).ownBlock with
        | none => exact .inl rfl
        | some b =>
          right
          intro e
          exact D.1 j x b hj hx ej hb (by rw [ex]; exact e.symm)
      have nD : (V j).ownBlock = none ∨ (V j).ownBlock ≠ vB.ownBlock := by
        cases hb : (V j).ownBlock with
        | none => exact .inl rfl
        | some b =>
          right
          intro e
          have hlb := hlt j hj b hb
          rcases hb1 with e1 | e1
          · exact D.1 j x b hj hx ej hb (by rw [ex, ← e1]; exact e.symm)
          · rw [e1] at e; have := Option.some.inj e; omega
      exact ⟨ys, own_setOther ((((hown.alloc o1).kept hg1 nB).alloc o2).kept hg2 nD) _ _ (DA j hj), hy⟩
  · rw [World.cell?_of_block (heap_setCell_other _ _ _ _ (by simpa using z5)), World.cell?_of_block (w := wr) (w' := wD) kgl]
    exact cl j hj
  · show _ = some (if j = x then vD else V j)
    rw [cE j]
    by_cases ej : j = x
    · rw [if_pos ej, if_pos ej]
    · rw [if_neg ej, if_neg ej, World.cell?_of_block (w := wr) (w' := wD) kga]
      exact ca j hj (by omega)
  · rw [cE j]
    by_cases ej : j = x
    · rw [if_pos ej]; exact ⟨_, rfl⟩
    · rw [if_neg ej, World.cell?_of_block (w := wr) (w' := wD) kga]
      exact cu j hj
/-- Ahead of the store: the array's cell. -/
theorem inv2_cell {Z gl ga : Nat} {V0 : Nat → Value} {n : Nat → Nat} {x : Nat} {wr wB wD : World} (h : Inv2 Z gl ga V0 n x wr) (hx : x < 4) {o1 o2 : Obj} {vB : Value}
    (hg1 : (wr.alloc o1).grownBy wB (V0 x).ownBlock) (hb1 : vB.ownBlock = (V0 x).ownBlock ∨ vB.ownBlock = some (wr.alloc o1).heap.size) (hg2 : (wB.alloc o2).grownBy wD vB.ownBlock) :
    (∃ u, wD.cell? ⟨ga, x, none⟩ = some u) ∧ wD.frozen? ⟨ga, x, none⟩ = false ∧ ga < wD.heap.size ∧ Z ≤ ga := by
  obtain ⟨V, eV, D, DA, rows, cl, ca, cu, ⟨cs, t, hga⟩, z1, z2, z3, z4, z5⟩ := h
  have s1 := hg1.size
  have s2 := hg2.size
  simp only [size_alloc1] at s1 s2 hb1
  have ex := eV x hx (Nat.le_refl _)
  have hne : some ga ≠ (V0 x).ownBlock := by rw [← ex]; exact fun e => DA x hx e.symm
  have nb : some ga ≠ vB.ownBlock := by
    rcases hb1 with e | e
    · rw [e]; exact hne
    · rw [e]; intro e'; have := Option.some.inj e'; omega
  have kga : wD.heap[ga]? = wr.heap[ga]? := by
    rw [hg2.block ga (by simp; omega) nb, heap_alloc_old _ _ (by omega), hg1.block ga (by simp; omega) hne, heap_alloc_old _ _ z4]
  refine ⟨?_, frozen_of_row _ ga x cs t (by rw [kga]; exact hga), by omega, z3⟩
  rw [World.cell?_of_block (w := wr) (w' := wD) kga]
  exact cu x hx
end Go.Proofs.Ytkiomgnjjijbgaa
