/-
  Four rows of spots, apart in memory, that are written over and grown. No walk in sight.
-/
import Derived.Test.YtpbahbigimnboaaDoorSpots
import Derived.Test.YtpbahbigimnboaaDoorGrow
import Derived.Test.YtpbahbigimnboaaDoorCutJoins
import Derived.Test.YtpbahbigimnboaaDoorRefJoins
import Derived.Maps.Range
import Derived.Maps.AppendAt
import Derived.OwnWalk
import Derived.Laws.OwnMore
import Derived.Deep.AppendLies
namespace Go.Proofs.YtpbahbigimnboaaDoor
open Go.RowKit
set_option linter.unusedVariables false

/-- The mark's second cell. -/
def mark (j : Nat) : Value := .int .u64 (201 + (j : Int))
/-- All n spots are the mark. -/
def Marked (xs : List Value) (n j : Nat) : Prop := ∀ k, k < n → xs[k * 2 + 1]? = some (mark j)
/-- The four values of rows lie in blocks of their own, none of them in block g. -/
def Dis (V : Nat → Value) (g : Nat) : Prop := (∀ j k b, j < 4 → k < 4 → j ≠ k → (V j).ownBlock = some b → (V k).ownBlock ≠ some b) ∧ ∀ j, j < 4 → (V j).ownBlock ≠ some g
def Inv1 (Z gl : Nat) (V : Nat → Value) (n : Nat → Nat) (x y : Nat) (wr : World) : Prop :=
  (∀ j, j < 4 → ∃ xs, wr.ownsRow Z 28 2 (V j) (n j) xs ∧ ∀ k, k < n j → (j < x ∨ (j = x ∧ k < y)) → xs[k * 2 + 1]? = some (mark j)) ∧
  (∀ j, j < 4 → wr.cell? ⟨gl, j, none⟩ = some (V j)) ∧ Z ≤ gl ∧ gl < wr.heap.size
theorem own_setOther {w : World} {B : Nat} {t : TypeId} {s n : Nat} {v : Value} {xs : List Value} (h : w.ownsRow B t s v n xs) (a : Addr) (u : Value) (ha : v.ownBlock ≠ some a.block) : (w.setCell a u).ownsRow B t s v n xs := by
  refine ⟨h.1, h.2.imp id ?_⟩
  rintro ⟨g, cap, cur, hv, hg, hh, rest⟩
  have hne : g ≠ a.block := by
    intro e
    apply ha
    rw [hv, ← e]
    rfl
  exact ⟨g, cap, cur, hv, hg, by rw [heap_setCell_other _ _ _ _ hne]; exact hh, rest⟩
theorem inv1_store {Z gl : Nat} {V : Nat → Value} {n : Nat → Nat} {x y : Nat} {wr : World} (h : Inv1 Z gl V n x y wr) (hx : x < 4) (hy : y < n x) {g cap : Nat} (hv : V x = .slice (some ⟨g, 0, none⟩) (n x) cap) (D : Dis V gl) (u : Value) :
    Inv1 Z gl V n x (y + 1) ((wr.setCell ⟨g, y * 2, none⟩ u).setCell ⟨g, y * 2 + 1, none⟩ (mark x)) := by
  obtain ⟨h1, h2, h3, h4⟩ := h
  have hg : (V x).ownBlock = some g := by rw [hv]; rfl
  have ngl : g ≠ gl := fun e => D.2 x hx (by rw [hg, e])
  refine ⟨fun j hj => ?_, fun j hj => ?_, h3, by rw [World.size_setCell, World.size_setCell]; exact h4⟩
  · obtain ⟨xs, hown, hm⟩ := h1 j hj
    by_cases e : j = x
    · subst e
      rw [hv] at hown ⊢
      refine ⟨(xs.set (y * 2) u).set (y * 2 + 1) (mark j), ((hown.stored (y * 2) u).1.stored (y * 2 + 1) (mark j)).1, fun k hk hc => ?_⟩
      have hl : xs.length = n j * 2 := hown.1
      rw [List.getElem?_set]
      by_cases ek : y = k
      · subst ek
        rw [if_pos rfl, if_pos (by rw [List.length_set]; omega)]
      · rw [if_neg (by omega), List.getElem?_set_ne (by omega)]
        exact hm k hk (by omega)
    · exact ⟨xs, own_setOther (own_setOther hown _ _ (D.1 x j g hx hj (fun e' => e e'.symm) hg)) _ _ (D.1 x j g hx hj (fun e' => e e'.symm) hg), fun k hk hc => hm k hk (by omega)⟩
  · rw [← h2 j hj]
    exact World.cell?_of_block (by rw [heap_setCell_other _ _ _ _ (by simpa using fun e => ngl e.symm), heap_setCell_other _ _ _ _ (by simpa using fun e => ngl e.symm)])
theorem inv1_next {Z gl : Nat} {V : Nat → Value} {n : Nat → Nat} {x : Nat} {wr : World} (h : Inv1 Z gl V n x (n x) wr) : Inv1 Z gl V n (x + 1) 0 wr := by
  refine ⟨fun j hj => ?_, h.2⟩
  obtain ⟨xs, hown, hm⟩ := h.1 j hj
  refine ⟨xs, hown, fun k hk hc => hm k hk ?_⟩
  by_cases e : j = x
  · subst e; right; exact ⟨rfl, hk⟩
  · left; omega
/-- In the second part rows below x are grown by two marks and lie in V; the others are as V0 has them. -/
def Inv2 (Z gl ga : Nat) (V0 : Nat → Value) (n : Nat → Nat) (x : Nat) (wr : World) : Prop :=
  ∃ V : Nat → Value, (∀ j, j < 4 → x ≤ j → V j = V0 j) ∧ Dis V gl ∧ (∀ j, j < 4 → (V j).ownBlock ≠ some ga) ∧
  (∀ j, j < 4 → ∃ xs, wr.ownsRow Z 28 2 (V j) (n j + (if j < x then 2 else 0)) xs ∧ Marked xs (n j + (if j < x then 2 else 0)) j) ∧
  (∀ j, j < 4 → wr.cell? ⟨gl, j, none⟩ = some (V0 j)) ∧ (∀ j, j < 4 → j < x → wr.cell? ⟨ga, j, none⟩ = some (V j)) ∧ (∀ j, j < 4 → ∃ u, wr.cell? ⟨ga, j, none⟩ = some u) ∧
  (∃ cs t, wr.heap[ga]? = some (.cells cs t (0, 0))) ∧ Z ≤ gl ∧ gl < wr.heap.size ∧ Z ≤ ga ∧ ga < wr.heap.size ∧ gl ≠ ga
theorem size_alloc1 (w : World) (o : Obj) : (w.alloc o).heap.size = w.heap.size + 1 := by simp
theorem inv2_start {Z gl ga : Nat} {V : Nat → Value} {n : Nat → Nat} {wr w' : World} {t : TypeId} {cs : Array Value} (h : Inv1 Z gl V n 4 0 wr) (D : Dis V gl) (e : w' = wr.alloc (.cells cs t (0, 0))) (eg : ga = wr.heap.size) (hc : cs.size = 4) :
    Inv2 Z gl ga V n 0 w' := by
  subst e eg
  obtain ⟨h1, h2, h3, h4⟩ := h
  refine ⟨V, fun _ _ _ => rfl, D, fun j hj e => ?_, fun j hj => ?_, fun j hj => ?_, fun j _ h => by omega, fun j hj => ?_, ⟨cs, t, heap_alloc_new _ _⟩, h3, by simp; omega, by omega, by simp, by omega⟩
  · obtain ⟨xs, hown, _⟩ := h1 j hj
    have := (hown.lt _ e).2
    omega
  · obtain ⟨xs, hown, hm⟩ := h1 j hj
    exact ⟨xs, hown.alloc _, fun k hk => hm k hk (.inl hj)⟩
  · rw [← h2 j hj]
    exact World.cell?_of_block (heap_alloc_old _ _ h4)
  · rw [cell_of_row _ _ _ _ _ _ (heap_alloc_new _ _)]
    exact ⟨cs[j]'(by omega), Array.getElem?_eq_getElem _⟩
theorem inv2_row {Z gl ga : Nat} {V0 : Nat → Value} {n : Nat → Nat} {x : Nat} {wr : World} (h : Inv2 Z gl ga V0 n x wr) (hx : x < 4) :
    ∃ xs, wr.ownsRow Z 28 2 (V0 x) (n x) xs ∧ Marked xs (n x) x := by
  obtain ⟨V, eV, _, _, rows, _⟩ := h
  obtain ⟨xs, hown, hm⟩ := rows x hx
  rw [eV x hx (Nat.le_refl _), if_neg (by omega)] at hown
  rw [if_neg (by omega)] at hm
  exact ⟨xs, hown, hm⟩
theorem cells_set {w : World} {g x : Nat} {cs : Array Value} {t : TypeId} (h : w.heap[g]? = some (.cells cs t (0, 0))) (u : Value) (hx : x < cs.size) (j : Nat) :
    (w.setCell ⟨g, x, none⟩ u).cell? ⟨g, j, none⟩ = if j = x then some u else w.cell? ⟨g, j, none⟩ := by
  rw [cell_of_row _ _ _ _ _ _ (heap_setCell_same w g x cs t u h), cell_of_row _ _ _ _ _ _ h]
  by_cases e : j = x
  · subst e
    simp [hx]
  · rw [if_neg e, Array.getElem?_setIfInBounds_ne (fun e' => e e'.symm)]
/-- What the world is good for between the two appends, and behind them. -/
theorem inv2_step {Z gl ga : Nat} {V0 : Nat → Value} {n : Nat → Nat} {x : Nat} {wr wD : World} (h : Inv2 Z gl ga V0 n x wr) (hx : x < 4) {vD u1 u2 : Value} {xs : List Value} (hm : Marked xs (n x) x) (hl : xs.length = n x * 2)
    (hg : wr.grownBy wD (V0 x).ownBlock) (hb : vD.ownBlock = (V0 x).ownBlock ∨ ∃ b, vD.ownBlock = some b ∧ wr.heap.size ≤ b)
    (own2 : wD.ownsRow Z 28 2 vD (n x + 1 + 1) (xs ++ [u1, mark x] ++ [u2, mark x])) :
    Inv2 Z gl ga V0 n (x + 1) (wD.setCell ⟨ga, x, none⟩ vD) := by
  obtain ⟨V, eV, D, DA, rows, cl, ca, cu, ⟨cs, t, hga⟩, z1, z2, z3, z4, z5⟩ := h
  have s1 := hg.size
  have ex := eV x hx (Nat.le_refl _)
  -- a block of the world ahead that is not the row's own: as it was
  have keep : ∀ b, b < wr.heap.size → some b ≠ (V x).ownBlock → wD.heap[b]? = wr.heap[b]? := fun b hb hne => hg.block b hb (by rw [← ex]; exact hne)
  -- where the row lies now
  have at_ : ∀ b, vD.ownBlock = some b → (V x).ownBlock = some b ∨ wr.heap.size ≤ b := by
    intro b hb'
    rw [ex]
    rcases hb with e | ⟨c, e, hc⟩
    · left; rw [← e]; exact hb'
    · right; rw [e] at hb'; have := Option.some.inj hb'; omega
  have hlt : ∀ j, j < 4 → ∀ b, (V j).ownBlock = some b → b < wr.heap.size := fun j hj b hb => by
    obtain ⟨ys, hown, _⟩ := rows j hj
    exact (hown.lt b hb).2
  have ngl : vD.ownBlock ≠ some gl := fun e => by
    rcases at_ gl e with h | h
    · exact D.2 x hx h
    · omega
  have nga : vD.ownBlock ≠ some ga := fun e => by
    rcases at_ ga e with h | h
    · exact DA x hx h
    · omega
  have kga := keep ga z4 (fun e => DA x hx e.symm)
  have kgl := keep gl z2 (fun e => D.2 x hx e.symm)
  have hgaD : wD.heap[ga]? = some (.cells cs t (0, 0)) := by rw [kga]; exact hga
  have csz : ∀ j, j < 4 → j < cs.size := fun j hj => by
    obtain ⟨u, hu⟩ := cu j hj
    rw [cell_of_row _ _ _ _ _ _ hga] at hu
    exact (Array.getElem?_eq_some_iff.1 hu).1
  have cE := cells_set hgaD vD (csz x hx)
  refine ⟨fun j => if j = x then vD else V j, fun j hj hle => ?_, ⟨fun j k b hj hk hne => ?_, fun j hj => ?_⟩, fun j hj => ?_, fun j hj => ?_, fun j hj => ?_, fun j hj hlt2 => ?_, fun j hj => ?_, ⟨_, t, heap_setCell_same _ _ _ _ _ _ hgaD⟩, z1, by rw [World.size_setCell]; omega, z3, by rw [World.size_setCell]; omega, z5⟩
  · show (if j = x then vD else V j) = V0 j
    rw [if_neg (by omega)]
    exact eV j hj (by omega)
  · show (if j = x then vD else V j).ownBlock = some b → (if k = x then vD else V k).ownBlock ≠ some b
    intro hb hb'
    by_cases ej : j = x
    · rw [if_pos ej] at hb
      rw [if_neg (by omega)] at hb'
      rcases at_ b hb with h | h
      · exact D.1 x k b hx hk (by omega) h hb'
      · have := hlt k hk b hb'; omega
    · rw [if_neg ej] at hb
      by_cases ek : k = x
      · rw [if_pos ek] at hb'
        rcases at_ b hb' with h | h
        · exact D.1 j x b hj hx ej hb h
        · have := hlt j hj b hb; omega
      · rw [if_neg ek] at hb'
        exact D.1 j k b hj hk hne hb hb'
  · show (if j = x then vD else V j).ownBlock ≠ some gl
    by_cases ej : j = x
    · rw [if_pos ej]; exact ngl
    · rw [if_neg ej]; exact D.2 j hj
  · show (if j = x then vD else V j).ownBlock ≠ some ga
    by_cases ej : j = x
    · rw [if_pos ej]; exact nga
    · rw [if_neg ej]; exact DA j hj
  · show ∃ ys, (wD.setCell ⟨ga, x, none⟩ vD).ownsRow Z 28 2 (if j = x then vD else V j) (n j + (if j < x + 1 then 2 else 0)) ys ∧ Marked ys (n j + (if j < x + 1 then 2 else 0)) j
    by_cases ej : j = x
    · subst ej
      rw [if_pos rfl, if_pos (by omega)]
      refine ⟨_, own_setOther own2 _ _ nga, fun k hk => ?_⟩
      by_cases k1 : k < n j
      · rw [List.getElem?_append_left (by simp; omega), List.getElem?_append_left (by omega)]
        exact hm k k1
      · by_cases k2 : k = n j
        · rw [List.getElem?_append_left (by simp; omega), List.getElem?_append_right (by omega), hl, k2, show n j * 2 + 1 - n j * 2 = 1 by omega]
          rfl
        · rw [List.getElem?_append_right (by simp; omega), show k * 2 + 1 - (xs ++ [u1, mark j]).length = 1 by simp; omega]
          rfl
    · rw [if_neg ej]
      obtain ⟨ys, hown, hy⟩ := rows j hj
      have e2 : (if j < x + 1 then 2 else 0) = (if j < x then 2 else 0) := by
        by_cases h : j < x
        · rw [if_pos h, if_pos (by omega)]
        · rw [if_neg h, if_neg (by omega)]
      rw [e2]
      have nB : (V j).ownBlock = none ∨ (V j).ownBlock ≠ (V0 x).ownBlock := by
        cases hb : (V j).ownBlock with
        | none => exact .inl rfl
        | some b =>
          right
          intro e
          exact D.1 j x b hj hx ej hb (by rw [ex]; exact e.symm)
      exact ⟨ys, own_setOther (hown.kept hg nB) _ _ (DA j hj), hy⟩
  · rw [World.cell?_of_block (heap_setCell_other _ _ _ _ (by simpa using z5)), World.cell?_of_block (w := wr) (w' := wD) kgl]
    exact cl j hj
  · show _ = some (if j = x then vD else V j)
    rw [cE j]
    by_cases ej : j = x
    · rw [if_pos ej, if_pos ej]
    · rw [if_neg ej, if_neg ej, World.cell?_of_block (w := wr) (w' := wD) kga]
      exact ca j hj (by omega)
  · rw [cE j]
    by_cases ej : j = x
    · rw [if_pos ej]; exact ⟨_, rfl⟩
    · rw [if_neg ej, World.cell?_of_block (w := wr) (w' := wD) kga]
      exact cu j hj
/-- Ahead of the store: the array's cell. -/
theorem inv2_cell {Z gl ga : Nat} {V0 : Nat → Value} {n : Nat → Nat} {x : Nat} {wr wD : World} (h : Inv2 Z gl ga V0 n x wr) (hx : x < 4) (hg : wr.grownBy wD (V0 x).ownBlock) :
    (∃ u, wD.cell? ⟨ga, x, none⟩ = some u) ∧ wD.frozen? ⟨ga, x, none⟩ = false ∧ ga < wD.heap.size ∧ Z ≤ ga := by
  obtain ⟨V, eV, D, DA, rows, cl, ca, cu, ⟨cs, t, hga⟩, z1, z2, z3, z4, z5⟩ := h
  have ex := eV x hx (Nat.le_refl _)
  have s := hg.size
  have kga : wD.heap[ga]? = wr.heap[ga]? := hg.block ga z4 (by rw [← ex]; exact fun e => DA x hx e.symm)
  refine ⟨?_, frozen_of_row _ ga x cs t (by rw [kga]; exact hga), by omega, z3⟩
  rw [World.cell?_of_block (w := wr) (w' := wD) kga]
  exact cu x hx
theorem grownDrew {a b : World} {R : Option Nat} (h : a.grownBy b R) : a.grownBy b.drew R := ⟨h.os, h.tape, h.output, h.size, h.block⟩
theorem grownFrom {a b : World} {R : Option Nat} (h : a.drew.grownBy b R) : a.grownBy b R := ⟨h.os, h.tape, h.output, h.size, h.block⟩
theorem news_far {W w1 : World} {R : Option Nat} (hg : W.grownBy w1 R) {b : Nat} {u v : Value} {t : TypeId} (hb : W.heap[b]? = some (.cells #[u, v] t (0, 0))) (hne : R ≠ some b) : ∀ (j : Nat) x, [u, v][j]? = some x → w1.cell? ((⟨b, 0, none⟩ : Addr).add j) = some x :=
  World.news_of_block (B := b) (cs := #[u, v]) (t := t) (fr := (0, 0)) (by rw [hg.block b (lt_of_heap hb) (fun e => hne e.symm)]; exact hb)
/-- Where the row lies behind the first append, and behind the second. -/
theorem lies_one {wr w1 : World} {R : Option Nat} {g n cap H : Nat} (hat : R = some g ∨ g = H) (hH : wr.heap.size ≤ H) : (Value.slice (some ⟨g, 0, none⟩) n cap).ownBlock = R ∨ ∃ b, (Value.slice (some ⟨g, 0, none⟩) n cap).ownBlock = some b ∧ wr.heap.size ≤ b := by
  rcases hat with h | h
  · left; rw [h]; rfl
  · right; exact ⟨g, rfl, by omega⟩
theorem lies_two {wr w1 : World} {R : Option Nat} {g g2 n m cap cap2 H : Nat} (h1 : (Value.slice (some ⟨g, 0, none⟩) n cap).ownBlock = R ∨ ∃ b, (Value.slice (some ⟨g, 0, none⟩) n cap).ownBlock = some b ∧ wr.heap.size ≤ b) (hat : (Value.slice (some ⟨g, 0, none⟩) n cap).ownBlock = some g2 ∨ g2 = H) (hH : wr.heap.size ≤ H) :
    (Value.slice (some ⟨g2, 0, none⟩) m cap2).ownBlock = R ∨ ∃ b, (Value.slice (some ⟨g2, 0, none⟩) m cap2).ownBlock = some b ∧ wr.heap.size ≤ b := by
  rcases hat with h | h
  · have e : g = g2 := Option.some.inj h
    subst e
    exact h1
  · right; exact ⟨g2, rfl, by omega⟩
theorem grown_two {wr w1 w2 : World} {R : Option Nat} {g n cap : Nat} (G1 : wr.grownBy w1 R) (h1 : (Value.slice (some ⟨g, 0, none⟩) n cap).ownBlock = R ∨ ∃ b, (Value.slice (some ⟨g, 0, none⟩) n cap).ownBlock = some b ∧ wr.heap.size ≤ b) (hg : w1.grownBy w2 (Value.slice (some ⟨g, 0, none⟩) n cap).ownBlock) : wr.grownBy w2 R :=
  G1.andThen hg fun j hj => by
    have e : g = j := Option.some.inj hj
    subst e
    rcases h1 with h | ⟨b, h, hb⟩
    · right; rw [← h]; rfl
    · left
      have : g = b := Option.some.inj h
      omega
theorem grownAlloc {a b : World} {R : Option Nat} (h : a.grownBy b R) (o : Obj) : a.grownBy (b.alloc o) R := h.trans (World.grownBy_alloc _ _ _)
theorem keepA {W : World} {C : Obj} {p q r : Addr} {x y z : Value} (h : W.cell? p = some x ∧ W.cell? q = some y ∧ W.cell? r = some z) : (W.alloc C).cell? p = some x ∧ (W.alloc C).cell? q = some y ∧ (W.alloc C).cell? r = some z := by
  have k : ∀ (p : Addr) x, W.cell? p = some x → (W.alloc C).cell? p = some x := fun p x h => by
    rw [World.cell?_alloc_lt W C p (World.block_lt_of_cell? _ _ h), h]
  exact ⟨k _ _ h.1, k _ _ h.2.1, k _ _ h.2.2⟩
theorem keepG {W w1 : World} {R : Option Nat} {p q r : Addr} {x y z : Value} (hg : W.grownBy w1 R) (hp : some p.block ≠ R) (hq : some q.block ≠ R) (hr : some r.block ≠ R) (h : W.cell? p = some x ∧ W.cell? q = some y ∧ W.cell? r = some z) : w1.cell? p = some x ∧ w1.cell? q = some y ∧ w1.cell? r = some z :=
  ⟨hg.cell h.1 hp, hg.cell h.2.1 hq, hg.cell h.2.2 hr⟩
theorem keepS {W : World} {c : Addr} {v : Value} {p q r : Addr} {x y z : Value} (hp : p.block ≠ c.block) (hq : q.block ≠ c.block) (hr : r.block ≠ c.block) (h : W.cell? p = some x ∧ W.cell? q = some y ∧ W.cell? r = some z) : (W.setCell c v).cell? p = some x ∧ (W.setCell c v).cell? q = some y ∧ (W.setCell c v).cell? r = some z := by
  have k : ∀ (p : Addr) x, p.block ≠ c.block → W.cell? p = some x → (W.setCell c v).cell? p = some x := fun p x h1 h => by
    rw [World.cell?_of_block (w := W) (heap_setCell_other _ _ _ _ h1), h]
  exact ⟨k _ _ hp h.1, k _ _ hq h.2.1, k _ _ hr h.2.2⟩
theorem long_fin {Z gl ga : Nat} {V0 : Nat → Value} {n : Nat → Nat} {x : Nat} {wr wx wD : World} (h : Inv2 Z gl ga V0 n x wr) (hx : x < 4) {vD u1 u2 va : Value} {xs : List Value} (hm : Marked xs (n x) x) (hl : xs.length = n x * 2) (e : V0 x = va)
    (GX : wr.grownBy wx va.ownBlock) (wle : wr.heap.size ≤ wx.heap.size) (hg : wx.grownBy wD va.ownBlock) (hb : vD.ownBlock = va.ownBlock ∨ ∃ b, vD.ownBlock = some b ∧ wx.heap.size ≤ b)
    (own2 : wD.ownsRow Z 28 2 vD (n x + 1 + 1) (xs ++ [u1, mark x] ++ [u2, mark x])) :
    ((∃ u, wD.cell? ⟨ga, x, none⟩ = some u) ∧ wD.frozen? ⟨ga, x, none⟩ = false ∧ ga < wD.heap.size ∧ Z ≤ ga) ∧ Inv2 Z gl ga V0 n (x + 1) (wD.setCell ⟨ga, x, none⟩ vD) := by
  subst e
  have G := GX.trans hg
  exact ⟨inv2_cell h hx G, inv2_step h hx hm hl G (hb.imp id fun ⟨b, h1, h2⟩ => ⟨b, h1, by omega⟩) own2⟩
/-- At a step of a region: one spot out of a block of its own is appended to a row of the call's own. -/
theorem step_mark {ops : Array Oper} {o : Oper} {a : Act} {K : Act → World → Prop} {Q : Exit → Act → World → Prop} {E : Prop} {w : World} (s x : Operand) (hgd : o.guard = none)
    (ho : o.op = .call { callee := .builtin .append, args := #[s, x], argTypes := #[23, 23] })
    (Z : Nat) (v : Value) (n : Nat) (xs : List Value) (hs : a.eval s = v) (hown : w.ownsRow Z 28 2 v n xs) (B : Nat) (hx : a.eval x = .slice (some ⟨B, 0, none⟩) 1 1)
    {k1 k2 : IntKind} {u1 u2 : Int} {t : TypeId} (hb : w.heap[B]? = some (.cells #[.int k1 u1, .int k2 u2] t (0, 0))) (hn : n ≤ 4000) (hZ : Z ≤ w.heap.size)
    (h : ∀ g cap w', w'.ownsRow Z 28 2 (.slice (some ⟨g, 0, none⟩) (n + 1) cap) (n + 1) (xs ++ [.int k1 u1, .int k2 u2]) → w.grownBy w' v.ownBlock → (v.ownBlock = some g ∨ g = w.heap.size) → K (a.put o.dst (.slice (some ⟨g, 0, none⟩) (n + 1) cap)) w') :
    if Region.wanted o (yielded ops a.tmps) = true then Oper.wp Tryd.prog o a w K Q else E := by
  obtain ⟨i0, hi, hz0, hz1, hz2⟩ := info_parts info_spot
  exact step_append_lies w hgd s x 23 ho Z 28 i0 (.agg #[.int .u8 0, .int .u64 0]) 2 16 Tryd.underlying23 hi hz0 hz1 hz2 rfl (by decide) v n xs hs hown ⟨B, 0, none⟩ 1 1 [.int k1 u1, .int k2 u2] hx rfl
    (World.news_of_block (B := B) (cs := #[.int k1 u1, .int k2 u2]) (t := t) (fr := (0, 0)) hb) (two_ints _ _ _ _) (by decide) (by unfold maxLen; omega) (by omega) hZ w.heap.size rfl (fun g cap w' h1 h2 h3 _ => h g cap w' h1 h2 h3)
def pick4 (a b c d : Value) : Nat → Value
  | 0 => a
  | 1 => b
  | 2 => c
  | _ => d
def pickN (p l : Nat) (j : Nat) : Nat := if j < 2 then p else l
theorem dis_of {a b c d : Value} {m0 m1 m2 m3 m4 gl : Nat} (ha : ∀ k, a.ownBlock = some k → m0 ≤ k ∧ k < m1) (hb : ∀ k, b.ownBlock = some k → m1 ≤ k ∧ k < m2) (hc : ∀ k, c.ownBlock = some k → m2 ≤ k ∧ k < m3) (hd : ∀ k, d.ownBlock = some k → m3 ≤ k ∧ k < m4)
    (h1 : m1 ≤ m2) (h2 : m2 ≤ m3) (h3 : m3 ≤ m4) (hg : m4 ≤ gl) : Dis (pick4 a b c d) gl := by
  have key : ∀ j, j < 4 → ∀ k, (pick4 a b c d j).ownBlock = some k → (if j = 0 then m0 else if j = 1 then m1 else if j = 2 then m2 else m3) ≤ k ∧ k < (if j = 0 then m1 else if j = 1 then m2 else if j = 2 then m3 else m4) := by
    intro j hj k hk
    match j, hj with
    | 0, _ => exact ha k hk
    | 1, _ => exact hb k hk
    | 2, _ => exact hc k hk
    | 3, _ => exact hd k hk
  refine ⟨fun j k x hj hk hne h h' => ?_, fun j hj h => ?_⟩
  · have p := key j hj x h
    have q := key k hk x h'
    have cj : j = 0 ∨ j = 1 ∨ j = 2 ∨ j = 3 := by omega
    have ck : k = 0 ∨ k = 1 ∨ k = 2 ∨ k = 3 := by omega
    rcases cj with rfl | rfl | rfl | rfl <;> rcases ck with rfl | rfl | rfl | rfl <;> simp at p q <;> omega
  · have p := key j hj _ h
    have cj : j = 0 ∨ j = 1 ∨ j = 2 ∨ j = 3 := by omega
    rcases cj with rfl | rfl | rfl | rfl <;> simp at p <;> omega
/-- Both sides of a span, and of an append's joins. -/
theorem span_both {a b : Nat} (ha : a < 18446744073709551616) : ∃ P : List (Nat × Nat), (∀ w : World, TabAt w → Calls Tryd.prog 11 #[.int .u64 a, .int .u64 b] w fun e w' => ∃ v, e = .returned v ∧ w'.ownsRow w.heap.size 28 2 v P.length (spotC P) ∧ Below w.heap.size w w') ∧
    (∀ w : World, Calls Tryd.prog 9 #[.int .u64 a, .int .u64 b] w fun e w' => ∃ v, e = .returned v ∧ w'.ownsRow w.heap.size 28 2 v P.length (spotC P) ∧ Below w.heap.size w w') ∧ P.length ≤ 131 := by
  by_cases hb : b ≤ 4611686018427387904
  · by_cases hab : a < b
    · exact ⟨spanL a b, fun w T => cutSpan_yes ha hb w T, fun w => refCutSpan_yes hab hb w, spanL_len hb⟩
    · refine ⟨spanL a b, fun w T => cutSpan_yes ha hb w T, fun w => (refCutSpan_no (.inl (by omega)) w).mono ?_, spanL_len hb⟩
      rintro e w' ⟨rfl, rfl⟩
      rw [spanL_stop hab]
      exact ⟨_, rfl, World.ownsRow_nil _ _ _ _, Below.refl _ _⟩
  · refine ⟨[], fun w _ => (cutSpan_no (by omega) w).mono ?_, fun w => (refCutSpan_no (.inr (by omega)) w).mono ?_, by simp⟩
    all_goals
      rintro e w' ⟨rfl, rfl⟩
      exact ⟨_, rfl, World.ownsRow_nil _ _ _ _, Below.refl _ _⟩
theorem joins_both {n k : Nat} (hn : n < 18446744073709551616) (hk : k < 18446744073709551616) : ∃ P : List (Nat × Nat), (∀ w : World, TabAt w → Calls Tryd.prog 12 #[.int .u64 n, .int .u64 k] w fun e w' => ∃ v, e = .returned v ∧ w'.ownsRow w.heap.size 28 2 v P.length (spotC P) ∧ Below w.heap.size w w') ∧
    (∀ w : World, Calls Tryd.prog 10 #[.int .u64 n, .int .u64 k] w fun e w' => ∃ v, e = .returned v ∧ w'.ownsRow w.heap.size 28 2 v P.length (spotC P) ∧ Below w.heap.size w w') ∧ P.length ≤ 131 := by
  by_cases h : n + k ≤ 4611686018427387904
  · exact ⟨joinsL n (n + k), fun w T => cutJoins_yes h w T, fun w => refJoins_yes h w, by have := joinF_len n (n + k) 63; unfold joinsL; omega⟩
  · refine ⟨[], fun w _ => (cutJoins_no hk (by omega) w).mono ?_, fun w => (refJoins_no hn (by omega) w).mono ?_, by simp⟩
    all_goals
      rintro e w' ⟨rfl, rfl⟩
      exact ⟨_, rfl, World.ownsRow_nil _ _ _ _, Below.refl _ _⟩
end Go.Proofs.YtpbahbigimnboaaDoor
