/-
  Rows of bytes of the call's own, each with the mark behind it, in a row of the call's own; a byte of one of them is written.
-/
import Derived.Test.YtcifnfffoiiceaaDoorRefSum
import Derived.Test.YtcifnfffoiiceaaDoorRowsOwn
import Derived.OneCell
import Derived.Test.YtcifnfffoiiceaaDoorHelds
namespace Go.Proofs.YtcifnfffoiiceaaDoor
open Go.RowKit
set_option linter.unusedVariables false

theorem RowAt.grown {B : Nat} {w w' : World} {v : Value} {l : List Nat} {r : Option Nat} (h : RowAt B w v l) (hg : w.grownBy w' r) (hv : v.ownBlock ≠ r) : RowAt B w' v l := by
  obtain ⟨g, cap, e, own⟩ := h
  exact ⟨g, cap, e, own.kept hg (.inr (by rw [e] at hv; exact hv))⟩
/-- The given rows so far. -/
def Given (Z : Nat) (w : World) (o : Value) (gs : List Value) (Ls : List (List Nat)) : Prop :=
  RowsOwn Z w o gs Ls ∧ (∀ (j : Nat) (x : Value) (L : List Nat), gs[j]? = some x → Ls[j]? = some L → RowAt Z w x L) ∧ ∀ (i j : Nat) (x y : Value), i < j → gs[i]? = some x → gs[j]? = some y → x.ownBlock ≠ y.ownBlock
theorem Given.more {Z : Nat} {wx w2 w9 : World} {o o9 v1 : Value} {gs : List Value} {Ms : List (List Nat)} {L : List Nat} (G : Given Z wx o gs Ms) (q : Below wx.heap.size wx w2) (R : RowAt wx.heap.size w2 v1 L) (hZ : Z ≤ wx.heap.size) (RO : RowsOwn Z w9 o9 (gs ++ [v1]) (Ms ++ [L])) (hg : w2.grownBy w9 o.ownBlock) : Given Z w9 o9 (gs ++ [v1]) (Ms ++ [L]) := by
  have hlen := G.1.2.1
  have ho : ∀ g, o.ownBlock = some g → g < wx.heap.size := fun g e => (G.1.1.lt g e).2
  have nv : v1.ownBlock ≠ o.ownBlock := fun e => by
    obtain ⟨g, cap, rfl, _⟩ := id R
    have h1 := (R.block g rfl).1
    have h2 := ho g (by rw [← e]; rfl)
    omega
  refine ⟨RO, fun j x M hx hM => ?_, fun i j x y hij hx hy => ?_⟩
  · by_cases hj : j < gs.length
    · rw [List.getElem?_append_left hj] at hx
      rw [List.getElem?_append_left (by omega)] at hM
      have r := (G.2.1 j x M hx hM).below q
      refine r.grown hg fun e => ?_
      obtain ⟨g, cap, rfl, _⟩ := id r
      exact ((G.1.2.2 j _ M hx hM).2 g rfl).2 (by rw [← e]; rfl)
    · by_cases hj2 : j = gs.length
      · subst hj2
        rw [List.getElem?_append_right (Nat.le_refl _), Nat.sub_self] at hx
        rw [hlen, List.getElem?_append_right (Nat.le_refl _), Nat.sub_self] at hM
        cases hx
        cases hM
        exact (R.low hZ).grown hg nv
      · rw [List.getElem?_eq_none (by simp; omega)] at hx
        cases hx
  · by_cases hj : j < gs.length
    · rw [List.getElem?_append_left hj] at hy
      rw [List.getElem?_append_left (by omega)] at hx
      exact G.2.2 i j x y hij hx hy
    · by_cases hj2 : j = gs.length
      · subst hj2
        rw [List.getElem?_append_right (Nat.le_refl _), Nat.sub_self] at hy
        rw [List.getElem?_append_left hij] at hx
        cases hy
        intro e
        obtain ⟨g, cap, rfl, _⟩ := id R
        have h1 := (R.block g rfl).1
        obtain ⟨M, hM⟩ : ∃ M, Ms[i]? = some M := ⟨Ms[i]'(by omega), List.getElem?_eq_getElem _⟩
        have h2 := ((G.1.2.2 i x M hx hM).2 g (by rw [e]; rfl)).1
        omega
      · rw [List.getElem?_eq_none (by simp; omega)] at hy
        cases hy
theorem wpList_store_rowK {ops : Array Oper} {rest : List Oper} {o : Oper} {a : Act} {w : World} {Q : Exit → Act → World → Prop} (hgd : o.guard = none) (hd : o.dst = none) (ty : TypeId) (x y : Operand) (ho : o.op = .store ty x y)
    (g : Nat) (cells : Array Value) (hx : a.eval x = .pointer (some ⟨g, 0, none⟩)) (hy : a.eval y = .agg cells)
    (t : TypeId) (old : Array Value) (hg : w.heap[g]? = some (.cells old t (0, 0))) (hi : (Tryd.prog.info? ty).map (·.size) = some cells.size)
    (hold : old.size = cells.size) (h1 : cells.all (·.oneCell') = true)
    (h : wpList Tryd.prog ops Q rest a (w.setRow g cells)) : wpList Tryd.prog ops Q (o :: rest) a w :=
  wpList_store_row hgd ty x y ho g cells hx hy t old hg hi hold h1 (by rw [hd]; exact h)
theorem box_rangeK {w : World} {g : Nat} {l : List Nat} {t : TypeId} (h : w.heap[g]? = some (.cells (cellsOf' u8c l) t (0, 0))) : w.rangeAt g 0 (l.map u8c) := row_range (cur := l.map u8c) h (fun j v hj => by rw [Nat.zero_add]; exact hj)
theorem RowsOwn.base {Z n cap j : Nat} {w : World} {a : Option Addr} {x : Value} {vs : List Value} {Ls : List (List Nat)} (h : RowsOwn Z w (.slice a n cap) vs Ls) (hx : vs[j]? = some x) : ∃ b, a = some ⟨b, 0, none⟩ ∧ w.cell? ⟨b, j, none⟩ = some x := by
  have hj := (List.getElem?_eq_some_iff.1 hx).1
  obtain ⟨h1, h2⟩ := id h.1
  rcases h2 with ⟨_, h0⟩ | ⟨g, c, cur, e, hg, hh, hc, hm, hs, ht⟩
  · omega
  · cases e
    exact ⟨g, rfl, own_cell h.1 hx⟩
theorem RowAt.cell {B g n cp k c : Nat} {w : World} {L : List Nat} (h : RowAt B w (.slice (some ⟨g, 0, none⟩) n cp) L) (hk : L[k]? = some c) : w.cell? ⟨g, k, none⟩ = some (.int .u8 (c : Int)) ∧ w.frozen? ⟨g, k, none⟩ = false := by
  obtain ⟨g', cap, e, own⟩ := h
  cases e
  exact ⟨own_cell own (by rw [u8s_get, List.getElem?_append_left (List.getElem?_eq_some_iff.1 hk).1, hk]; rfl), own.frozenAt k⟩
theorem wpList_yieldsK {P : Program} {ops : Array Oper} {rest : List Oper} {S : World → Prop} {o : Oper} {v : Value} {a : Act} {w : World} {Q : Exit → Act → World → Prop} (hy : YieldsIf P ops S o v a) (hS : S w)
    (h : wpList P ops Q rest (a.put o.dst v) w) : wpList P ops Q (o :: rest) a w := by
  refine wpList_step fun K hK => ?_
  rcases hy with ⟨hw, hr⟩ | ⟨hw, rfl⟩
  · rw [if_pos hw]
    unfold Oper.wp
    rw [hr w hS, Oper.upon_value]
    exact hK _ _ h
  · rw [if_neg (by rw [hw]; decide)]
    exact hK _ _ h
def Ranges4 (xb : Nat) (sa sb ka kb : List Nat) (w : World) : Prop := w.rangeAt xb 0 (sa.map u8c) ∧ w.rangeAt xb 32 (sb.map u8c) ∧ w.rangeAt xb 64 (ka.map u8c) ∧ w.rangeAt xb 128 (kb.map u8c)
theorem Given.below {Z : Nat} {w w' : World} {o : Value} {gs : List Value} {Ms : List (List Nat)} (G : Given Z w o gs Ms) (q : Below w.heap.size w w') : Given Z w' o gs Ms :=
  ⟨G.1.below q, fun j x L hx hL => (G.2.1 j x L hx hL).below q, G.2.2⟩
theorem RowAt.put {B g n cp k y : Nat} {w : World} {L : List Nat} (h : RowAt B w (.slice (some ⟨g, 0, none⟩) n cp) L) (hk : k < L.length) : RowAt B (w.setCell ⟨g, k, none⟩ (.int .u8 (y : Int))) (.slice (some ⟨g, 0, none⟩) n cp) (L.set k y) ∧ w.grownBy (w.setCell ⟨g, k, none⟩ (.int .u8 (y : Int))) (some g) := by
  obtain ⟨g', cap, e, own⟩ := h
  cases e
  obtain ⟨h1, h2⟩ := own.stored k (.int .u8 (y : Int))
  refine ⟨⟨g, cp, by rw [List.length_set], ?_⟩, h2⟩
  have e : (u8s (L ++ [171])).set k (.int .u8 (y : Int)) = u8s (L.set k y ++ [171]) := by
    rw [← List.set_append_left _ _ hk]
    simp [u8s, List.map_set]
  rw [e] at h1
  rw [List.length_set]
  exact h1
theorem Given.put {Z i g n cp k : Nat} (y : Nat) {w : World} {o : Value} {gs : List Value} {Ms : List (List Nat)} {L : List Nat} (G : Given Z w o gs Ms) (hx : gs[i]? = some (.slice (some ⟨g, 0, none⟩) n cp)) (hL : Ms[i]? = some L) (hk : k < L.length) :
    Given Z (w.setCell ⟨g, k, none⟩ (.int .u8 (y : Int))) o gs (Ms.set i (L.set k y)) := by
  have R := G.2.1 i _ L hx hL
  obtain ⟨P, hg⟩ := R.put (y := y) hk
  have hb := (G.1.2.2 i _ L hx hL).2 g rfl
  have hs : (w.setCell ⟨g, k, none⟩ (.int .u8 (y : Int))).heap.size = w.heap.size := by simp [World.setCell]
  have RA : ∀ (j : Nat) (x : Value) (M : List Nat), gs[j]? = some x → (Ms.set i (L.set k y))[j]? = some M → RowAt Z (w.setCell ⟨g, k, none⟩ (.int .u8 (y : Int))) x M := by
    intro j x M hxj hM
    by_cases hj : i = j
    · subst hj
      rw [hx] at hxj
      cases hxj
      rw [List.getElem?_set_self (List.getElem?_eq_some_iff.1 hL).1] at hM
      cases hM
      exact P
    · rw [List.getElem?_set_ne hj] at hM
      refine (G.2.1 j x M hxj hM).grown hg fun e => ?_
      rcases Nat.lt_or_ge i j with h | h
      · exact G.2.2 i j _ _ h hx hxj e.symm
      · exact G.2.2 j i _ _ (by omega) hxj hx e
  refine ⟨⟨G.1.1.kept hg (.inr hb.2), by rw [G.1.2.1, List.length_set], fun j x M hxj hM => ⟨(RA j x M hxj hM).slice, fun b e => ?_⟩⟩, RA, G.2.2⟩
  obtain ⟨M', hM'⟩ : ∃ M', Ms[j]? = some M' := ⟨Ms[j]'(by have := (List.getElem?_eq_some_iff.1 hM).1; rw [List.length_set] at this; exact this), List.getElem?_eq_getElem _⟩
  have := (G.1.2.2 j x M' hxj hM').2 b e
  rw [hs]
  exact this
/-- The lists that were turned up to the i-th. -/
def Turned (Ls Ms : List (List Nat)) (i : Nat) : Prop := (∀ L ∈ Ms, Bytes L) ∧ Ms.map List.length = Ls.map List.length ∧ ∀ j, i ≤ j → Ms[j]? = Ls[j]?
theorem Turned.start {Ls : List (List Nat)} (h : ∀ L ∈ Ls, Bytes L) : Turned Ls Ls 0 := ⟨h, rfl, fun _ _ => rfl⟩
theorem Turned.next {Ls Ms : List (List Nat)} {i i' : Nat} (h : Turned Ls Ms i) (hi : i ≤ i') : Turned Ls Ms i' := ⟨h.1, h.2.1, fun j hj => h.2.2 j (by omega)⟩
theorem Turned.flat {Ls Ms : List (List Nat)} {i : Nat} (h : Turned Ls Ms i) : Ms.flatten.length = Ls.flatten.length := by
  rw [List.length_flatten, List.length_flatten, h.2.1]
theorem Turned.len {Ls Ms : List (List Nat)} {i : Nat} (h : Turned Ls Ms i) : Ms.length = Ls.length := by
  have := congrArg List.length h.2.1
  simpa using this
theorem Turned.put {Ls Ms : List (List Nat)} {i k y : Nat} {L : List Nat} (h : Turned Ls Ms (i + 1)) (hL : Ms[i]? = some L) (hy : y < 256) : Turned Ls (Ms.set i (L.set k y)) (i + 1) := by
  have hi : i < Ms.length := (List.getElem?_eq_some_iff.1 hL).1
  refine ⟨fun M hM => ?_, ?_, fun j hj => ?_⟩
  · rcases List.mem_or_eq_of_mem_set hM with h1 | h1
    · exact h.1 M h1
    · subst h1
      intro c hc
      rcases List.mem_or_eq_of_mem_set hc with h2 | h2
      · exact h.1 L (List.mem_of_getElem? hL) c h2
      · omega
  · rw [List.map_set, List.length_set, ← h.2.1]
    apply List.ext_getElem?
    intro j
    by_cases hj : i = j
    · subst hj
      rw [List.getElem?_set_self (by simpa using hi), List.getElem?_map, hL]
      rfl
    · rw [List.getElem?_set_ne hj]
  · rw [List.getElem?_set_ne (by omega)]
    exact h.2.2 j hj
end Go.Proofs.YtcifnfffoiiceaaDoor
