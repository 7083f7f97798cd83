/-
  A row of the call's own whose cells are slices of bytes, each apart from the row; 'append' of one more (the elements may be made while the row grows).
-/
import Derived.Test.YtcifnfffoiiceaaDoorParts
import Derived.Test.YtcifnfffoiiceaaDoorGrow
namespace Go.Proofs.YtcifnfffoiiceaaDoor
open Go.RowKit
set_option linter.unusedVariables false

def RowsOwn (Z : Nat) (w : World) (v : Value) (vs : List Value) (Ls : List (List Nat)) : Prop :=
  w.ownsRow Z 29 1 v vs.length vs ∧ vs.length = Ls.length ∧ ∀ (i : Nat) (x : Value) (L : List Nat), vs[i]? = some x → Ls[i]? = some L → SliceOf u8c w x L ∧ ∀ b, x.ownBlock = some b → b < w.heap.size ∧ v.ownBlock ≠ some b
section
variable {Z : Nat} {w w' : World} {v : Value} {vs : List Value} {Ls : List (List Nat)}
theorem RowsOwn.nil : RowsOwn Z w (.slice none 0 0) [] [] := ⟨World.ownsRow_nil _ _ _ _, rfl, fun i x L hx => by simp at hx⟩
theorem RowsOwn.at (h : RowsOwn Z w v vs Ls) : PartsAt w v vs Ls := ⟨SliceOf.of_own h.1 (by simp), h.2.1, fun i x L hx hL => ⟨(h.2.2 i x L hx hL).1, fun b hb => ((h.2.2 i x L hx hL).2 b hb).1⟩⟩
theorem RowsOwn.below (h : RowsOwn Z w v vs Ls) (q : Below w.heap.size w w') : RowsOwn Z w' v vs Ls :=
  ⟨h.1.kept (row := none) ⟨q.os, q.tape, q.output, q.size, fun k hk _ => q.block k hk⟩ (by cases h.1.2 with | inl h => exact .inl (by rw [h.1]; rfl) | inr h => obtain ⟨g, c, cur, e, _⟩ := h; exact .inr (by rw [e]; intro h; cases h)), h.2.1,
    fun i x L hx hL => ⟨(h.2.2 i x L hx hL).1.below q, fun b hb => ⟨Nat.lt_of_lt_of_le ((h.2.2 i x L hx hL).2 b hb).1 q.size, ((h.2.2 i x L hx hL).2 b hb).2⟩⟩⟩
theorem SliceOf.grown {α : Type} {mk : α → Value} {x : Value} {l : List α} {r : Option Nat} (hs : SliceOf mk w x l) (hg : w.grownBy w' r) (hv : ∀ b, x.ownBlock = some b → b < w.heap.size ∧ r ≠ some b) : SliceOf mk w' x l := by
  obtain ⟨a, cap, rfl, h1, h2, h0, h3⟩ := hs
  refine ⟨a, cap, rfl, h1, h2, h0, h3.imp id ?_⟩
  rintro ⟨b, off, rfl, hc⟩
  obtain ⟨k1, k2⟩ := hv b rfl
  refine ⟨b, off, rfl, fun j x hj => ?_⟩
  have e := hg.block b k1 (fun e => k2 e.symm)
  have := hc j x hj
  unfold World.cell? at this ⊢
  rw [e]
  exact this
theorem app_rows {ops : Array Oper} {rest : List Oper} {o : Oper} {a : Act} {Q : Exit → Act → World → Prop} (s x : Operand) (hgd : o.guard = none)
    (ho : o.op = .call { callee := .builtin .append, args := #[s, x], argTypes := #[28, 28] })
    (hs : a.eval s = v) (hP : RowsOwn Z w v vs Ls) (b : Nat) (xv : Value) (L : List Nat) (hx : a.eval x = .slice (some ⟨b, 0, none⟩) 1 1) (hb : w.heap[b]? = some (.cells #[xv] 29 (0, 0)))
    (hone : xv.oneCell' = true) (hS : SliceOf u8c w xv L) (hB : ∀ b, xv.ownBlock = some b → b < w.heap.size ∧ v.ownBlock ≠ some b) (hZ : Z ≤ w.heap.size) (hl : vs.length ≤ 100000)
    (h : ∀ v' w', RowsOwn Z w' v' (vs ++ [xv]) (Ls ++ [L]) → w.grownBy w' v.ownBlock → Below Z w w' → (v'.ownBlock = v.ownBlock ∨ v'.ownBlock = some w.heap.size) → wpList Tryd.prog ops Q rest (a.put o.dst v') w') : wpList Tryd.prog ops Q (o :: rest) a w := by
  obtain ⟨i0, hi, hz0, hz1, hz2⟩ := info_parts info_bs
  obtain ⟨own, hlen, hp⟩ := hP
  refine wpList_append_own2 w hgd s x 28 ho Z 29 i0 (.slice none 0 0) 1 24 Tryd.underlying28 hi hz0 hz1 hz2 rfl (by decide) v vs.length vs hs own ⟨b, 0, none⟩ 1 1 [xv] hx rfl ?_ ?_ (by unfold maxLen; omega) (by omega) hZ fun v' w' own' hg hor => ?_
  · intro j u hj
    have e : (⟨b, 0, none⟩ : Addr).add j = ⟨b, 0 + j, none⟩ := Go.WideShapes.add_plain _ _ _
    rw [e, cell_of_row _ _ _ _ _ _ hb]
    match j, hj with
    | 0, hj => cases hj; rfl
    | j + 1, hj => cases hj
  · intro u hu
    rw [List.mem_singleton] at hu
    subst hu
    exact hone
  · have q : Below Z w w' := (Below.refl Z w).grown hg hZ (fun k hk => (own.lt k hk).1)
    have ap : ∀ b, b < w.heap.size ∧ v.ownBlock ≠ some b → b < w'.heap.size ∧ v'.ownBlock ≠ some b := fun b ⟨h1, h2⟩ => ⟨Nat.lt_of_lt_of_le h1 hg.size, by
      rcases hor with e | e
      · rw [e]; exact h2
      · rw [e]; intro e2; have := Option.some.inj e2; omega⟩
    refine h v' w' ⟨by rw [List.length_append]; exact own', by simp [hlen], fun i y M hy hM => ?_⟩ hg q hor
    by_cases hi : i < vs.length
    · rw [List.getElem?_append_left hi] at hy
      rw [List.getElem?_append_left (by omega)] at hM
      obtain ⟨h1, h2⟩ := hp i y M hy hM
      exact ⟨h1.grown hg h2, fun b hb => ap b (h2 b hb)⟩
    · by_cases hi2 : i = vs.length
      · subst hi2
        rw [List.getElem?_append_right (Nat.le_refl _), Nat.sub_self] at hy
        rw [hlen, List.getElem?_append_right (Nat.le_refl _), Nat.sub_self] at hM
        cases hy
        cases hM
        exact ⟨hS.grown hg hB, fun b hb => ap b (hB b hb)⟩
      · rw [List.getElem?_eq_none (by simp; omega)] at hy
        cases hy
end
end Go.Proofs.YtcifnfffoiiceaaDoor
