/-
  A row of the call's own whose cells are slices of bytes.
-/
import Derived.Test.YtcifnfffoiiceaaDoorHSum
import Derived.Test.YtcifnfffoiiceaaDoorRow2
namespace Go.Proofs.YtcifnfffoiiceaaDoor
open Go.RowKit
set_option linter.unusedVariables false

theorem info_bs : (Tryd.prog.info? 29).map (fun i => (i.zero, i.size, i.bytes)) = some (some (.slice none 0 0), 1, 24) := by kernel_rfl
theorem SliceOf.keep {α : Type} {mk : α → Value} {w w' : World} {v : Value} {l : List α} {Z : Nat} (hs : SliceOf mk w v l) (q : Below Z w w') (hv : ∀ b, v.ownBlock = some b → b < Z) : SliceOf mk w' v l := by
  obtain ⟨a, cap, rfl, h1, h2, h0, h3⟩ := hs
  refine ⟨a, cap, rfl, h1, h2, h0, h3.imp id ?_⟩
  rintro ⟨b, off, rfl, hc⟩
  exact ⟨b, off, rfl, fun j x hj => (q.cell (p := ⟨b, off + j, none⟩) (hv b rfl)).trans (hc j x hj)⟩
def PartsOwn (Z : Nat) (ok : Nat → Prop) (w : World) (v : Value) (vs : List Value) (Ls : List (List Nat)) : Prop :=
  w.ownsRow Z 29 1 v vs.length vs ∧ vs.length = Ls.length ∧ (∀ b, ok b → b < Z) ∧ ∀ (i : Nat) (x : Value) (L : List Nat), vs[i]? = some x → Ls[i]? = some L → SliceOf u8c w x L ∧ ∀ b, x.ownBlock = some b → ok b
section
variable {Z : Nat} {ok : Nat → Prop} {w w' : World} {v : Value} {vs : List Value} {Ls : List (List Nat)}
theorem PartsOwn.nil (hok : ∀ b, ok b → b < Z) : PartsOwn Z ok w (.slice none 0 0) [] [] := ⟨World.ownsRow_nil _ _ _ _, rfl, hok, fun i x L hx => by simp at hx⟩
theorem PartsOwn.at (h : PartsOwn Z ok w v vs Ls) (hZ : Z ≤ w.heap.size) : PartsAt w v vs Ls :=
  ⟨SliceOf.of_own h.1 (by simp), h.2.1, fun i x L hx hL => ⟨(h.2.2.2 i x L hx hL).1, fun b hb => Nat.lt_of_lt_of_le (h.2.2.1 b ((h.2.2.2 i x L hx hL).2 b hb)) hZ⟩⟩
theorem PartsOwn.below (h : PartsOwn Z ok w v vs Ls) (hZ : Z ≤ w.heap.size) (q : Below w.heap.size w w') : PartsOwn Z ok w' v vs Ls :=
  ⟨h.1.kept (row := none) ⟨q.os, q.tape, q.output, q.size, fun k hk _ => q.block k hk⟩ (by cases h.1.2 with | inl h => exact .inl (by rw [h.1]; rfl) | inr h => obtain ⟨g, c, cur, e, _⟩ := h; exact .inr (by rw [e]; intro h; cases h)), h.2.1, h.2.2.1, fun i x L hx hL => ⟨(h.2.2.2 i x L hx hL).1.below q, (h.2.2.2 i x L hx hL).2⟩⟩
theorem PartsOwn.touch {b : Nat} (h : PartsOwn Z ok w v vs Ls) (t : TouchB b w w') (hb : b < Z) (hn : ¬ ok b) : PartsOwn Z ok w' v vs Ls :=
  ⟨h.1.kept (row := some b) ⟨t.os, t.tape, t.output, t.size, fun k hk hne => t.block k hk (fun e => hne (by rw [e]))⟩ (.inr (fun e => by have := (h.1.lt b e).1; omega)), h.2.1, h.2.2.1, fun i x L hx hL => ⟨(h.2.2.2 i x L hx hL).1.touch t (fun e => hn ((h.2.2.2 i x L hx hL).2 b e)), (h.2.2.2 i x L hx hL).2⟩⟩
theorem app_part {ops : Array Oper} {rest : List Oper} {o : Oper} {a : Act} {Q : Exit → Act → World → Prop} (s x : Operand) (hgd : o.guard = none)
    (ho : o.op = .call { callee := .builtin .append, args := #[s, x], argTypes := #[28, 28] })
    (hs : a.eval s = v) (hP : PartsOwn Z ok w v vs Ls) (b : Nat) (xv : Value) (L : List Nat) (hx : a.eval x = .slice (some ⟨b, 0, none⟩) 1 1) (hb : w.heap[b]? = some (.cells #[xv] 29 (0, 0)))
    (hone : xv.oneCell' = true) (hS : SliceOf u8c w xv L) (hB : ∀ b, xv.ownBlock = some b → ok b) (hZ : Z ≤ w.heap.size) (hl : vs.length ≤ 100000)
    (h : ∀ v' w', PartsOwn Z ok w' v' (vs ++ [xv]) (Ls ++ [L]) → Below Z w w' → wpList Tryd.prog ops Q rest (a.put o.dst v') w') : wpList Tryd.prog ops Q (o :: rest) a w := by
  obtain ⟨i0, hi, hz0, hz1, hz2⟩ := info_parts info_bs
  obtain ⟨own, hlen, hok, hp⟩ := hP
  refine wpList_append_own w hgd s x 28 ho Z 29 i0 (.slice none 0 0) 1 24 Tryd.underlying28 hi hz0 hz1 hz2 rfl (by decide) v vs.length vs hs own ⟨b, 0, none⟩ 1 1 [xv] hx rfl ?_ ?_ (by unfold maxLen; omega) (by omega) hZ fun v' w' own' hg _ => ?_
  · intro j u hj
    have e : (⟨b, 0, none⟩ : Addr).add j = ⟨b, 0 + j, none⟩ := Go.WideShapes.add_plain _ _ _
    rw [e, cell_of_row _ _ _ _ _ _ hb]
    match j, hj with
    | 0, hj => cases hj; rfl
    | j + 1, hj => cases hj
  · intro u hu
    rw [List.mem_singleton] at hu
    subst hu
    exact hone
  · have q : Below Z w w' := (Below.refl Z w).grown hg hZ (fun k hk => (own.lt k hk).1)
    refine h v' w' ⟨by rw [List.length_append]; exact own', by simp [hlen], hok, fun i y M hy hM => ?_⟩ q
    by_cases hi : i < vs.length
    · rw [List.getElem?_append_left hi] at hy
      rw [List.getElem?_append_left (by omega)] at hM
      obtain ⟨h1, h2⟩ := hp i y M hy hM
      exact ⟨h1.keep q (fun b hb => hok b (h2 b hb)), h2⟩
    · by_cases hi2 : i = vs.length
      · subst hi2
        rw [List.getElem?_append_right (Nat.le_refl _), Nat.sub_self] at hy
        rw [hlen, List.getElem?_append_right (Nat.le_refl _), Nat.sub_self] at hM
        cases hy
        cases hM
        exact ⟨hS.keep q (fun b hb => hok b (hB b hb)), hB⟩
      · rw [List.getElem?_eq_none (by simp; omega)] at hy
        cases hy
end
/-- One part. -/
theorem one_part' {w : World} {v : Value} {l : List Nat} (h : SliceOf u8c w v l) (hb : ∀ b, v.ownBlock = some b → b < w.heap.size) :
    PartsAt (w.alloc (.cells #[v] 29 (0, 0))) (.slice (some ⟨w.heap.size, 0, none⟩) 1 1) [v] [l] := by
  refine ⟨⟨_, _, rfl, Nat.le_refl _, by show 1 ≤ maxLen; decide, (fun e => by cases e), .inr ⟨w.heap.size, 0, rfl, fun j x hj => ?_⟩⟩, rfl, fun i x L hx hL => ?_⟩
  · rw [cell_of_row _ _ _ _ _ _ (heap_alloc_new _ _)]
    match j, hj with
    | 0, hj => cases hj; rfl
    | j + 1, hj => cases hj
  · match i, hx, hL with
    | 0, hx, hL =>
      cases hx
      cases hL
      exact ⟨h.below ((Below.refl _ _).alloc (Nat.le_refl _) _), fun b hb' => by have := hb b hb'; simp; omega⟩
    | i + 1, hx, hL => cases hx
theorem sum_one' {w : World} {v : Value} {l : List Nat} (wd : Int) (h : SliceOf u8c w v l) (hb : ∀ b, v.ownBlock = some b → b < w.heap.size) (bB : Bytes l) (hl : l.length ≤ 1000000) (D : DoorAt w) :
    Calls Tryd.prog 17 #[.int .i64 wd, .slice (some ⟨w.heap.size, 0, none⟩) 1 1] (w.alloc (.cells #[v] 29 (0, 0))) fun e w' => e = .returned (.agg (cellsOf' u8c (sumN wd l))) ∧ Below w.heap.size w w' := by
  have q : Below w.heap.size w (w.alloc (.cells #[v] 29 (0, 0))) := (Below.refl _ _).alloc (Nat.le_refl _) _
  refine (hashSum_any (one_part' h hb) (fun L hL => by rw [List.mem_singleton] at hL; subst hL; exact bB) (D.below q) (by simp; omega) (by show 1 ≤ 4611686018427387904; decide)).mono ?_
  rintro e w' ⟨rfl, h2⟩
  exact ⟨by simp, q.trans (h2.mono (by simp))⟩
end Go.Proofs.YtcifnfffoiiceaaDoor
