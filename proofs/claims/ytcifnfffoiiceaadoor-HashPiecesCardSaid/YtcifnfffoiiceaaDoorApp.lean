/-
  'append' of any slice of bytes to a row of the call's own.
-/
import Derived.Test.YtcifnfffoiiceaaDoorBig
import Derived.Laws.AppendOwnNone
import Derived.WideShapes
namespace Go.Proofs.YtcifnfffoiiceaaDoor
open Go.RowKit
set_option linter.unusedVariables false

theorem u8s_eq (l : List Nat) : u8s l = l.map u8c := rfl
theorem grown_refl (w : World) (row : Option Nat) : w.grownBy w row := ⟨rfl, rfl, rfl, Nat.le_refl _, fun _ _ _ => rfl⟩

theorem app_u8 {ops : Array Oper} {rest : List Oper} {o : Oper} {a : Act} {Q : Exit → Act → World → Prop} {w : World} (s x : Operand) (hgd : o.guard = none)
    (ho : o.op = .call { callee := .builtin .append, args := #[s, x], argTypes := #[29, 29] })
    (B : Nat) (v : Value) (n : Nat) (xs : List Value) (hs : a.eval s = v) (hown : w.ownsRow B 5 1 v n xs) (vx : Value) (l : List Nat) (hx : a.eval x = vx) (hsrc : SliceOf u8c w vx l)
    (hlen : n + l.length ≤ 140737488355328) (hB : B ≤ w.heap.size)
    (h : ∀ v' w', w'.ownsRow B 5 1 v' (n + l.length) (xs ++ u8s l) → w.grownBy w' v.ownBlock → wpList Tryd.prog ops Q rest (a.put o.dst v') w') :
    wpList Tryd.prog ops Q (o :: rest) a w := by
  obtain ⟨i0, hi, hz0, hz1, hz2⟩ := info_parts info_u8
  obtain ⟨ad, cap, rfl, h1, h2, h0, h3⟩ := hsrc
  cases ad with
  | none =>
    have hl : l = [] := by
      rcases h3 with h3 | ⟨b, off, ha, _⟩
      · exact h3
      · cases ha
    subst hl
    have hc := h0 rfl
    subst hc
    refine wpList_append_own_none hgd s x 29 ho B 5 i0 1 Tryd.underlying29 hi v n xs hs hown hx ?_
    exact h v w (by simpa [u8s] using hown) (grown_refl _ _)
  | some ad =>
    refine wpList_append_own w hgd s x 29 ho B 5 i0 (.int .u8 0) 1 1 Tryd.underlying29 hi hz0 hz1 hz2 rfl (by decide) v n xs hs hown ad l.length cap (u8s l) hx (by simp [u8s]) ?_ ?_ (by unfold maxLen; omega) (by omega) hB fun v' w' h4 h5 _ => h v' w' h4 h5
    · intro j u hj
      rw [u8s_get] at hj
      rcases h3 with h3 | ⟨b, off, ha, hc⟩
      · subst h3; simp at hj
      · cases ha
        obtain ⟨c, hc1, rfl⟩ := Option.map_eq_some_iff.1 hj
        have e : (⟨b, off, none⟩ : Addr).add j = ⟨b, off + j, none⟩ := Go.WideShapes.add_plain _ _ _
        rw [e]
        exact hc j c hc1
    · intro u hu
      simp only [u8s, List.mem_map] at hu
      obtain ⟨c, _, rfl⟩ := hu
      rfl
end Go.Proofs.YtcifnfffoiiceaaDoor
