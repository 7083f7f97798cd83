/-
  clear(s) over a row that is known whole, as a law for the walk.
-/
import Derived.Test.YtcifnfffoiiceaaDoorCells
import Derived.Laws.CopyOwn
namespace Go.Proofs.YtcifnfffoiiceaaDoor
open Go.RowKit
set_option linter.unusedVariables false

theorem zeroCells_list (z : Value) (hz : z.cells = #[z]) (n : Nat) : (Builtin.zeroCells z.cells n).toList = List.replicate n z := by
  rw [hz]
  simp [Builtin.zeroCells]
  apply List.ext_getElem
  · simp
  · intro i h1 h2
    simp [Nat.mod_one]
theorem run_clear_row {P : Program} (w : World) (t e ty : TypeId) (z : Value) {i : TypeInfo} (ht : P.underlying t = some (.slice e)) (hi : P.info? e = some i) (hv : i.zero = some z) (hz : z.cells = #[z]) (h1 : z.oneCell' = true) (g o n c : Nat)
    (cur : Array Value) (t' : TypeId) (hg : w.heap[g]? = some (.cells cur t' (0, 0))) (hfit : o + n ≤ cur.size) :
    (Builtin.clear_ #[t] ty #[.slice (some ⟨g, o, none⟩) n c]).run P w = .ok (.tuple #[]) (w.setRow g (cur.toList.take o ++ (List.replicate n z ++ cur.toList.drop (o + n))).toArray) := by
  by_cases hn : n = 0
  · subst hn
    have e : (cur.toList.take o ++ (List.replicate 0 z ++ cur.toList.drop (o + 0))).toArray = cur := by simp
    rw [e, setRow_self w g cur t' (0, 0) hg]
    simp [Builtin.clear_, run_underlying ht]
  · have hzc := zeroCells_list z hz n
    have hst := run_storeCells_at P g o t' (List.replicate n z) 0 cur w hg (by simpa using hfit) (by intro v hv'; rw [List.eq_of_mem_replicate hv']; exact h1)
    simp only [Nat.add_zero, List.length_replicate, List.append_assoc] at hst
    have hv2 : ∀ w, (zeroValue e).run P w = .ok z w := fun w => by simp [zeroValue, typeInfo, hi, hv]
    obtain ⟨m, rfl⟩ : ∃ m, n = m + 1 := ⟨n - 1, by omega⟩
    simp only [Builtin.clear_, List.getElem?_toArray, List.getElem?_cons_zero]
    simp [run_underlying ht, hv2, hzc, hst]
theorem wpList_clear_own {P : Program} {w : World} {ops : Array Oper} {rest : List Oper} {o : Oper} {a : Act} {Q : Exit → Act → World → Prop} (hgd : o.guard = none) (d : Operand) (dT : TypeId)
    (ho : o.op = .call { callee := .builtin .clear, args := #[d], argTypes := #[dT] }) (elem : TypeId) (z : Value) {i : TypeInfo} (hu : P.underlying dT = some (.slice elem)) (hi : P.info? elem = some i) (hv : i.zero = some z) (hz : z.cells = #[z]) (h1 : z.oneCell' = true)
    (g off n cap : Nat) (hd : a.eval d = .slice (some ⟨g, off, none⟩) n cap)
    (cur : Array Value) (t : TypeId) (hg : w.heap[g]? = some (.cells cur t (0, 0))) (hfit : off + n ≤ cur.size)
    (h : wpList P ops Q rest (a.put o.dst (.tuple #[])) (w.setRow g (cur.toList.take off ++ (List.replicate n z ++ cur.toList.drop (off + n))).toArray)) : wpList P ops Q (o :: rest) a w := by
  refine wpList_plain hgd fun K hK => ?_
  have hrun := run_clear_row (P := P) w dT elem o.type z hu hi hv hz h1 g off n cap cur t hg hfit
  unfold Oper.wp
  simp [execOp, ho, resolve, invoke, builtin, hd, hrun, Result.andThen]
  exact hK _ _ h
theorem wpList_clear_row {P : Program} {w : World} {ops : Array Oper} {rest : List Oper} {o : Oper} {a : Act} {Q : Exit → Act → World → Prop} (hgd : o.guard = none) (d : Operand) (dT : TypeId)
    (ho : o.op = .call { callee := .builtin .clear, args := #[d], argTypes := #[dT] }) (elem : TypeId) (z : Value) {i : TypeInfo} (hu : P.underlying dT = some (.slice elem)) (hi : P.info? elem = some i) (hv : i.zero = some z) (hz : z.cells = #[z]) (h1 : z.oneCell' = true)
    (g off n cap : Nat) (hd : a.eval d = .slice (some ⟨g, off, none⟩) n cap)
    (cur : Array Value) (t : TypeId) (hg : w.heap[g]? = some (.cells cur t (0, 0))) (hfit : off + n ≤ cur.size) (C : Array Value) (hC : (cur.toList.take off ++ (List.replicate n z ++ cur.toList.drop (off + n))).toArray = C)
    (g2 : Nat) (o2 : Option Obj) (hg2 : w.heap[g2]? = o2) (hne : g2 ≠ g) (B : Nat) (w0 : World) (hb : Below B w0 w) (hBg : B ≤ g)
    (h : ∀ w', Hid (w'.heap[g]? = some (.cells C t (0, 0))) → Hid (w'.heap[g2]? = o2) → Below B w0 w' → wpList P ops Q rest (a.put o.dst (.tuple #[])) w') : wpList P ops Q (o :: rest) a w := by
  refine wpList_clear_own hgd d dT ho elem z hu hi hv hz h1 g off n cap hd cur t hg hfit ?_
  rw [hC]
  exact h _ (show _ = _ from setRow_heap w g _ _ t _ hg) (show _ = _ by rw [setRow_other w g g2 _ hne, hg2]) (below_setRow hb hBg _)
end Go.Proofs.YtcifnfffoiiceaaDoor
