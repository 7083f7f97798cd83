/-
  One cell of an array value. No program's walk in sight.
-/
import Derived.Test.YtcifnfffoiiceaaDoorCells
import Derived.Laws.Entries
namespace Go.Proofs.YtcifnfffoiiceaaDoor
open Go.RowKit
set_option linter.unusedVariables false

theorem run_index_h (w : World) (cs : Array Value) (i : Int) (k : Nat) (hi : i = (k : Int)) (hk : k < 32) (v : Value) (h : cs[k]? = some v) : (Instr.index 23 (.agg cs) (.int .i64 i)).run Tryd.prog w = .ok v w := by
  obtain ⟨i0, hi0, hz0, hz1, hz2⟩ := info_parts info_u8
  subst hi
  have hu := run_underlying Tryd.underlying23 w
  have hs : (sizeOf 5).run Tryd.prog w = .ok 1 w := by simp [sizeOf, typeInfo, hi0, hz1]
  unfold Instr.index
  simp [Sem.run_bind, asIntOf, hu, hs, part, h, hk]
theorem index_run {a : Act} {w : World} {x : Nat} {d : Option Nat} {ty : TypeId} {ps : String} {af : Array Edge} {gd : Option (Nat × Bool)} {cs : Array Value} {i : Int} (k : Nat) (hi : i = (k : Int)) (hk : k < 32) {v : Value} (hx : a.eval (.tmp x) = .agg cs) (h : cs[k]? = some v) :
    (execOp a.eval ⟨d, .index 23 (.tmp x) (.const (.int .i64 i)), ty, ps, af, gd⟩).run Tryd.prog w = .ok (.value v) w := by
  have h1 := run_index_h w cs i k hi hk v h
  have h2 : a.eval (.const (.int .i64 i)) = .int .i64 i := rfl
  unfold execOp
  simp only [hx, h2, Sem.run_bind]
  rw [h1]
  rfl
theorem read_wanted {P : Program} {ops : Array Oper} {rest : List Oper} {o : Oper} {a : Act} {w : World} {Q : Exit → Act → World → Prop} (hw : Region.wanted o (yielded ops a.tmps) = true) (dst : Option Tmp) (hdst : o.dst = dst) (v : Value)
    (hrun : (execOp a.eval o).run P w = .ok (.value v) w) (h : wpList P ops Q rest (a.put dst v) w) : wpList P ops Q (o :: rest) a w := by
  subst hdst
  refine wpList_step fun K hK => ?_
  rw [if_pos hw]
  unfold Oper.wp
  rw [hrun, Oper.upon_value]
  exact hK _ _ h
end Go.Proofs.YtcifnfffoiiceaaDoor
