/-
  '==' and '!=' of two arrays or two whole numbers, as a step of a drawn region, with no simplifying of the region. No program's walk in sight.
-/
import Derived.Test.YtcifnfffoiiceaaDoorHeldCall
import Derived.Test.YtcifnfffoiiceaaDoorEqlA
namespace Go.Proofs.YtcifnfffoiiceaaDoor
set_option linter.unusedVariables false
section
variable {ops : Array Oper} {S : World → Prop} {o : Oper} {a : Act} {t : TypeId} {x y : Operand} {X Y : Array Value} {p : Bool}
theorem yields_eqA {z} (hw : Region.wanted o (yielded ops a.tmps) = true) (ho : o.op = .binOp .eql t x y z) (hx : a.eval x = .agg X) (hy : a.eval y = .agg Y)
    (hg : Tryd.prog.eqGuardType Tryd.prog.depth t = false) (he : ∀ w, (Op.equalIn 10000 t (.agg X) (.agg Y)).run Tryd.prog w = .ok p w) : YieldsIf Tryd.prog ops S o (.bool p) a := by
  refine .inl ⟨hw, fun w _ => ?_⟩
  unfold execOp
  rw [ho]
  simp [hx, hy, eqGuard, binOp, Op.equal, hg, show Op.maxDepth = 10000 from rfl, he]
theorem yields_neA {z} (hw : Region.wanted o (yielded ops a.tmps) = true) (ho : o.op = .binOp .neq t x y z) (hx : a.eval x = .agg X) (hy : a.eval y = .agg Y)
    (hg : Tryd.prog.eqGuardType Tryd.prog.depth t = false) (he : ∀ w, (Op.equalIn 10000 t (.agg X) (.agg Y)).run Tryd.prog w = .ok p w) : YieldsIf Tryd.prog ops S o (.bool (!p)) a := by
  refine .inl ⟨hw, fun w _ => ?_⟩
  unfold execOp
  rw [ho]
  simp [hx, hy, eqGuard, binOp, Op.equal, hg, show Op.maxDepth = 10000 from rfl, he]
theorem yields_eqI {z} {k : IntKind} {m n : Int} (hw : Region.wanted o (yielded ops a.tmps) = true) (ho : o.op = .binOp .eql t x y z) (hx : a.eval x = .int k m) (hy : a.eval y = .int k n)
    (he : (m == n) = p) : YieldsIf Tryd.prog ops S o (.bool p) a := by
  refine .inl ⟨hw, fun w _ => ?_⟩
  unfold execOp
  rw [ho]
  simp [hx, hy, eqGuard, binOp, Op.intCmp, he]
end
end Go.Proofs.YtcifnfffoiiceaaDoor
