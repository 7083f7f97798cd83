/-
  A region that draws its order, by hand: one call, whose contract is at hand, with no simplifying. No program in sight.
-/
import Derived.Test.YtcifnfffoiiceaaDoorHeldSeq
namespace Go.Proofs.YtcifnfffoiiceaaDoor
set_option linter.unusedVariables false
section
variable {P : Program} {md : Region.Mode} {ops : Array Oper} {Q : Exit → Act → World → Prop} {S : World → Prop}
theorem anyH_enter {i d fuel : Nat} {f : FuncId} {o : Oper} {args : Array Value} {listed : Array Bool} {a : Act} {w : World} {Pst : Value → World → Prop}
    (hr : Region.ready md ops listed = [i]) (hi : ops[i]? = some o) (hd : o.dst = some d) (hw : Region.wanted o (yielded ops a.tmps) = true)
    (hc : Calls P f args w fun e w' => ∃ v, e = .returned v ∧ Pst v w') (he : (execOp a.eval o).run P w = .ok (.enter f args) w)
    (hk : ∀ v w', Pst v w' → S w' ∧ wpAnyH P md ops Q S fuel (listed.setIfInBounds i true) (a.put (some d) v) w') : wpAnyH P md ops Q S (fuel + 1) listed a w := by
  refine wpAnyH_all hr (by simp) fun j hj => ?_
  obtain rfl : j = i := by simpa using hj
  unfold wpOp
  rw [hi]
  show if Region.wanted o (yielded ops a.tmps) = true then _ else _
  rw [if_pos hw]
  refine .inl ?_
  unfold Oper.wp
  rw [he, Oper.upon_enter]
  refine hc.mono ?_
  rintro e w' ⟨v, rfl, hp⟩
  show S w' ∧ wpAnyH P md ops Q S fuel (listed.setIfInBounds j true) (a.put o.dst v) w'
  rw [hd]
  exact hk v w' hp
theorem anyH_enter1 {i d fuel : Nat} {f : FuncId} {o : Oper} {args : Array Value} {listed : Array Bool} {a : Act} {w : World} {u : Value} {R : World → Prop}
    (hr : Region.ready md ops listed = [i]) (hi : ops[i]? = some o) (hd : o.dst = some d) (hw : Region.wanted o (yielded ops a.tmps) = true)
    (hc : Calls P f args w fun e w' => e = .returned u ∧ R w') (he : (execOp a.eval o).run P w = .ok (.enter f args) w)
    (hk : ∀ w', R w' → S w' ∧ wpAnyH P md ops Q S fuel (listed.setIfInBounds i true) (a.put (some d) u) w') : wpAnyH P md ops Q S (fuel + 1) listed a w :=
  anyH_enter hr hi hd hw (Pst := fun v w' => v = u ∧ R w') (hc.mono fun e w' h => ⟨u, h.1, rfl, h.2⟩) he fun v w' h => by rw [h.1]; exact hk w' h.2
end
end Go.Proofs.YtcifnfffoiiceaaDoor
