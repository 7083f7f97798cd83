/-
  A region that draws its order, by hand: loads of long arrays are taken first under a condition S, then one operation after the other. No program in sight.
-/
import Derived.Test.YtcifnfffoiiceaaDoorReads3
import Derived.OrdersHeld
namespace Go.Proofs.YtcifnfffoiiceaaDoor
set_option linter.unusedVariables false

/-- At the normal end X, else Q. -/
def thenH (Q : Exit → Act → World → Prop) (X : Act → World → Prop) : Exit → Act → World → Prop
  | .normal, a, w => X a w
  | e, a, w => Q e a w
section
variable {P : Program} {md : Region.Mode} {ops : Array Oper} {Q : Exit → Act → World → Prop} {S : World → Prop}
theorem upon_same {o : Oper} {a : Act} {next X : Act → World → Prop} (r : Result Next) : o.upon P a next (thenH Q X) r = o.upon P a next Q r := by
  cases r with
  | ok n w => cases n <;> rfl
  | halt x w => cases x <;> rfl
theorem anyH_one {i fuel : Nat} {o : Oper} {listed : Array Bool} {a : Act} {w : World} (hr : Region.ready md ops listed = [i]) (hi : ops[i]? = some o)
    (h : wpList P ops (thenH Q fun a' w' => S w' ∧ wpAnyH P md ops Q S fuel (listed.setIfInBounds i true) a' w') [o] a w) : wpAnyH P md ops Q S (fuel + 1) listed a w := by
  refine wpAnyH_all hr (by simp) fun j hj => ?_
  obtain rfl : j = i := by simpa using hj
  unfold wpOp
  rw [hi]
  unfold wpList at h
  by_cases hw : Region.wanted o (yielded ops a.tmps) = true
  · simp only [hw, if_true] at h ⊢
    rcases h with h | ⟨h1, h2⟩
    · left
      unfold Oper.wp at h ⊢
      rw [upon_same] at h
      exact h
    · exact .inr ⟨h1, h2⟩
  · simp only [hw] at h ⊢
    exact h
theorem anyH_take {i d fuel : Nat} {oi : Oper} {v : Value} {listed : Array Bool} {a : Act} {w : World} (hi : ops[i]? = some oi) (hd : oi.dst = some d)
    (hs : Region.noSelect ops = true) (hf : Region.free md ops listed i = true) (hr : (Region.ready md ops listed).contains i = true)
    (hQ : ∀ c a w, Q (.panic c) (a.put (some d) v) w → Q (.panic c) a w) (hy : YieldsIf P ops S oi v a) (hS : S w)
    (h : wpAnyH P md ops Q S fuel (listed.setIfInBounds i true) (a.put (some d) v) w) : wpAnyH P md ops Q S (fuel + 1) listed a w :=
  wpAnyH_take hi hs hf hr (by rw [hd]; exact hQ) hy hS (by rw [hd]; exact h)
end
end Go.Proofs.YtcifnfffoiiceaaDoor
