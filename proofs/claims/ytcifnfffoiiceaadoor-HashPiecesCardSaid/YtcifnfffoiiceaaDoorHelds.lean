/-
  A region that draws its order, by hand: one call, whose contract is at hand, with no simplifying. No program in sight.
  '==' and '!=' of two arrays or two whole numbers, as a step of a drawn region, with no simplifying of the region. No program's walk in sight.
  An index into a slice, as a step of a drawn region, with no simplifying of the region. No program's walk in sight.
  Two new variables of a drawn region, in either order. No program in sight.
-/
import Derived.Test.YtcifnfffoiiceaaDoorHeldSeq
import Derived.Test.YtcifnfffoiiceaaDoorEqlA
import Derived.ChangeKeysEq
import Derived.Test.YtcifnfffoiiceaaDoorReads3
namespace Go.Proofs.YtcifnfffoiiceaaDoor
section
set_option linter.unusedVariables false
section
variable {P : Program} {md : Region.Mode} {ops : Array Oper} {Q : Exit → Act → World → Prop} {S : World → Prop}
theorem anyH_enter {i d fuel : Nat} {f : FuncId} {o : Oper} {args : Array Value} {listed : Array Bool} {a : Act} {w : World} {Pst : Value → World → Prop}
    (hr : Region.ready md ops listed = [i]) (hi : ops[i]? = some o) (hd : o.dst = some d) (hw : Region.wanted o (yielded ops a.tmps) = true)
    (hc : Calls P f args w fun e w' => ∃ v, e = .returned v ∧ Pst v w') (he : (execOp a.eval o).run P w = .ok (.enter f args) w)
    (hk : ∀ v w', Pst v w' → S w' ∧ wpAnyH P md ops Q S fuel (listed.setIfInBounds i true) (a.put (some d) v) w') : wpAnyH P md ops Q S (fuel + 1) listed a w := by
  refine wpAnyH_all hr (by simp) fun j hj => ?_
  obtain rfl : j = i := by simpa using hj
  unfold wpOp
  rw [hi]
  show if Region.wanted o (yielded ops a.tmps) = true then _ else _
  rw [if_pos hw]
  refine .inl ?_
  unfold Oper.wp
  rw [he, Oper.upon_enter]
  refine hc.mono ?_
  rintro e w' ⟨v, rfl, hp⟩
  show S w' ∧ wpAnyH P md ops Q S fuel (listed.setIfInBounds j true) (a.put o.dst v) w'
  rw [hd]
  exact hk v w' hp
theorem anyH_enter1 {i d fuel : Nat} {f : FuncId} {o : Oper} {args : Array Value} {listed : Array Bool} {a : Act} {w : World} {u : Value} {R : World → Prop}
    (hr : Region.ready md ops listed = [i]) (hi : ops[i]? = some o) (hd : o.dst = some d) (hw : Region.wanted o (yielded ops a.tmps) = true)
    (hc : Calls P f args w fun e w' => e = .returned u ∧ R w') (he : (execOp a.eval o).run P w = .ok (.enter f args) w)
    (hk : ∀ w', R w' → S w' ∧ wpAnyH P md ops Q S fuel (listed.setIfInBounds i true) (a.put (some d) u) w') : wpAnyH P md ops Q S (fuel + 1) listed a w :=
  anyH_enter hr hi hd hw (Pst := fun v w' => v = u ∧ R w') (hc.mono fun e w' h => ⟨u, h.1, rfl, h.2⟩) he fun v w' h => by rw [h.1]; exact hk w' h.2
end
end

section
set_option linter.unusedVariables false
section
variable {ops : Array Oper} {S : World → Prop} {o : Oper} {a : Act} {t : TypeId} {x y : Operand} {X Y : Array Value} {p : Bool}
theorem yields_eqA {z} (hw : Region.wanted o (yielded ops a.tmps) = true) (ho : o.op = .binOp .eql t x y z) (hx : a.eval x = .agg X) (hy : a.eval y = .agg Y)
    (hg : Tryd.prog.eqGuardType Tryd.prog.depth t = false) (he : ∀ w, (Op.equalIn 10000 t (.agg X) (.agg Y)).run Tryd.prog w = .ok p w) : YieldsIf Tryd.prog ops S o (.bool p) a := by
  refine .inl ⟨hw, fun w _ => ?_⟩
  unfold execOp
  rw [ho]
  simp [hx, hy, eqGuard, binOp, Op.equal, hg, show Op.maxDepth = 10000 from rfl, he]
theorem yields_neA {z} (hw : Region.wanted o (yielded ops a.tmps) = true) (ho : o.op = .binOp .neq t x y z) (hx : a.eval x = .agg X) (hy : a.eval y = .agg Y)
    (hg : Tryd.prog.eqGuardType Tryd.prog.depth t = false) (he : ∀ w, (Op.equalIn 10000 t (.agg X) (.agg Y)).run Tryd.prog w = .ok p w) : YieldsIf Tryd.prog ops S o (.bool (!p)) a := by
  refine .inl ⟨hw, fun w _ => ?_⟩
  unfold execOp
  rw [ho]
  simp [hx, hy, eqGuard, binOp, Op.equal, hg, show Op.maxDepth = 10000 from rfl, he]
theorem yields_eqI {z} {k : IntKind} {m n : Int} (hw : Region.wanted o (yielded ops a.tmps) = true) (ho : o.op = .binOp .eql t x y z) (hx : a.eval x = .int k m) (hy : a.eval y = .int k n)
    (he : (m == n) = p) : YieldsIf Tryd.prog ops S o (.bool p) a := by
  refine .inl ⟨hw, fun w _ => ?_⟩
  unfold execOp
  rw [ho]
  simp [hx, hy, eqGuard, binOp, Op.intCmp, he]
end
end

section
set_option linter.unusedVariables false
section
variable {ops : Array Oper} {S : World → Prop} {o : Oper} {a : Act} {st t : TypeId} {x y : Operand}
theorem run_index {k n cap off g s : Nat} {ki : IntKind} (w : World) (hst : Tryd.prog.underlying st = some (.slice t)) (hs : (Tryd.prog.info? t).map (·.size) = some s) (hk : k < n) :
    (Instr.indexAt st (.slice (some ⟨g, off, none⟩) n cap) (.int ki (k : Int))).run Tryd.prog w = .ok (.pointer (some ⟨g, off + k * s, none⟩)) w := by
  obtain ⟨i0, hi, hs0⟩ := Option.map_eq_some_iff.1 hs
  have rt : (typeInfo t).run Tryd.prog w = .ok i0 w := run_typeInfo w hi
  have rs : (sizeOf t).run Tryd.prog w = .ok s w := by simp [sizeOf, rt, hs0]
  have e : (⟨g, off, none⟩ : Addr).add (k * s) = ⟨g, off + k * s, none⟩ := Go.WideShapes.add_plain _ _ _
  have he : Tryd.prog.elem st = t := by simp [Program.elem, hst]
  rw [run_indexAt_slice (h := by rw [he]; exact hst), if_pos (by omega), he, rs, Result.andThen_ok, Int.toNat_natCast, e]
theorem yields_index {k n cap off g s : Nat} {ki : IntKind} (hw : Region.wanted o (yielded ops a.tmps) = true) (ho : o.op = .indexAddr st x y) (hx : a.eval x = .slice (some ⟨g, off, none⟩) n cap) (hy : a.eval y = .int ki (k : Int))
    (hst : Tryd.prog.underlying st = some (.slice t)) (hs : (Tryd.prog.info? t).map (·.size) = some s) (hk : k < n) : YieldsIf Tryd.prog ops S o (.pointer (some ⟨g, off + k * s, none⟩)) a := by
  refine .inl ⟨hw, fun w _ => ?_⟩
  unfold execOp
  rw [ho]
  simp only [hx, hy, Sem.run_bind, run_index w hst hs hk, Result.andThen_ok, Sem.run_pure]
end
end

section
open Go.RowKit
set_option linter.unusedVariables false
section
variable {P : Program} {md : Region.Mode} {ops : Array Oper} {Q : Exit → Act → World → Prop} {S : World → Prop}
theorem anyH_run {i fuel : Nat} {o : Oper} {listed : Array Bool} {a : Act} {w w2 : World} {v : Value} (hi : ops[i]? = some o) (hw : Region.wanted o (yielded ops a.tmps) = true)
    (he : (execOp a.eval o).run P w = .ok (.value v) w2) (hk : S w2 ∧ wpAnyH P md ops Q S fuel (listed.setIfInBounds i true) (a.put o.dst v) w2) :
    wpOp P ops Q i (fun a' w' => S w' ∧ wpAnyH P md ops Q S fuel (listed.setIfInBounds i true) a' w') a w := by
  unfold wpOp
  rw [hi]
  show if Region.wanted o (yielded ops a.tmps) = true then _ else _
  rw [if_pos hw]
  refine .inl ?_
  unfold Oper.wp
  rw [he, Oper.upon_value]
  exact hk
theorem anyH_step {i d fuel : Nat} {o : Oper} {listed : Array Bool} {a : Act} {w w2 : World} {v : Value} (hr : Region.ready md ops listed = [i]) (hi : ops[i]? = some o) (hd : o.dst = d) (hw : Region.wanted o (yielded ops a.tmps) = true)
    (he : (execOp a.eval o).run P w = .ok (.value v) w2) (hk : S w2 ∧ wpAnyH P md ops Q S fuel (listed.setIfInBounds i true) (a.put (some d) v) w2) : wpAnyH P md ops Q S (fuel + 1) listed a w := by
  refine wpAnyH_all hr (by simp) fun j hj => ?_
  obtain rfl : j = i := by simpa using hj
  exact anyH_run hi hw he (by rw [hd]; exact hk)
theorem set_two (l : Array Bool) {i j : Nat} (h : i ≠ j) : (l.setIfInBounds j true).setIfInBounds i true = (l.setIfInBounds i true).setIfInBounds j true := Array.setIfInBounds_comm _ _ (Ne.symm h)
theorem anyH_allocs {i j d e fuel : Nat} {oi oj : Oper} {listed : Array Bool} {a : Act} {w : World} {t u : TypeId} {X Y : Array Value} (hr : Region.ready md ops listed = [i, j]) (hr1 : Region.ready md ops (listed.setIfInBounds i true) = [j]) (hr2 : Region.ready md ops (listed.setIfInBounds j true) = [i])
    (hi : ops[i]? = some oi) (hj : ops[j]? = some oj) (di : oi.dst = some d) (dj : oj.dst = some e) (hij : i ≠ j) (hde : d ≠ e) (gi : oi.guard = none) (gj : oj.guard = none)
    (hei : ∀ (ρ : Operand → Value) (w : World), (execOp ρ oi).run P w = .ok (.value (.pointer (some ⟨w.heap.size, 0, none⟩))) (w.alloc (.cells X t (0, 0))))
    (hej : ∀ (ρ : Operand → Value) (w : World), (execOp ρ oj).run P w = .ok (.value (.pointer (some ⟨w.heap.size, 0, none⟩))) (w.alloc (.cells Y u (0, 0))))
    (hk : ∀ (p q : Nat) (w' : World), p ≠ q → w.heap.size ≤ p → w.heap.size ≤ q → w'.heap.size = w.heap.size + 2 → w'.heap[p]? = some (.cells X t (0, 0)) → w'.heap[q]? = some (.cells Y u (0, 0)) → Below w.heap.size w w' →
      (S (w.alloc (.cells X t (0, 0))) ∧ S (w.alloc (.cells Y u (0, 0)))) ∧ S w' ∧ wpAnyH P md ops Q S fuel ((listed.setIfInBounds i true).setIfInBounds j true) ((a.put (some d) (.pointer (some ⟨p, 0, none⟩))).put (some e) (.pointer (some ⟨q, 0, none⟩))) w') :
    wpAnyH P md ops Q S (fuel + 1 + 1) listed a w := by
  have wi : ∀ ts, Region.wanted oi ts = true := fun ts => by unfold Region.wanted; rw [gi]
  have wj : ∀ ts, Region.wanted oj ts = true := fun ts => by unfold Region.wanted; rw [gj]
  have k1 := hk w.heap.size (w.heap.size + 1) ((w.alloc (.cells X t (0, 0))).alloc (.cells Y u (0, 0))) (by omega) (Nat.le_refl _) (by omega) (by simp) (by rw [Below.heap_alloc _ _ _ (by simp), heap_alloc_new]) (by
    have e : (w.alloc (.cells X t (0, 0))).heap.size = w.heap.size + 1 := by simp
    rw [← e, heap_alloc_new]) (((Below.refl _ _).alloc (Nat.le_refl _) _).alloc (by simp) _)
  have k2 := hk (w.heap.size + 1) w.heap.size ((w.alloc (.cells Y u (0, 0))).alloc (.cells X t (0, 0))) (by omega) (by omega) (Nat.le_refl _) (by simp) (by
    have e : (w.alloc (.cells Y u (0, 0))).heap.size = w.heap.size + 1 := by simp
    rw [← e, heap_alloc_new]) (by rw [Below.heap_alloc _ _ _ (by simp), heap_alloc_new]) (((Below.refl _ _).alloc (Nat.le_refl _) _).alloc (by simp) _)
  refine wpAnyH_all hr (by simp) fun k hkk => ?_
  have : k = i ∨ k = j := by simpa using hkk
  rcases this with rfl | rfl
  · refine anyH_run hi (wi _) (hei _ _) ⟨k1.1.1, ?_⟩
    rw [di]
    refine wpAnyH_all hr1 (by simp) fun k' hk' => ?_
    obtain rfl : k' = j := by simpa using hk'
    refine anyH_run hj (wj _) (hej _ _) ⟨k1.2.1, ?_⟩
    rw [dj]
    have e1 : (w.alloc (.cells X t (0, 0))).heap.size = w.heap.size + 1 := by simp
    rw [e1]
    exact k1.2.2
  · refine anyH_run hj (wj _) (hej _ _) ⟨k1.1.2, ?_⟩
    rw [dj]
    refine wpAnyH_all hr2 (by simp) fun k' hk' => ?_
    obtain rfl : k' = i := by simpa using hk'
    refine anyH_run hi (wi _) (hei _ _) ⟨k2.2.1, ?_⟩
    have e1 : (w.alloc (.cells Y u (0, 0))).heap.size = w.heap.size + 1 := by simp
    rw [di, put_swap (Ne.symm hde), set_two _ hij, e1]
    exact k2.2.2
end
end
end Go.Proofs.YtcifnfffoiiceaaDoor
