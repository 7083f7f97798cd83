/-
  Three loads of a region that draws its order, in whatever order: one way on. No program in sight.
-/
import Derived.Test.YtcifnfffoiiceaaDoorBase
import Derived.Deep.MidRow
import Derived.Orders
import Derived.StillTail
namespace Go.Proofs.YtcifnfffoiiceaaDoor
set_option linter.unusedVariables false

theorem op_load_mid {P : Program} {ops : Array Oper} {Q : Exit → Act → World → Prop} {i : Nat} {o : Oper} {K : Act → World → Prop} {a : Act} {w : World} (hi : ops[i]? = some o) (hgd : o.guard = none) (ty : TypeId) (x : Operand) (ho : o.op = .load ty x)
    (b f : Nat) (hx : a.eval x = .pointer (some ⟨b, f, none⟩)) (cs : List Value) (d : TypeDesc) (hc : w.rangeAt b f cs)
    (hu : P.underlying ty = some d) (hd : d.isRow = true) (hs : (P.info? ty).map (·.size) = some cs.length) (h : K (a.put o.dst (.agg cs.toArray)) w) : wpOp P ops Q i K a w := by
  unfold wpOp
  rw [hi]
  simp only [show Region.wanted o (yielded ops a.tmps) = true by simp [Region.wanted, hgd], if_true]
  exact .inl (wp_load_mid ty x ho b f hx cs d hc hu hd hs h)
theorem wpList_store_midTo {P : Program} {ops : Array Oper} {rest : List Oper} {o : Oper} {a : Act} {w : World} {Q : Exit → Act → World → Prop} (hgd : o.guard = none) (ty : TypeId) (x y : Operand) (ho : o.op = .store ty x y) (hd : o.dst = none)
    (b f : Nat) (cells : Array Value) (hx : a.eval x = .pointer (some ⟨b, f, none⟩)) (hy : a.eval y = .agg cells)
    (ht : w.there b f cells.size) (hi : (P.info? ty).map (·.size) = some cells.size) (h1 : cells.all (·.oneCell') = true)
    (h : wpList P ops Q rest a (w.setCells b f cells.toList)) : wpList P ops Q (o :: rest) a w :=
  wpList_store_mid hgd ty x y ho b f cells hx hy ht hi h1 (by rw [hd]; exact h)
theorem op_reads {P : Program} {ops : Array Oper} {Q : Exit → Act → World → Prop} {i : Nat} {o : Oper} {K : Act → World → Prop} {a : Act} {w : World} (hi : ops[i]? = some o) (hgd : o.guard = none) (v : Value) (hr : (execOp a.eval o).run P w = .ok (.value v) w) (h : K (a.put o.dst v) w) : wpOp P ops Q i K a w := by
  unfold wpOp
  rw [hi]
  simp only [show Region.wanted o (yielded ops a.tmps) = true by simp [Region.wanted, hgd], if_true]
  refine .inl ?_
  unfold Oper.wp
  rw [hr, Oper.upon_value]
  exact h
section
variable {P : Program} {md : Region.Mode} {ops : Array Oper} {Q : Exit → Act → World → Prop} {w : World} {fuel : Nat} {l0 : Array Bool} {a0 : Act} {i1 i2 i3 d1 d2 d3 x1 x2 x3 : Nat} {v1 v2 v3 p1 p2 p3 : Value}
theorem eval_other {a : Act} {d x : Nat} {v p : Value} (h : a.eval (.tmp x) = p) (hne : d ≠ x) : (a.put (some d) v).eval (.tmp x) = p := by
  rw [Act.eval_put (fun d' hd hx => hne (by cases hd; cases hx; rfl)), h]
theorem put_swap {a : Act} {d e : Nat} {u v : Value} (h : d ≠ e) : (a.put (some d) u).put (some e) v = (a.put (some e) v).put (some d) u := Act.put_comm a u v (fun d' hd he => h (by cases hd; cases he; rfl))
theorem three_reads
    (h1 : ∀ (a : Act) (K : Act → World → Prop), a.eval (.tmp x1) = p1 → K (a.put (some d1) v1) w → wpOp P ops Q i1 K a w)
    (h2 : ∀ (a : Act) (K : Act → World → Prop), a.eval (.tmp x2) = p2 → K (a.put (some d2) v2) w → wpOp P ops Q i2 K a w)
    (h3 : ∀ (a : Act) (K : Act → World → Prop), a.eval (.tmp x3) = p3 → K (a.put (some d3) v3) w → wpOp P ops Q i3 K a w)
    (e1 : a0.eval (.tmp x1) = p1) (e2 : a0.eval (.tmp x2) = p2) (e3 : a0.eval (.tmp x3) = p3)
    (n : d1 ≠ x2 ∧ d1 ≠ x3 ∧ d2 ≠ x1 ∧ d2 ≠ x3 ∧ d3 ≠ x1 ∧ d3 ≠ x2 ∧ d1 ≠ d2 ∧ d1 ≠ d3 ∧ d2 ≠ d3 ∧ i1 ≠ i2 ∧ i1 ≠ i3 ∧ i2 ≠ i3)
    (r0 : Region.ready md ops l0 = [i1, i2, i3]) (r1 : Region.ready md ops (l0.setIfInBounds i1 true) = [i2, i3]) (r2 : Region.ready md ops (l0.setIfInBounds i2 true) = [i1, i3]) (r3 : Region.ready md ops (l0.setIfInBounds i3 true) = [i1, i2])
    (r12 : Region.ready md ops ((l0.setIfInBounds i1 true).setIfInBounds i2 true) = [i3]) (r13 : Region.ready md ops ((l0.setIfInBounds i1 true).setIfInBounds i3 true) = [i2]) (r23 : Region.ready md ops ((l0.setIfInBounds i2 true).setIfInBounds i3 true) = [i1])
    (F : wpAny P md ops Q fuel (((l0.setIfInBounds i1 true).setIfInBounds i2 true).setIfInBounds i3 true) (((a0.put (some d1) v1).put (some d2) v2).put (some d3) v3) w) :
    wpAny P md ops Q (fuel + 1 + 1 + 1) l0 a0 w := by
  obtain ⟨n1, n2, n3, n4, n5, n6, n7, n8, n9, m1, m2, m3⟩ := n
  refine wpAny_all r0 (by simp) fun i hi => ?_
  simp only [List.mem_cons, List.not_mem_nil, or_false] at hi
  rcases hi with rfl | rfl | rfl
  · refine h1 _ _ e1 (wpAny_all r1 (by simp) fun i hi => ?_)
    simp only [List.mem_cons, List.not_mem_nil, or_false] at hi
    rcases hi with rfl | rfl
    · refine h2 _ _ (eval_other e2 n1) (wpAny_all r12 (by simp) fun i hi => ?_)
      simp only [List.mem_cons, List.not_mem_nil, or_false] at hi
      subst hi
      exact h3 _ _ (eval_other (eval_other e3 n2) n4) F
    · refine h3 _ _ (eval_other e3 n2) (wpAny_all r13 (by simp) fun i hi => ?_)
      simp only [List.mem_cons, List.not_mem_nil, or_false] at hi
      subst hi
      refine h2 _ _ (eval_other (eval_other e2 n1) n6) ?_
      rw [put_swap n9.symm, Array.setIfInBounds_comm _ _ m3.symm]
      exact F
  · refine h2 _ _ e2 (wpAny_all r2 (by simp) fun i hi => ?_)
    simp only [List.mem_cons, List.not_mem_nil, or_false] at hi
    rcases hi with rfl | rfl
    · refine h1 _ _ (eval_other e1 n3) ?_
      rw [put_swap n7.symm, Array.setIfInBounds_comm _ _ m1.symm]
      refine wpAny_all r12 (by simp) fun i hi => ?_
      simp only [List.mem_cons, List.not_mem_nil, or_false] at hi
      subst hi
      exact h3 _ _ (eval_other (eval_other e3 n2) n4) F
    · refine h3 _ _ (eval_other e3 n4) (wpAny_all r23 (by simp) fun i hi => ?_)
      simp only [List.mem_cons, List.not_mem_nil, or_false] at hi
      subst hi
      refine h1 _ _ (eval_other (eval_other e1 n3) n5) ?_
      rw [put_swap n8.symm, put_swap n7.symm, Array.setIfInBounds_comm _ _ m2.symm, Array.setIfInBounds_comm _ _ m1.symm]
      exact F
  · refine h3 _ _ e3 (wpAny_all r3 (by simp) fun i hi => ?_)
    simp only [List.mem_cons, List.not_mem_nil, or_false] at hi
    rcases hi with rfl | rfl
    · refine h1 _ _ (eval_other e1 n5) ?_
      rw [put_swap n8.symm, Array.setIfInBounds_comm _ _ m2.symm]
      refine wpAny_all r13 (by simp) fun i hi => ?_
      simp only [List.mem_cons, List.not_mem_nil, or_false] at hi
      subst hi
      refine h2 _ _ (eval_other (eval_other e2 n1) n6) ?_
      rw [put_swap n9.symm, Array.setIfInBounds_comm _ _ m3.symm]
      exact F
    · refine h2 _ _ (eval_other e2 n6) ?_
      rw [put_swap n9.symm, Array.setIfInBounds_comm _ _ m3.symm]
      refine wpAny_all r23 (by simp) fun i hi => ?_
      simp only [List.mem_cons, List.not_mem_nil, or_false] at hi
      subst hi
      refine h1 _ _ (eval_other (eval_other e1 n3) n5) ?_
      rw [put_swap n8.symm, put_swap n7.symm, Array.setIfInBounds_comm _ _ m2.symm, Array.setIfInBounds_comm _ _ m1.symm]
      exact F
theorem any_take {i d : Nat} {oi : Oper} {v : Value} {listed : Array Bool} {a : Act} (hi : ops[i]? = some oi) (hd : oi.dst = some d)
    (hs : Region.noSelect ops = true) (hf : Region.free md ops listed i = true) (hr : (Region.ready md ops listed).contains i = true)
    (hQ : ∀ c a w, Q (.panic c) (a.put (some d) v) w → Q (.panic c) a w) (hy : Yields P ops oi v a)
    (h : wpAny P md ops Q fuel (listed.setIfInBounds i true) (a.put (some d) v) w) : wpAny P md ops Q (fuel + 1) listed a w :=
  wpAny_take hi hs hf hr (by rw [hd]; exact hQ) hy (by rw [hd]; exact h)
theorem any_seq4 {k : Nat} {listed : Array Bool} {a : Act} {o1 o2 o3 o4 : Oper} (h1 : ops[k]? = some o1) (h2 : ops[k + 1]? = some o2) (h3 : ops[k + 2]? = some o3) (h4 : ops[k + 3]? = some o4) (h5 : ops.size = k + 4)
    (hB : Region.seqB md ops 4 k listed = true) (h : wpList P ops Q [o1, o2, o3, o4] a w) : wpAny P md ops Q 4 listed a w :=
  wpAny_of_seq [o1, o2, o3, o4] k listed a w (fun j => by
    match j with
    | 0 => exact h1.symm
    | 1 => exact h2.symm
    | 2 => exact h3.symm
    | 3 => exact h4.symm
    | j + 4 => rw [Array.getElem?_eq_none (by omega)]; rfl) hB h
end
end Go.Proofs.YtcifnfffoiiceaaDoor
