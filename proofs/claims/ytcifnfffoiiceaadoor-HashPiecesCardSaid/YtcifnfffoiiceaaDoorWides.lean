/-
  Rows of the call's own whose elements are lists of bytes of one length (several cells an element). No walk in sight.
  A list of one element of several cells, made by its parts. No walk in sight.
  'append' to a row of the call's own: what the row held before still stands where it stood. No walk in sight.
-/
import Derived.Test.YtcifnfffoiiceaaDoorParts
import Derived.Test.YtcifnfffoiiceaaDoorAwakeH
import Derived.Test.YtcifnfffoiiceaaDoorGrow
namespace Go.Proofs.YtcifnfffoiiceaaDoor
section
open Go.RowKit
set_option linter.unusedVariables false

theorem wide_piece {s : Nat} : ∀ {Ls : List (List Nat)} {i : Nat} {L : List Nat}, (∀ K ∈ Ls, K.length = s) → Ls[i]? = some L → ∀ {j : Nat}, j < s → Ls.flatten[i * s + j]? = L[j]?
  | [], i, L, _, h, _, _ => by simp at h
  | K :: Ls, 0, L, hs, h, j, hj => by
    obtain rfl : K = L := by simpa using h
    have := hs K (by simp)
    rw [List.flatten_cons, Nat.zero_mul, Nat.zero_add, List.getElem?_append_left (by omega)]
  | K :: Ls, i + 1, L, hs, h, j, hj => by
    have hk := hs K (by simp)
    rw [List.getElem?_cons_succ] at h
    rw [List.flatten_cons, List.getElem?_append_right (by rw [hk, Nat.succ_mul]; omega), hk, show (i + 1) * s + j - s = i * s + j by rw [Nat.succ_mul]; omega]
    exact wide_piece (fun M hM => hs M (by simp [hM])) h hj
theorem wide_len {s : Nat} : ∀ {Ls : List (List Nat)}, (∀ K ∈ Ls, K.length = s) → Ls.flatten.length = Ls.length * s
  | [], _ => by simp
  | K :: Ls, h => by
    rw [List.flatten_cons, List.length_append, h K (by simp), wide_len (fun M hM => h M (by simp [hM])), List.length_cons, Nat.succ_mul]
    omega
/-- A row of the call's own, s cells an element. -/
def WideAt (Z : Nat) (t : TypeId) (s : Nat) (w : World) (v : Value) (Ls : List (List Nat)) : Prop :=
  w.ownsRow Z t s v Ls.length (Ls.flatten.map u8c) ∧ ∀ L ∈ Ls, L.length = s
section
variable {Z s : Nat} {t : TypeId} {w w' : World} {v : Value} {Ls : List (List Nat)}
theorem WideAt.nil : WideAt Z t s w (.slice none 0 0) [] := ⟨World.ownsRow_nil _ _ _ _, fun L hL => by cases hL⟩
theorem WideAt.form (h : WideAt Z t s w v Ls) : ∃ a cap, v = .slice a Ls.length cap ∧ Ls.length ≤ cap ∧ cap ≤ maxLen ∧
    ∀ (i : Nat) (L : List Nat), Ls[i]? = some L → ∃ g, a = some ⟨g, 0, none⟩ ∧ Z ≤ g ∧ g < w.heap.size ∧ w.rangeAt g (i * s) (L.map u8c) := by
  obtain ⟨⟨hl, h1⟩, h2⟩ := h
  rcases h1 with ⟨rfl, h0⟩ | ⟨g, cap, cur, rfl, hg, hh, hc, hm, hs, ht⟩
  · refine ⟨none, 0, by rw [h0], by omega, Nat.zero_le _, fun i L hL => ?_⟩
    have := (List.getElem?_eq_some_iff.1 hL).1
    omega
  · refine ⟨_, cap, rfl, hc, hm, fun i L hL => ⟨g, rfl, hg, lt_of_heap hh, fun j u hj => ?_⟩⟩
    have hjl : j < s := by
      have := (List.getElem?_eq_some_iff.1 hj).1
      rw [List.length_map, h2 L (List.mem_of_getElem? hL)] at this
      exact this
    have hp := wide_piece h2 hL hjl
    have hjL : (Ls.flatten.map u8c)[i * s + j]? = some u := by
      rw [List.getElem?_map, hp, ← List.getElem?_map]
      exact hj
    have own : w.ownsRow Z t s (.slice (some ⟨g, 0, none⟩) Ls.length cap) Ls.length (Ls.flatten.map u8c) := ⟨hl, .inr ⟨g, cap, cur, rfl, hg, hh, hc, hm, hs, ht⟩⟩
    have := own.cells (g := g) rfl (i * s + j) u hjL
    rwa [show (⟨g, 0, none⟩ : Addr).add (i * s + j) = ⟨g, i * s + j, none⟩ by unfold Addr.add; split <;> simp_all] at this
theorem WideAt.below (h : WideAt Z t s w v Ls) (q : Below w.heap.size w w') : WideAt Z t s w' v Ls :=
  ⟨h.1.kept (row := none) ⟨q.os, q.tape, q.output, q.size, fun k hk _ => q.block k hk⟩ (by cases h.1.2 with | inl h => exact .inl (by rw [h.1]; rfl) | inr h => obtain ⟨g, c, cur, e, _⟩ := h; exact .inr (by rw [e]; intro h; cases h)), h.2⟩
theorem WideAt.low {Z' : Nat} (h : WideAt Z t s w v Ls) (hZ : Z' ≤ Z) : WideAt Z' t s w v Ls :=
  ⟨⟨h.1.1, h.1.2.imp id fun ⟨g', c', cur, h1, h2, h3⟩ => ⟨g', c', cur, h1, Nat.le_trans hZ h2, h3⟩⟩, h.2⟩
theorem WideAt.touch {b : Nat} (h : WideAt Z t s w v Ls) (q : TouchB b w w') (hb : b < Z) : WideAt Z t s w' v Ls :=
  ⟨h.1.kept (row := some b) ⟨q.os, q.tape, q.output, q.size, fun k hk hne => q.block k hk (fun e => hne (by rw [e]))⟩ (.inr (fun e => by have := (h.1.lt b e).1; omega)), h.2⟩
/-- One element more. -/
theorem app_wide {ops : Array Oper} {rest : List Oper} {o : Oper} {a : Act} {Q : Exit → Act → World → Prop} (st : TypeId) (z : Value) (bytes : Nat) (s0 : 0 < s) (hst : Tryd.prog.underlying st = some (.slice t))
    (info : (Tryd.prog.info? t).map (fun i => (i.zero, i.size, i.bytes)) = some (some z, s, bytes)) (hz : z.cells.size = s) (hby : bytes ≤ 1000) (x1 x2 : Operand) (hgd : o.guard = none)
    (ho : o.op = .call { callee := .builtin .append, args := #[x1, x2], argTypes := #[st, st] })
    (hs : a.eval x1 = v) (hP : WideAt Z t s w v Ls) (b : Nat) (L : List Nat) {t' : TypeId} (hx : a.eval x2 = .slice (some ⟨b, 0, none⟩) 1 1) (hb : w.heap[b]? = some (.cells (cellsOf' u8c L) t' (0, 0)))
    (hL : L.length = s) (hZ : Z ≤ w.heap.size) (hl : Ls.length ≤ 1000000)
    (h : ∀ v' w', WideAt Z t s w' v' (Ls ++ [L]) → Below Z w w' → wpList Tryd.prog ops Q rest (a.put o.dst v') w') : wpList Tryd.prog ops Q (o :: rest) a w := by
  obtain ⟨i0, hi, hz0, hz1, hz2⟩ := info_parts info
  refine wpList_append_own w hgd x1 x2 st ho Z t i0 z s bytes hst hi hz0 hz1 hz2 hz s0 v Ls.length _ hs hP.1 ⟨b, 0, none⟩ 1 1 (L.map u8c) hx (by rw [List.length_map, hL, Nat.one_mul]) ?_ ?_ (by unfold maxLen; omega) ?_ hZ fun v' w' own' hg _ => ?_
  · intro j u hj
    have e : (⟨b, 0, none⟩ : Addr).add j = ⟨b, 0 + j, none⟩ := Go.WideShapes.add_plain _ _ _
    rw [e, Nat.zero_add]
    obtain ⟨c, hc, rfl⟩ := Option.map_eq_some_iff.1 (by rw [List.getElem?_map] at hj; exact hj)
    exact co_cell hb hc
  · intro u hu
    obtain ⟨c, _, rfl⟩ := List.mem_map.1 hu
    rfl
  · have : (Ls.length + 1) * bytes ≤ 1000001 * 1000 := Nat.mul_le_mul (by omega) hby
    omega
  · have q : Below Z w w' := (Below.refl Z w).grown hg hZ (fun k hk => (hP.1.lt k hk).1)
    refine h v' w' ⟨by rw [List.length_append, List.flatten_append, List.map_append]; simpa using own', fun M hM => ?_⟩ q
    rcases List.mem_append.1 hM with hM | hM
    · exact hP.2 M hM
    · rw [List.mem_singleton] at hM; rw [hM]; exact hL
end
theorem calls_args {P : Program} {f : FuncId} {x y : Array Value} {w : World} {Q : Ending → World → Prop} (h : x = y) (hc : Calls P f y w Q) : Calls P f x w Q := h ▸ hc
end

section
open Go.RowKit
set_option linter.unusedVariables false

theorem fill_list : ∀ (l : List Value) (k : Nat) (Z : Array Value), k + l.length = Z.size → (l.zipIdx k).foldl (fun cs x => cs.setIfInBounds (0 + x.2) x.1) Z = (Z.toList.take k ++ l).toArray
  | [], k, Z, h => by
    simp at h
    simp only [List.zipIdx_nil, List.foldl_nil, List.append_nil]
    rw [List.take_of_length_le (by simp; omega)]
  | c :: l, k, Z, h => by
    simp only [List.length_cons] at h
    rw [List.zipIdx_cons, List.foldl_cons, fill_list l (k + 1) _ (by simp; omega)]
    congr 1
    rw [Nat.zero_add]
    have e : (Z.setIfInBounds k c).toList.take (k + 1) = Z.toList.take k ++ [c] := by
      rw [Array.toList_setIfInBounds, List.take_add_one, List.getElem?_set_self (by simp; omega), List.take_set_of_le (Nat.le_refl _)]
      rfl
    rw [e]
    simp
theorem fill_all (A Z : Array Value) (h : Z.size = A.size) : A.zipIdx.foldl (fun cs x => cs.setIfInBounds (0 + x.2) x.1) Z = A := by
  rw [← Array.foldl_toList, Array.toList_zipIdx, fill_list _ 0 _ (by simp; omega)]
  simp
theorem run_build1 (w : World) {st t : TypeId} {s bytes : Nat} {z : Value} (s0 : 0 < s) (s1 : s ≤ 1000) (hst : Tryd.prog.underlying st = some (.slice t))
    (info : (Tryd.prog.info? t).map (fun i => (i.zero, i.size, i.bytes)) = some (some z, s, bytes)) (hz : z.cells.size = s) {C : List Nat} (hC : C.length = s) :
    (Instr.buildSlice st 1 #[(0, .agg (cellsOf' u8c C))]).run Tryd.prog w = .ok (.slice (some ⟨w.heap.size, 0, none⟩) 1 1) (w.alloc (.cells (cellsOf' u8c C) t (0, 0))) := by
  obtain ⟨i0, hi, hz0, hz1, hz2⟩ := info_parts info
  unfold Instr.buildSlice
  have c64 : (Value.agg (cellsOf' u8c C)).cells.size = s := by show (cellsOf' u8c C).size = s; rw [co_size, hC]
  have cc : (Value.agg (cellsOf' u8c C)).cells = cellsOf' u8c C := rfl
  have sz : ¬ s = 0 := by omega
  have sm : ¬ 16777216 < s := by omega
  have rt : (typeInfo t).run Tryd.prog w = .ok i0 w := run_typeInfo w hi
  have rz : (zeroValue t).run Tryd.prog w = .ok z w := by simp [zeroValue, rt, hz0]
  have rs : (sizeOf t).run Tryd.prog w = .ok s w := by simp [sizeOf, rt, hz1]
  have ef : Instr.fill (fun i => some (i * s, s)) (Array.map (fun x => z.cells[x % z.cells.size]!) (Array.range (1 * s))) [(0, Value.agg (cellsOf' u8c C))] = some (cellsOf' u8c C) := by
    have e4 : ((Value.agg (cellsOf' u8c C)).cells.size ≠ s || 0 * s + (Value.agg (cellsOf' u8c C)).cells.size > (Array.map (fun x => z.cells[x % z.cells.size]!) (Array.range (1 * s))).size) = false := by
      rw [c64]
      simp
    unfold Instr.fill
    simp only [e4, Bool.false_eq_true, if_false]
    rw [Nat.zero_mul]
    unfold Instr.fill
    congr 1
    exact fill_all _ _ (by show _ = (cellsOf' u8c C).size; rw [co_size, hC]; simp)
  rw [Sem.run_bind, run_underlying hst, Result.andThen_ok]
  simp only [Sem.run_bind, rs, Result.andThen_ok]
  rw [if_neg (by omega), if_neg (by omega)]
  simp only [Sem.run_bind, rz, Result.andThen_ok, Sem.run_pure, ef]
  rfl
/-- The step. -/
theorem wpList_build1 {ops : Array Oper} {rest : List Oper} {o : Oper} {a : Act} {w : World} {Q : Exit → Act → World → Prop} {st t : TypeId} {s bytes : Nat} {z : Value} (s0 : 0 < s) (s1 : s ≤ 1000) (hst : Tryd.prog.underlying st = some (.slice t))
    (info : (Tryd.prog.info? t).map (fun i => (i.zero, i.size, i.bytes)) = some (some z, s, bytes)) (hz : z.cells.size = s) {C : List Nat} (hC : C.length = s) (hgd : o.guard = none) (x : Operand) (ho : o.op = .buildSlice st 1 #[(0, x)]) (hx : a.eval x = .agg (cellsOf' u8c C))
    (h : wpList Tryd.prog ops Q rest (a.put o.dst (.slice (some ⟨w.heap.size, 0, none⟩) 1 1)) (w.alloc (.cells (cellsOf' u8c C) t (0, 0)))) : wpList Tryd.prog ops Q (o :: rest) a w := by
  refine wpList_plain hgd fun K hK => ?_
  unfold Oper.wp execOp
  rw [ho]
  have := run_build1 w s0 s1 hst info hz hC
  simp only [List.map_toArray, List.map_cons, List.map_nil, hx, Sem.run_bind, this, Result.andThen_ok, Sem.run_pure, Oper.upon_value]
  exact hK _ _ h
end

section
open Go.RowKit
set_option linter.unusedVariables false
section
variable {P : Program} (w : World)
theorem run_append_own3 (base : Nat) (t ty e : TypeId) (i : TypeInfo) (z : Value) (size bytes : Nat) (ht : P.underlying t = some (.slice e)) (hi : P.info? e = some i) (hz : i.zero = some z)
    (hsize : i.size = size) (hby : i.bytes = bytes) (hzs : z.cells.size = size) (hsz : 0 < size)
    (v : Value) (n : Nat) (xs : List Value) (hown : w.ownsRow base e size v n xs)
    (a : Addr) (m c : Nat) (news : List Value) (hl : news.length = m * size) (hnews : ∀ j u, news[j]? = some u → w.cell? (a.add j) = some u) (h1 : ∀ u ∈ news, u.oneCell' = true)
    (h63 : n + m ≤ maxLen) (hbytes : (n + m) * bytes ≤ 140737488355328) (hbase : base ≤ w.heap.size) :
    ∃ v' w', (Builtin.append_ #[t, t] ty #[v, .slice (some a) m c]).run P w = .ok v' w' ∧ w'.ownsRow base e size v' (n + m) (xs ++ news) ∧ w.grownBy w' v.ownBlock ∧
      ∀ g, v.ownBlock = some g → ∀ j u, xs[j]? = some u → w'.cell? ((⟨g, 0, none⟩ : Addr).add j) = some u := by
  obtain ⟨v', w', hr, h2, h3, h4⟩ := run_append_own (P := P) w base t ty e i z size bytes ht hi hz hsize hby hzs hsz v n xs hown a m c news hl hnews h1 h63 hbytes hbase
  refine ⟨v', w', hr, h2, h3, ?_⟩
  have hsmall : n + m ≤ 9223372036854775807 := by simp only [maxLen] at h63; omega
  subst hsize
  subst hby
  rcases hown.2 with ⟨rfl, rfl⟩ | ⟨g, cap, cur, rfl, hbg, hg, hnc, hcm, hcs, htake⟩
  · intro g hg
    cases hg
  · by_cases hroom : n + m ≤ cap
    · have hfit : n * i.size + news.length ≤ cur.size := by rw [hl, hcs, ← Nat.add_mul]; exact Nat.mul_le_mul_right _ hroom
      have hr2 := run_append_room (P := P) w t ty e i ht hi g n cap cur hg a m c news hl hnews h1 hroom hfit
      rw [hr] at hr2
      injection hr2 with e1 e2
      subst e1
      intro g' hg' j u hj
      cases hg'
      exact h2.cells (g := g) rfl j u (by rw [List.getElem?_append_left (List.getElem?_eq_some_iff.1 hj).1]; exact hj)
    · have holds : ∀ j u, xs[j]? = some u → w.cell? ((⟨g, 0, none⟩ : Addr).add j) = some u := hown.cells (g := g) rfl
      have hr2 := run_append_grow (P := P) w t ty e i z ht hi hz ⟨g, 0, none⟩ n cap xs hown.1 holds a m c news hl hnews (by omega) (by omega) (growslice_fits (by omega) hbytes)
      rw [hr] at hr2
      injection hr2 with e1 e2
      subst e2
      intro g' hg' j u hj
      cases hg'
      exact Go.Lib.cell?_alloc_some _ (by simpa using holds j u hj)
theorem wpList_append_own3 {ops : Array Oper} {rest : List Oper} {o : Oper} {a : Act} {Q : Exit → Act → World → Prop} (hgd : o.guard = none) (s x : Operand) (t : TypeId)
    (ho : o.op = .call { callee := .builtin .append, args := #[s, x], argTypes := #[t, t] })
    (base : Nat) (e : TypeId) (i : TypeInfo) (z : Value) (size bytes : Nat) (ht : P.underlying t = some (.slice e)) (hi : P.info? e = some i) (hz : i.zero = some z)
    (hsize : i.size = size) (hby : i.bytes = bytes) (hzs : z.cells.size = size) (hsz : 0 < size)
    (v : Value) (n : Nat) (xs : List Value) (hs : a.eval s = v) (hown : w.ownsRow base e size v n xs)
    (ad : Addr) (m c : Nat) (news : List Value) (hx : a.eval x = .slice (some ad) m c) (hl : news.length = m * size) (hnews : ∀ j u, news[j]? = some u → w.cell? (ad.add j) = some u) (h1 : ∀ u ∈ news, u.oneCell' = true)
    (h63 : n + m ≤ maxLen) (hbytes : (n + m) * bytes ≤ 140737488355328) (hbase : base ≤ w.heap.size)
    (h : ∀ v' w', w'.ownsRow base e size v' (n + m) (xs ++ news) → w.grownBy w' v.ownBlock → (∀ g, v.ownBlock = some g → ∀ j u, xs[j]? = some u → w'.cell? ((⟨g, 0, none⟩ : Addr).add j) = some u) → wpList P ops Q rest (a.put o.dst v') w') : wpList P ops Q (o :: rest) a w :=
  wpList_plain hgd fun _ hK => by
    obtain ⟨v', w', hr, h2, h3, h4⟩ := run_append_own3 (P := P) w base t o.type e i z size bytes ht hi hz hsize hby hzs hsz v n xs hown ad m c news hl hnews h1 h63 hbytes hbase
    unfold Oper.wp execOp
    simp only [ho, resolve, invoke, builtin, Sem.run_bind, Sem.run_pure, Result.andThen_ok, List.map_toArray, List.map_cons, List.map_nil, hs, hx, hr]
    exact hK _ _ (h v' w' h2 h3 h4)
end
section
variable {Z s : Nat} {t : TypeId} {w w' : World} {v : Value} {Ls : List (List Nat)}
/-- One element more; the old ones stand. -/
theorem app_wide3 {ops : Array Oper} {rest : List Oper} {o : Oper} {a : Act} {Q : Exit → Act → World → Prop} (st : TypeId) (z : Value) (bytes : Nat) (s0 : 0 < s) (hst : Tryd.prog.underlying st = some (.slice t))
    (info : (Tryd.prog.info? t).map (fun i => (i.zero, i.size, i.bytes)) = some (some z, s, bytes)) (hz : z.cells.size = s) (hby : bytes ≤ 1000) (x1 x2 : Operand) (hgd : o.guard = none)
    (ho : o.op = .call { callee := .builtin .append, args := #[x1, x2], argTypes := #[st, st] })
    (hs : a.eval x1 = v) (hP : WideAt Z t s w v Ls) (b : Nat) (L : List Nat) {t' : TypeId} (hx : a.eval x2 = .slice (some ⟨b, 0, none⟩) 1 1) (hb : w.heap[b]? = some (.cells (cellsOf' u8c L) t' (0, 0)))
    (hL : L.length = s) (hZ : Z ≤ w.heap.size) (hl : Ls.length ≤ 1000000)
    (h : ∀ v' w', WideAt Z t s w' v' (Ls ++ [L]) → Below Z w w' → (∀ g, v.ownBlock = some g → ∀ i K, Ls[i]? = some K → w'.rangeAt g (i * s) (K.map u8c)) → wpList Tryd.prog ops Q rest (a.put o.dst v') w') : wpList Tryd.prog ops Q (o :: rest) a w := by
  obtain ⟨i0, hi, hz0, hz1, hz2⟩ := info_parts info
  refine wpList_append_own3 w hgd x1 x2 st ho Z t i0 z s bytes hst hi hz0 hz1 hz2 hz s0 v Ls.length _ hs hP.1 ⟨b, 0, none⟩ 1 1 (L.map u8c) hx (by rw [List.length_map, hL, Nat.one_mul]) ?_ ?_ (by unfold maxLen; omega) ?_ hZ fun v' w' own' hg hk => ?_
  · intro j u hj
    have e : (⟨b, 0, none⟩ : Addr).add j = ⟨b, 0 + j, none⟩ := Go.WideShapes.add_plain _ _ _
    rw [e, Nat.zero_add]
    obtain ⟨c, hc, rfl⟩ := Option.map_eq_some_iff.1 (by rw [List.getElem?_map] at hj; exact hj)
    exact co_cell hb hc
  · intro u hu
    obtain ⟨c, _, rfl⟩ := List.mem_map.1 hu
    rfl
  · have : (Ls.length + 1) * bytes ≤ 1000001 * 1000 := Nat.mul_le_mul (by omega) hby
    omega
  · have q : Below Z w w' := (Below.refl Z w).grown hg hZ (fun k hk => (hP.1.lt k hk).1)
    refine h v' w' ⟨by rw [List.length_append, List.flatten_append, List.map_append]; simpa using own', fun M hM => ?_⟩ q fun g hg i K hK j u hj => ?_
    · rcases List.mem_append.1 hM with hM | hM
      · exact hP.2 M hM
      · rw [List.mem_singleton] at hM; rw [hM]; exact hL
    · have hjl : j < s := by
        have := (List.getElem?_eq_some_iff.1 hj).1
        rw [List.length_map, hP.2 K (List.mem_of_getElem? hK)] at this
        exact this
      have hp := wide_piece hP.2 hK hjl
      have := hk g hg (i * s + j) u (by rw [List.getElem?_map, hp, ← List.getElem?_map]; exact hj)
      rwa [show (⟨g, 0, none⟩ : Addr).add (i * s + j) = ⟨g, i * s + j, none⟩ by unfold Addr.add; split <;> simp_all] at this
end
end
end Go.Proofs.YtcifnfffoiiceaaDoor
