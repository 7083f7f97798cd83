/-
  Hashers in a row of the call's own and their texts in another. No walk in sight, but 'append' of a pointer.
-/
import Derived.Test.YtcifnfffoiiceaaDoorTwins
import Derived.Test.YtcifnfffoiiceaaDoorHSum
namespace Go.Proofs.YtcifnfffoiiceaaDoor
open Go.RowKit
set_option linter.unusedVariables false

theorem RowAt.put2 {B g n cp k y : Nat} {w : World} {L : List Nat} (h : RowAt B w (.slice (some ⟨g, 0, none⟩) n cp) L) (hk : k < L.length) : RowAt B (w.setCell ⟨g, k, none⟩ (.int .u8 (y : Int))) (.slice (some ⟨g, 0, none⟩) n cp) (L.set k y) := by
  obtain ⟨g', cap, e, own⟩ := h
  cases e
  obtain ⟨h1, h2⟩ := own.stored k (.int .u8 (y : Int))
  refine ⟨g, cp, by rw [List.length_set], ?_⟩
  have e : (u8s (L ++ [171])).set k (.int .u8 (y : Int)) = u8s (L.set k y ++ [171]) := by
    rw [← List.set_append_left _ _ hk]
    simp [u8s, List.map_set]
  rw [e] at h1
  rw [List.length_set]
  exact h1
theorem RowAt.cell2 {B g n cp k c : Nat} {w : World} {L : List Nat} (h : RowAt B w (.slice (some ⟨g, 0, none⟩) n cp) L) (hk : L[k]? = some c) : w.cell? ⟨g, k, none⟩ = some (.int .u8 (c : Int)) ∧ w.frozen? ⟨g, k, none⟩ = false := by
  obtain ⟨g', cap, e, own⟩ := h
  cases e
  exact ⟨own_cell own (by rw [u8s_get, List.getElem?_append_left (List.getElem?_eq_some_iff.1 hk).1, hk]; rfl), own.frozenAt k⟩
/-- A slice of acts, that is only read. -/
def ActsIn (w : World) (v : Value) (As : List (Int × List Nat)) : Prop :=
  ∃ (a : Option Addr) (cap : Nat), v = .slice a As.length cap ∧ As.length ≤ cap ∧ cap ≤ maxLen ∧
    ∀ (j : Nat) (m : Int) (L : List Nat), As[j]? = some (m, L) → ∃ b off x, a = some ⟨b, off, none⟩ ∧ w.cell? ⟨b, off + j * 2, none⟩ = some (.int .i64 m) ∧ w.cell? ⟨b, off + j * 2 + 1, none⟩ = some x ∧ SliceOf u8c w x L
theorem ActsIn.below {w w' : World} {v : Value} {As : List (Int × List Nat)} (h : ActsIn w v As) (q : Below w.heap.size w w') : ActsIn w' v As := by
  obtain ⟨a, cap, e, h1, h2, h3⟩ := h
  refine ⟨a, cap, e, h1, h2, fun j m L hj => ?_⟩
  obtain ⟨b, off, x, ea, c1, c2, s⟩ := h3 j m L hj
  have hb := World.block_lt_of_cell? w _ c1
  exact ⟨b, off, x, ea, (q.cell (p := ⟨b, off + j * 2, none⟩) hb).trans c1, (q.cell (p := ⟨b, off + j * 2 + 1, none⟩) hb).trans c2, s.below q⟩
/-- A pointer to a hasher. -/
def ptr (g : Nat) : Value := .pointer (some ⟨g, 0, none⟩)
structure Pcs (Z : Nat) (wd : Int) (w : World) (l x : Value) (gs : List Nat) (vs : List Value) (Hs Ts : List (List Nat)) : Prop where
  rl : w.ownsRow Z 39 1 l gs.length (gs.map ptr)
  rt : RowsOwn Z w x vs Ts
  lh : Hs.length = gs.length
  lt : vs.length = gs.length
  hs : ∀ (j g : Nat) (T : List Nat), gs[j]? = some g → Hs[j]? = some T → HashAt w g wd T ∧ Z ≤ g
  ap : ∀ i j g : Nat, i < j → gs[i]? = some g → gs[j]? ≠ some g
  gl : ∀ g ∈ gs, l.ownBlock ≠ some g ∧ x.ownBlock ≠ some g ∧ ∀ v ∈ vs, v.ownBlock ≠ some g
  lx : ∀ b, l.ownBlock = some b → x.ownBlock ≠ some b ∧ ∀ v ∈ vs, v.ownBlock ≠ some b
section
variable {Z : Nat} {wd : Int} {w w' : World} {l x : Value} {gs : List Nat} {vs : List Value} {Hs Ts : List (List Nat)}
theorem Pcs.at (P : Pcs Z wd w l x gs vs Hs Ts) {g : Nat} (hg : g ∈ gs) : ∃ T : List Nat, HashAt w g wd T ∧ Z ≤ g := by
  obtain ⟨j, hj⟩ := List.mem_iff_getElem?.1 hg
  have hl := (List.getElem?_eq_some_iff.1 hj).1
  exact ⟨_, P.hs j g _ hj (List.getElem?_eq_getElem (by rw [P.lh]; exact hl))⟩
theorem Pcs.keep (P : Pcs Z wd w l x gs vs Hs Ts) (hs : w.heap.size ≤ w'.heap.size) (hl : ∀ b, l.ownBlock = some b → w'.heap[b]? = w.heap[b]?) (hx : ∀ b, x.ownBlock = some b → w'.heap[b]? = w.heap[b]?)
    (hv : ∀ v ∈ vs, ∀ b, v.ownBlock = some b → w'.heap[b]? = w.heap[b]?) (hg : ∀ g ∈ gs, w'.heap[g]? = w.heap[g]?) : Pcs Z wd w' l x gs vs Hs Ts :=
  ⟨ownsRow_keep P.rl hl, P.rt.keepB hs hx hv, P.lh, P.lt, fun j g T hj hT => ⟨(P.hs j g T hj hT).1.of_heap (hg g (List.mem_of_getElem? hj)), (P.hs j g T hj hT).2⟩, P.ap, P.gl, P.lx⟩
theorem Pcs.below (P : Pcs Z wd w l x gs vs Hs Ts) (q : Below w.heap.size w w') : Pcs Z wd w' l x gs vs Hs Ts :=
  P.keep q.size (fun b e => q.block b (P.rl.lt b e).2) (fun b e => q.block b (P.rt.1.lt b e).2) (fun v hv b e => q.block b (P.rt.mem hv b e).1) fun g hg => by
    obtain ⟨T, h, _⟩ := P.at hg
    exact q.block g h.lt
theorem Pcs.write (P : Pcs Z wd w l x gs vs Hs Ts) {j g : Nat} {T : List Nat} (t : TouchB g w w') (hg : gs[j]? = some g) (H : HashAt w' g wd T) : Pcs Z wd w' l x gs vs (Hs.set j T) Ts := by
  have gm := List.mem_of_getElem? hg
  obtain ⟨g1, g2, g3⟩ := P.gl g gm
  refine ⟨ownsRow_keep P.rl fun b e => t.block b (P.rl.lt b e).2 (fun e2 => g1 (by rw [e, e2])), P.rt.keepB t.size (fun b e => t.block b (P.rt.1.lt b e).2 (fun e2 => g2 (by rw [e, e2]))) (fun v hv b e => t.block b (P.rt.mem hv b e).1 (fun e2 => g3 v hv (by rw [e, e2]))), by rw [List.length_set]; exact P.lh, P.lt, fun i k K hi hK => ?_, P.ap, P.gl, P.lx⟩
  by_cases hij : j = i
  · subst hij
    rw [hg] at hi
    cases hi
    rw [List.getElem?_set_self (by have := (List.getElem?_eq_some_iff.1 hg).1; have := P.lh; omega)] at hK
    cases hK
    obtain ⟨_, _, hz⟩ := P.at gm
    exact ⟨H, hz⟩
  · rw [List.getElem?_set_ne hij] at hK
    obtain ⟨h1, h2⟩ := P.hs i k K hi hK
    refine ⟨h1.of_heap (t.block k h1.lt fun e => ?_), h2⟩
    subst e
    rcases Nat.lt_or_ge i j with h | h
    · exact P.ap i j k h hi hg
    · exact P.ap j i k (by omega) hg hi
/-- A new text for the j-th. -/
theorem Pcs.text {xb n c : Nat} (P : Pcs Z wd w l (.slice (some ⟨xb, 0, none⟩) n c) gs vs Hs Ts) {j : Nat} {v : Value} {L : List Nat} (hj : j < gs.length) (S : SliceOf u8c w v L)
    (hv : ∀ b, v.ownBlock = some b → b < w.heap.size ∧ b ≠ xb ∧ l.ownBlock ≠ some b ∧ b ∉ gs) : Pcs Z wd (w.setCell ⟨xb, j, none⟩ v) l (.slice (some ⟨xb, 0, none⟩) n c) gs (vs.set j v) Hs (Ts.set j L) ∧ Z ≤ xb := by
  have hlv := P.lt
  obtain ⟨en, eg⟩ : n = vs.length ∧ Z ≤ xb := by
    rcases P.rt.1.2 with ⟨e, _⟩ | ⟨g, cap, cur, e, h1, _⟩
    · cases e
    · cases e; exact ⟨rfl, h1⟩
  subst en
  have hs : (w.setCell ⟨xb, j, none⟩ v).heap.size = w.heap.size := by simp [World.setCell]
  have other : ∀ b, b ≠ xb → (w.setCell ⟨xb, j, none⟩ v).heap[b]? = w.heap[b]? := fun b h => Below.heap_setCell _ _ _ _ h
  have mem : ∀ u ∈ vs.set j v, u ∈ vs ∨ u = v := fun u hu => List.mem_or_eq_of_mem_set hu
  refine ⟨⟨ownsRow_keep P.rl fun b e => other b fun e2 => (P.lx b e).1 (by rw [e2]; rfl), ⟨?_, by rw [List.length_set, List.length_set]; exact P.rt.2.1, fun i u M hu hM => ?_⟩, P.lh, by rw [List.length_set]; exact P.lt, fun i g T hg hT => ?_, P.ap, fun g hg => ⟨(P.gl g hg).1, (P.gl g hg).2.1, fun u hu => ?_⟩, fun b e => ⟨(P.lx b e).1, fun u hu => ?_⟩⟩, eg⟩
  · have := (P.rt.1.stored j v).1
    rw [List.length_set]
    exact this
  · by_cases hij : j = i
    · subst hij
      rw [List.getElem?_set_self (by omega)] at hu
      rw [List.getElem?_set_self (by have := P.rt.2.1; omega)] at hM
      cases hu
      cases hM
      refine ⟨S.keepB fun b e => other b (hv b e).2.1, fun b e => ⟨by rw [hs]; exact (hv b e).1, fun e2 => (hv b e).2.1 (Option.some.inj e2).symm⟩⟩
    · rw [List.getElem?_set_ne hij] at hu hM
      obtain ⟨h1, h2⟩ := P.rt.2.2 i u M hu hM
      exact ⟨h1.keepB fun b e => other b fun e2 => (h2 b e).2 (by rw [e2]; rfl), fun b e => ⟨by rw [hs]; exact (h2 b e).1, (h2 b e).2⟩⟩
  · obtain ⟨h1, h2⟩ := P.hs i g T hg hT
    exact ⟨h1.of_heap (other g fun e => (P.gl g (List.mem_of_getElem? hg)).2.1 (by rw [e]; rfl)), h2⟩
  · rcases mem u hu with h | h
    · exact (P.gl g hg).2.2 u h
    · subst h
      exact fun e => (hv g e).2.2.2 hg
  · rcases mem u hu with h | h
    · exact (P.lx b e).2 u h
    · subst h
      exact fun e2 => (hv b e2).2.2.1 e
/-- One hasher more. -/
theorem Pcs.clone (P : Pcs Z wd w l x gs vs Hs Ts) (t : Tch l.ownBlock x.ownBlock w w') {l' x' v : Value} {c : Nat} {T L : List Nat} (hc : HashAt w c wd T) (hz : Z ≤ c) (fc : c ∉ gs ∧ l.ownBlock ≠ some c ∧ x.ownBlock ≠ some c ∧ ∀ v ∈ vs, v.ownBlock ≠ some c)
    (rl : w'.ownsRow Z 39 1 l' (gs.length + 1) (gs.map ptr ++ [ptr c])) (rt : RowsOwn Z w' x' (vs ++ [v]) (Ts ++ [L])) (hv : v ∈ vs)
    (hl : ∀ b, l'.ownBlock = some b → l.ownBlock = some b ∨ w.heap.size ≤ b) (hx : ∀ b, x'.ownBlock = some b → x.ownBlock = some b ∨ w.heap.size ≤ b) (hlx : ∀ b, l'.ownBlock = some b → x'.ownBlock ≠ some b) :
    Pcs Z wd w' l' x' (gs ++ [c]) (vs ++ [v]) (Hs ++ [T]) (Ts ++ [L]) := by
  have mem : ∀ u ∈ vs ++ [v], u ∈ vs := fun u hu => by
    rcases List.mem_append.1 hu with h | h
    · exact h
    · rw [List.mem_singleton] at h
      subst h
      exact hv
  have ml : ∀ g ∈ gs ++ [c], g < w.heap.size ∧ l.ownBlock ≠ some g ∧ x.ownBlock ≠ some g ∧ ∀ v ∈ vs, v.ownBlock ≠ some g := fun g hg => by
    rcases List.mem_append.1 hg with h | h
    · obtain ⟨_, h1, _⟩ := P.at h
      exact ⟨h1.lt, P.gl g h⟩
    · rw [List.mem_singleton] at h
      subst h
      exact ⟨hc.lt, fc.2⟩
  refine ⟨by rw [List.length_append, List.map_append]; exact rl, rt, by simp [P.lh], by simp [P.lt], fun j g K hg hK => ?_, fun i j g hij hi hj => ?_, fun g hg => ⟨fun e => ?_, fun e => ?_, fun u hu => (ml g hg).2.2.2 u (mem u hu)⟩, fun b e => ⟨hlx b e, fun u hu e2 => ?_⟩⟩
  · have hk : ∀ g, g ∈ gs ++ [c] → w'.heap[g]? = w.heap[g]? := fun g hg => t.block g (ml g hg).1 (ml g hg).2.1 (ml g hg).2.2.1
    have hm := hk g (List.mem_of_getElem? hg)
    by_cases hj : j < gs.length
    · rw [List.getElem?_append_left hj] at hg
      rw [List.getElem?_append_left (by rw [P.lh]; exact hj)] at hK
      obtain ⟨h1, h2⟩ := P.hs j g K hg hK
      exact ⟨h1.of_heap hm, h2⟩
    · by_cases hj2 : j = gs.length
      · subst hj2
        rw [List.getElem?_append_right (Nat.le_refl _), Nat.sub_self] at hg
        rw [← P.lh, List.getElem?_append_right (Nat.le_refl _), Nat.sub_self] at hK
        cases hg
        cases hK
        exact ⟨hc.of_heap hm, hz⟩
      · rw [List.getElem?_eq_none (by simp; omega)] at hg
        cases hg
  · by_cases h2 : j < gs.length
    · rw [List.getElem?_append_left h2] at hj
      rw [List.getElem?_append_left (by omega)] at hi
      exact P.ap i j g hij hi hj
    · by_cases h3 : j = gs.length
      · subst h3
        rw [List.getElem?_append_right (Nat.le_refl _), Nat.sub_self] at hj
        rw [List.getElem?_append_left hij] at hi
        cases hj
        exact fc.1 (List.mem_of_getElem? hi)
      · rw [List.getElem?_eq_none (by simp; omega)] at hj
        cases hj
  · rcases hl g e with h | h
    · exact (ml g hg).2.1 h
    · have := (ml g hg).1; omega
  · rcases hx g e with h | h
    · exact (ml g hg).2.2.1 h
    · have := (ml g hg).1; omega
  · rcases hl b e with h | h
    · exact (P.lx b h).2 u (mem u hu) e2
    · have := (P.rt.mem (mem u hu) b e2).1; omega
end
section
variable {P : Program} {md : Region.Mode} {ops : Array Oper} {Q : Exit → Act → World → Prop} {S : World → Prop}
theorem anyH_enters {i fuel : Nat} {f : FuncId} {o : Oper} {args : Array Value} {listed : Array Bool} {a : Act} {w : World} {u : Value} {R : World → Prop} (hi : ops[i]? = some o) (hw : Region.wanted o (yielded ops a.tmps) = true)
    (hc : Calls P f args w fun e w' => e = .returned u ∧ R w') (he : (execOp a.eval o).run P w = .ok (.enter f args) w)
    (hk : ∀ w', R w' → S w' ∧ wpAnyH P md ops Q S fuel (listed.setIfInBounds i true) (a.put o.dst u) w') : wpOp P ops Q i (fun a' w' => S w' ∧ wpAnyH P md ops Q S fuel (listed.setIfInBounds i true) a' w') a w := by
  unfold wpOp
  rw [hi]
  show if Region.wanted o (yielded ops a.tmps) = true then _ else _
  rw [if_pos hw]
  refine .inl ?_
  unfold Oper.wp
  rw [he, Oper.upon_enter]
  refine hc.mono ?_
  rintro e w' ⟨rfl, hp⟩
  exact hk w' hp
/-- A call that writes nothing old, and a new list of one element, in either order. -/
theorem anyH_call_build {i j d e fuel : Nat} {oi oj : Oper} {listed : Array Bool} {a : Act} {w : World} {f : FuncId} {args : Array Value} {u X : Value} {t : TypeId}
    (hr : Region.ready md ops listed = [i, j]) (hr1 : Region.ready md ops (listed.setIfInBounds i true) = [j]) (hr2 : Region.ready md ops (listed.setIfInBounds j true) = [i])
    (hi : ops[i]? = some oi) (hj : ops[j]? = some oj) (di : oi.dst = some d) (dj : oj.dst = some e) (hij : i ≠ j) (hde : d ≠ e)
    (wi : Region.wanted oi (yielded ops a.tmps) = true) (wj : Region.wanted oj (yielded ops a.tmps) = true)
    (wi2 : ∀ v, Region.wanted oi (yielded ops (a.put (some e) v).tmps) = true) (wj2 : Region.wanted oj (yielded ops (a.put (some d) u).tmps) = true)
    (hc : ∀ w1, Below w.heap.size w w1 → Calls P f args w1 fun ee w' => ee = .returned u ∧ Below w1.heap.size w1 w')
    (he : ∀ w1, (execOp a.eval oi).run P w1 = .ok (.enter f args) w1) (he2 : ∀ v w1, (execOp (a.put (some e) v).eval oi).run P w1 = .ok (.enter f args) w1)
    (hb : ∀ w1, (execOp a.eval oj).run P w1 = .ok (.value (.slice (some ⟨w1.heap.size, 0, none⟩) 1 1)) (w1.alloc (.cells #[X] t (0, 0)))) (hb2 : ∀ w1, (execOp (a.put (some d) u).eval oj).run P w1 = .ok (.value (.slice (some ⟨w1.heap.size, 0, none⟩) 1 1)) (w1.alloc (.cells #[X] t (0, 0))))
    (hS : ∀ w', Below w.heap.size w w' → S w')
    (hk : ∀ p w', w.heap.size ≤ p → w'.heap[p]? = some (.cells #[X] t (0, 0)) → Below w.heap.size w w' → wpAnyH P md ops Q S fuel ((listed.setIfInBounds i true).setIfInBounds j true) ((a.put (some d) u).put (some e) (.slice (some ⟨p, 0, none⟩) 1 1)) w') :
    wpAnyH P md ops Q S (fuel + 1 + 1) listed a w := by
  refine wpAnyH_all hr (by simp) fun k hkk => ?_
  have : k = i ∨ k = j := by simpa using hkk
  rcases this with rfl | rfl
  · refine anyH_enters hi wi (hc w (Below.refl _ _)) (he w) fun w1 q1 => ⟨hS w1 q1, ?_⟩
    rw [di]
    refine wpAnyH_all hr1 (by simp) fun k' hk' => ?_
    obtain rfl : k' = j := by simpa using hk'
    have q2 := q1.alloc q1.size (.cells #[X] t (0, 0))
    refine anyH_run hj wj2 (hb2 w1) ⟨hS _ q2, ?_⟩
    rw [dj]
    exact hk w1.heap.size _ q1.size (heap_alloc_new _ _) q2
  · have q1 : Below w.heap.size w (w.alloc (.cells #[X] t (0, 0))) := (Below.refl _ _).alloc (Nat.le_refl _) _
    refine anyH_run hj wj (hb w) ⟨hS _ q1, ?_⟩
    rw [dj]
    refine wpAnyH_all hr2 (by simp) fun k' hk' => ?_
    obtain rfl : k' = i := by simpa using hk'
    refine anyH_enters hi (wi2 _) (hc _ q1) (he2 _ _) fun w2 q2 => ⟨hS w2 (q1.trans (q2.mono q1.size)), ?_⟩
    rw [di, put_swap (Ne.symm hde), set_two _ hij]
    exact hk w.heap.size w2 (Nat.le_refl _) ((q2.block _ (by simp)).trans (heap_alloc_new _ _)) (q1.trans (q2.mono q1.size))
end
theorem run_build_bs {ρ : Operand → Value} {o : Oper} (x : Operand) (ho : o.op = .buildSlice 28 1 #[(0, x)]) {A : Option Addr} {n c : Nat} (hx : ρ x = .slice A n c) (w : World) :
    (execOp ρ o).run Tryd.prog w = .ok (.value (.slice (some ⟨w.heap.size, 0, none⟩) 1 1)) (w.alloc (.cells #[.slice A n c] 29 (0, 0))) := by
  obtain ⟨i0, hi, hz0, hz1, hz2⟩ := info_parts info_bs
  have hu := Tryd.underlying28
  unfold execOp
  rw [ho]
  go_simp
section
variable {P : Program} (w : World)
theorem run_append_own4 (base : Nat) (t ty e : TypeId) (i : TypeInfo) (z : Value) (size bytes : Nat) (ht : P.underlying t = some (.slice e)) (hi : P.info? e = some i) (hz : i.zero = some z)
    (hsize : i.size = size) (hby : i.bytes = bytes) (hzs : z.cells.size = size) (hsz : 0 < size)
    (v : Value) (n : Nat) (xs : List Value) (hown : w.ownsRow base e size v n xs)
    (a : Addr) (m c : Nat) (news : List Value) (hl : news.length = m * size) (hnews : ∀ j u, news[j]? = some u → w.cell? (a.add j) = some u) (h1 : ∀ u ∈ news, u.oneCell' = true)
    (h63 : n + m ≤ maxLen) (hbytes : (n + m) * bytes ≤ 140737488355328) (hbase : base ≤ w.heap.size) :
    ∃ v' w', (Builtin.append_ #[t, t] ty #[v, .slice (some a) m c]).run P w = .ok v' w' ∧ w'.ownsRow base e size v' (n + m) (xs ++ news) ∧ w.grownBy w' v.ownBlock ∧
      (v'.ownBlock = v.ownBlock ∨ (v'.ownBlock = some w.heap.size ∧ Below w.heap.size w w')) := by
  obtain ⟨v', w', hr, h2, h3, h4⟩ := run_append_own (P := P) w base t ty e i z size bytes ht hi hz hsize hby hzs hsz v n xs hown a m c news hl hnews h1 h63 hbytes hbase
  refine ⟨v', w', hr, h2, h3, ?_⟩
  have hsmall : n + m ≤ 9223372036854775807 := by simp only [maxLen] at h63; omega
  subst hsize
  subst hby
  rcases hown.2 with ⟨rfl, rfl⟩ | ⟨g, cap, cur, rfl, hbg, hg, hnc, hcm, hcs, htake⟩
  · by_cases hm : m = 0
    · left
      rw [h4.2 ⟨rfl, hm⟩]
    · have hr2 := run_append_nil (P := P) w t ty e i z ht hi hz a m c news hl hnews (by omega) (by omega) (by have hb := hbytes; simp only [Nat.zero_add] at hb; omega)
      rw [hr] at hr2
      injection hr2 with e1 e2
      subst e1
      subst e2
      right
      exact ⟨rfl, (Below.refl _ _).drew.alloc (Nat.le_refl _) _⟩
  · by_cases hroom : n + m ≤ cap
    · have hfit : n * i.size + news.length ≤ cur.size := by rw [hl, hcs, ← Nat.add_mul]; exact Nat.mul_le_mul_right _ hroom
      have hr2 := run_append_room (P := P) w t ty e i ht hi g n cap cur hg a m c news hl hnews h1 hroom hfit
      rw [hr] at hr2
      injection hr2 with e1 e2
      subst e1
      left
      rfl
    · have holds : ∀ j u, xs[j]? = some u → w.cell? ((⟨g, 0, none⟩ : Addr).add j) = some u := hown.cells (g := g) rfl
      have hr2 := run_append_grow (P := P) w t ty e i z ht hi hz ⟨g, 0, none⟩ n cap xs hown.1 holds a m c news hl hnews (by omega) (by omega) (growslice_fits (by omega) hbytes)
      rw [hr] at hr2
      injection hr2 with e1 e2
      subst e1
      subst e2
      right
      exact ⟨rfl, (Below.refl _ _).drew.alloc (Nat.le_refl _) _⟩
theorem wpList_append_own4 {ops : Array Oper} {rest : List Oper} {o : Oper} {a : Act} {Q : Exit → Act → World → Prop} (hgd : o.guard = none) (s x : Operand) (t : TypeId)
    (ho : o.op = .call { callee := .builtin .append, args := #[s, x], argTypes := #[t, t] })
    (base : Nat) (e : TypeId) (i : TypeInfo) (z : Value) (size bytes : Nat) (ht : P.underlying t = some (.slice e)) (hi : P.info? e = some i) (hz : i.zero = some z)
    (hsize : i.size = size) (hby : i.bytes = bytes) (hzs : z.cells.size = size) (hsz : 0 < size)
    (v : Value) (n : Nat) (xs : List Value) (hs : a.eval s = v) (hown : w.ownsRow base e size v n xs)
    (ad : Addr) (m c : Nat) (news : List Value) (hx : a.eval x = .slice (some ad) m c) (hl : news.length = m * size) (hnews : ∀ j u, news[j]? = some u → w.cell? (ad.add j) = some u) (h1 : ∀ u ∈ news, u.oneCell' = true)
    (h63 : n + m ≤ maxLen) (hbytes : (n + m) * bytes ≤ 140737488355328) (hbase : base ≤ w.heap.size)
    (h : ∀ v' w', w'.ownsRow base e size v' (n + m) (xs ++ news) → w.grownBy w' v.ownBlock → (v'.ownBlock = v.ownBlock ∨ (v'.ownBlock = some w.heap.size ∧ Below w.heap.size w w')) → wpList P ops Q rest (a.put o.dst v') w') : wpList P ops Q (o :: rest) a w :=
  wpList_plain hgd fun _ hK => by
    obtain ⟨v', w', hr, h2, h3, h4⟩ := run_append_own4 (P := P) w base t o.type e i z size bytes ht hi hz hsize hby hzs hsz v n xs hown ad m c news hl hnews h1 h63 hbytes hbase
    unfold Oper.wp execOp
    simp only [ho, resolve, invoke, builtin, Sem.run_bind, Sem.run_pure, Result.andThen_ok, List.map_toArray, List.map_cons, List.map_nil, hs, hx, hr]
    exact hK _ _ (h v' w' h2 h3 h4)
end
section
variable {Z : Nat} {w w' : World} {v : Value} {vs : List Value} {Ls : List (List Nat)}
theorem app_rows4 {ops : Array Oper} {rest : List Oper} {o : Oper} {a : Act} {Q : Exit → Act → World → Prop} (s x : Operand) (hgd : o.guard = none)
    (ho : o.op = .call { callee := .builtin .append, args := #[s, x], argTypes := #[28, 28] })
    (hs : a.eval s = v) (hP : RowsOwn Z w v vs Ls) (b : Nat) (xv : Value) (L : List Nat) (hx : a.eval x = .slice (some ⟨b, 0, none⟩) 1 1) (hb : w.heap[b]? = some (.cells #[xv] 29 (0, 0)))
    (hone : xv.oneCell' = true) (hS : SliceOf u8c w xv L) (hB : ∀ b, xv.ownBlock = some b → b < w.heap.size ∧ v.ownBlock ≠ some b) (hZ : Z ≤ w.heap.size) (hl : vs.length ≤ 100000)
    (h : ∀ v' w', RowsOwn Z w' v' (vs ++ [xv]) (Ls ++ [L]) → w.grownBy w' v.ownBlock → Below Z w w' → (v'.ownBlock = v.ownBlock ∨ (v'.ownBlock = some w.heap.size ∧ Below w.heap.size w w')) → wpList Tryd.prog ops Q rest (a.put o.dst v') w') : wpList Tryd.prog ops Q (o :: rest) a w := by
  obtain ⟨i0, hi, hz0, hz1, hz2⟩ := info_parts info_bs
  obtain ⟨own, hlen, hp⟩ := hP
  refine wpList_append_own4 w hgd s x 28 ho Z 29 i0 (.slice none 0 0) 1 24 Tryd.underlying28 hi hz0 hz1 hz2 rfl (by decide) v vs.length vs hs own ⟨b, 0, none⟩ 1 1 [xv] hx rfl ?_ ?_ (by unfold maxLen; omega) (by omega) hZ fun v' w' own' hg hor => ?_
  · intro j u hj
    have e : (⟨b, 0, none⟩ : Addr).add j = ⟨b, 0 + j, none⟩ := Go.WideShapes.add_plain _ _ _
    rw [e, cell_of_row _ _ _ _ _ _ hb]
    match j, hj with
    | 0, hj => cases hj; rfl
    | j + 1, hj => cases hj
  · intro u hu
    rw [List.mem_singleton] at hu
    subst hu
    exact hone
  · have q : Below Z w w' := (Below.refl Z w).grown hg hZ (fun k hk => (own.lt k hk).1)
    have ap : ∀ b, b < w.heap.size ∧ v.ownBlock ≠ some b → b < w'.heap.size ∧ v'.ownBlock ≠ some b := fun b ⟨h1, h2⟩ => ⟨Nat.lt_of_lt_of_le h1 hg.size, by
      rcases hor with e | ⟨e, _⟩
      · rw [e]; exact h2
      · rw [e]; intro e2; have := Option.some.inj e2; omega⟩
    refine h v' w' ⟨by rw [List.length_append]; exact own', by simp [hlen], fun i y M hy hM => ?_⟩ hg q hor
    by_cases hi : i < vs.length
    · rw [List.getElem?_append_left hi] at hy
      rw [List.getElem?_append_left (by omega)] at hM
      obtain ⟨h1, h2⟩ := hp i y M hy hM
      exact ⟨h1.grown hg h2, fun b hb => ap b (h2 b hb)⟩
    · by_cases hi2 : i = vs.length
      · subst hi2
        rw [List.getElem?_append_right (Nat.le_refl _), Nat.sub_self] at hy
        rw [hlen, List.getElem?_append_right (Nat.le_refl _), Nat.sub_self] at hM
        cases hy
        cases hM
        exact ⟨hS.grown hg hB, fun b hb => ap b (hB b hb)⟩
      · rw [List.getElem?_eq_none (by simp; omega)] at hy
        cases hy
end
theorem wpList_store_sl {ops : Array Oper} {rest : List Oper} {o : Oper} {a : Act} {w : World} {Q : Exit → Act → World → Prop} (hgd : o.guard = none) (hd : o.dst = none) (x y : Operand) (ho : o.op = .store 29 x y)
    (g k : Nat) {A : Option Addr} {n c : Nat} (hx : a.eval x = .pointer (some ⟨g, k, none⟩)) (hy : a.eval y = .slice A n c) {u : Value} (hc : w.cell? ⟨g, k, none⟩ = some u) (hf : w.frozen? ⟨g, k, none⟩ = false)
    (h : wpList Tryd.prog ops Q rest a (w.setCell ⟨g, k, none⟩ (.slice A n c))) : wpList Tryd.prog ops Q (o :: rest) a w :=
  wpList_plain hgd fun _ hK => by
    obtain ⟨i0, hi, hz0, hz1, hz2⟩ := info_parts info_bs
    have e : (⟨g, k, none⟩ : Addr).add 0 = ⟨g, k + 0, none⟩ := Go.WideShapes.add_plain _ _ _
    unfold Oper.wp execOp
    simp only [ho, hx, hy, Instr.storeAt, Instr.sureAddr, Sem.run_bind, Sem.run_pure, Result.andThen_ok]
    have e2 : (storeVar 29 ⟨g, k, none⟩ (.slice A n c)).run Tryd.prog w = .ok () (w.setCell ⟨g, k, none⟩ (.slice A n c)) := by
      simp [storeVar, sizeOf, typeInfo, hi, hz1, Value.cells, storeCells, e]
      rw [run_store (hv := rfl), hc]
      simp [hf]
    rw [e2]
    have := hK _ _ h
    have hp : a.put o.dst undef = a := by rw [hd]; rfl
    show _
    first | exact this | (rw [hp.symm] at this; exact this)
theorem info_ptr : (Tryd.prog.info? 39).map (fun i => (i.zero, i.size, i.bytes)) = some (some (.pointer none), 1, 8) := by kernel_rfl
theorem app_ptr {Z m g p : Nat} {w : World} {v : Value} {xs : List Value} {ops : Array Oper} {rest : List Oper} {o : Oper} {a : Act} {Q : Exit → Act → World → Prop} (s x : Operand) (hgd : o.guard = none)
    (ho : o.op = .call { callee := .builtin .append, args := #[s, x], argTypes := #[41, 41] })
    (hs : a.eval s = v) (own : w.ownsRow Z 39 1 v m xs) (hx : a.eval x = .slice (some ⟨p, 0, none⟩) 1 1) (hb : w.heap[p]? = some (.cells #[ptr g] 39 (0, 0))) (hZ : Z ≤ w.heap.size) (hl : m ≤ 100000)
    (h : ∀ v' w', w'.ownsRow Z 39 1 v' (m + 1) (xs ++ [ptr g]) → w.grownBy w' v.ownBlock → (v'.ownBlock = v.ownBlock ∨ v'.ownBlock = some w.heap.size) → wpList Tryd.prog ops Q rest (a.put o.dst v') w') : wpList Tryd.prog ops Q (o :: rest) a w := by
  obtain ⟨i0, hi, hz0, hz1, hz2⟩ := info_parts info_ptr
  refine wpList_append_own2 w hgd s x 41 ho Z 39 i0 (.pointer none) 1 8 Tryd.underlying41 hi hz0 hz1 hz2 rfl (by decide) v m xs hs own ⟨p, 0, none⟩ 1 1 [ptr g] hx rfl ?_ ?_ (by unfold maxLen; omega) (by omega) hZ h
  · intro j u hj
    have e : (⟨p, 0, none⟩ : Addr).add j = ⟨p, 0 + j, none⟩ := Go.WideShapes.add_plain _ _ _
    rw [e, cell_of_row _ _ _ _ _ _ hb]
    match j, hj with
    | 0, hj => cases hj; rfl
    | j + 1, hj => cases hj
  · intro u hu
    rw [List.mem_singleton] at hu
    subst hu
    rfl
end Go.Proofs.YtcifnfffoiiceaaDoor
