/-
  Facts of one step of the hash that the walks want. No program in sight but the reference's words.
-/
import Derived.Test.YtcifnfffoiiceaaDoorTableRef
import Derived.Test.YtcifnfffoiiceaaDoorWordRef
import Derived.Test.YtcifnfffoiiceaaDoorCutOff
namespace Go.Proofs.YtcifnfffoiiceaaDoor
open Go.RowKit
set_option linter.unusedVariables false

theorem getD_of {l : List Nat} {j x : Nat} (h : l[j]? = some x) : l.getD j 0 = x := by rw [List.getD_eq_getElem?_getD, h]; rfl
theorem next_at {l : List Nat} {m x2 x7 x15 x16 : Nat} (hl : l.length = m) (h2 : l[m - 2]? = some x2) (h7 : l[m - 7]? = some x7) (h15 : l[m - 15]? = some x15) (h16 : l[m - 16]? = some x16) :
    nextW l = (xorN (rotN x2 17) (rotN x2 19) (x2 / 2 ^ 10) + x7 + xorN (rotN x15 7) (rotN x15 18) (x15 / 2 ^ 3) + x16) % 4294967296 := by
  unfold nextW s1N s0N
  rw [hl, getD_of h2, getD_of h7, getD_of h15, getD_of h16]
theorem at_some {l : List Nat} {j : Nat} (h : j < l.length) (hw : Words l) : ∃ x, l[j]? = some x ∧ x < 4294967296 :=
  ⟨l[j], List.getElem?_eq_getElem h, hw _ (List.getElem_mem h)⟩
/-- The schedule after k words more. -/
theorem sched_next (k : Nat) (l : List Nat) : (schedN (k + 1) l).map u64c = (schedN k l).map u64c ++ [u64c (nextW (schedN k l))] := by
  rw [sched_succ, List.map_append]
  rfl
/-- A row's cell. -/
theorem own_u64 {w : World} {Z g n cap : Nat} {l : List Nat} (h : w.ownsRow Z 44 1 (.slice (some ⟨g, 0, none⟩) n cap) n (l.map u64c)) {j x : Nat} (hj : l[j]? = some x) : w.cell? ⟨g, j, none⟩ = some (.int .u64 (x : Int)) :=
  own_cell h (by rw [List.getElem?_map, hj]; rfl)
theorem own_form2 {w : World} {Z n : Nat} {v : Value} {xs : List Value} (h : w.ownsRow Z 44 1 v n xs) (hn : 0 < n) : ∃ g cap, v = .slice (some ⟨g, 0, none⟩) n cap ∧ Z ≤ g ∧ g < w.heap.size ∧ n ≤ cap ∧ cap ≤ maxLen := by
  obtain ⟨hl, h⟩ := h
  rcases h with ⟨rfl, h0⟩ | ⟨g, cap, cur, rfl, hg, hh, hc, hm, hs, ht⟩
  · omega
  · refine ⟨g, cap, rfl, hg, lt_of_heap hh, hc, hm⟩
theorem wrap_small {q : Nat} (h : q < 9223372036854775808) : IntKind.i64.wrap (q : Int) = (q : Int) := by rw [IntKind.wrap_i64]; omega
theorem next_int {a b c d : Nat} (h : a < 4294967296 ∧ b < 4294967296 ∧ c < 4294967296 ∧ d < 4294967296) :
    (IntKind.u64.wrap (IntKind.u64.wrap (IntKind.u64.wrap ((a : Int) + (b : Int)) + (c : Int)) + (d : Int))).tmod 4294967296 = (((a + b + c + d) % 4294967296 : Nat) : Int) := by
  obtain ⟨ha, hb, hc, hd⟩ := h
  simp only [wrap_u64]
  rw [Int.tmod_eq_emod_of_nonneg (by omega)]
  omega
theorem app_u64 {ops : Array Oper} {rest : List Oper} {o : Oper} {a : Act} {Q : Exit → Act → World → Prop} {w : World} (s x : Operand) (hgd : o.guard = none)
    (ho : o.op = .call { callee := .builtin .append, args := #[s, x], argTypes := #[73, 73] })
    (B : Nat) (v : Value) (n : Nat) (xs : List Value) (hs : a.eval s = v) (hown : w.ownsRow B 44 1 v n xs) (vx : Value) (l : List Nat) (hx : a.eval x = vx) (hsrc : SliceOf u64c w vx l)
    (hlen : n + l.length ≤ 4000) (hB : B ≤ w.heap.size)
    (h : ∀ v' w', w'.ownsRow B 44 1 v' (n + l.length) (xs ++ l.map u64c) → w.grownBy w' v.ownBlock → wpList Tryd.prog ops Q rest (a.put o.dst v') w') :
    wpList Tryd.prog ops Q (o :: rest) a w := by
  obtain ⟨i0, hi, hz0, hz1, hz2⟩ := info_parts info_u64
  obtain ⟨ad, cap, rfl, h1, h2, h0, h3⟩ := hsrc
  cases ad with
  | none =>
    have hl : l = [] := by
      rcases h3 with h3 | ⟨b, off, ha, _⟩
      · exact h3
      · cases ha
    subst hl
    have hc := h0 rfl
    subst hc
    refine wpList_append_own_none hgd s x 73 ho B 44 i0 1 Tryd.underlying73 hi v n xs hs hown hx ?_
    exact h v w (by simpa using hown) (grown_refl _ _)
  | some ad =>
    refine wpList_append_own w hgd s x 73 ho B 44 i0 (.int .u64 0) 1 8 Tryd.underlying73 hi hz0 hz1 hz2 rfl (by decide) v n xs hs hown ad l.length cap (l.map u64c) hx (by simp) ?_ ?_ (by unfold maxLen; omega) (by omega) hB fun v' w' h4 h5 _ => h v' w' h4 h5
    · intro j u hj
      rw [List.getElem?_map] at hj
      rcases h3 with h3 | ⟨b, off, ha, hc⟩
      · subst h3; simp at hj
      · cases ha
        obtain ⟨c, hc1, rfl⟩ := Option.map_eq_some_iff.1 hj
        have e : (⟨b, off, none⟩ : Addr).add j = ⟨b, off + j, none⟩ := Go.WideShapes.add_plain _ _ _
        rw [e]
        exact hc j c hc1
    · intro u hu
      simp only [List.mem_map] at hu
      obtain ⟨c, _, rfl⟩ := hu
      rfl
theorem own_made0u {w : World} {B : Nat} (hB : B ≤ w.heap.size) : (w.alloc (.cells #[] 44 (0, 0))).ownsRow B 44 1 (.slice (some ⟨w.heap.size, 0, none⟩) 0 0) 0 [] :=
  ⟨rfl, .inr ⟨w.heap.size, 0, #[], rfl, hB, heap_alloc_new _ _, Nat.le_refl _, Nat.zero_le _, rfl, rfl⟩⟩
theorem list_of_st {l : List Nat} (h : l.length = 8) : listOf (stOf l) = l := by
  match l, h with
  | [a, b, c, d, e, f, g, i], _ => rfl
theorem st_ok {l : List Nat} (h : l.length = 8) (hw : Words l) : (stOf l).Ok := by
  match l, h with
  | [a, b, c, d, e, f, g, i], _ => exact ⟨hw a (by simp), hw b (by simp), hw c (by simp), hw d (by simp), hw e (by simp), hw f (by simp), hw g (by simp), hw i (by simp)⟩
theorem SliceOf.below' {α : Type} {mk : α → Value} {w w' : World} {v : Value} {l : List α} {Z : Nat} (h : SliceOf mk w v l) (hZ : w.heap.size = Z) (hb : Below Z w w') : SliceOf mk w' v l := h.below (by rw [hZ]; exact hb)
/-- The cells that a round reads. -/
def Cells10 (w : World) (g o : Nat) (s : St) (gt ot t gl ol x : Nat) : Prop :=
  w.cell? ⟨g, o, none⟩ = some (.int .u64 (s.a : Int)) ∧ w.cell? ⟨g, o + 1, none⟩ = some (.int .u64 (s.b : Int)) ∧ w.cell? ⟨g, o + 2, none⟩ = some (.int .u64 (s.c : Int)) ∧ w.cell? ⟨g, o + 3, none⟩ = some (.int .u64 (s.d : Int)) ∧
    w.cell? ⟨g, o + 4, none⟩ = some (.int .u64 (s.e : Int)) ∧ w.cell? ⟨g, o + 5, none⟩ = some (.int .u64 (s.f : Int)) ∧ w.cell? ⟨g, o + 6, none⟩ = some (.int .u64 (s.g : Int)) ∧ w.cell? ⟨g, o + 7, none⟩ = some (.int .u64 (s.h : Int)) ∧
    w.cell? ⟨gt, ot, none⟩ = some (.int .u64 (t : Int)) ∧ w.cell? ⟨gl, ol, none⟩ = some (.int .u64 (x : Int))
theorem slice_at {α : Type} {mk : α → Value} {w : World} {v : Value} {l : List α} {n : Nat} (h : SliceOf mk w v l) (hn : l.length = n) (h0 : 0 < n) : ∃ g o cap, v = .slice (some ⟨g, o, none⟩) n cap ∧ n ≤ cap ∧ cap ≤ maxLen ∧ ∀ (j : Nat) (x : α), l[j]? = some x → w.cell? ⟨g, o + j, none⟩ = some (mk x) := by
  obtain ⟨a, cap, e, h1, h2, h3, h4⟩ := h.form
  obtain ⟨g, o, rfl⟩ := h3 0 (l[0]'(by omega)) (List.getElem?_eq_getElem (by omega))
  rw [hn] at e h1
  exact ⟨g, o, cap, e, h1, h2, h4 g o rfl⟩
theorem round_eq (K W : List Nat) (k : Nat) (s : St) {t x : Nat} (ht : K[k]? = some t) (hx : W[k]? = some x) : roundsN K W (k + 1) s = roundN t x (roundsN K W k s) := by
  rw [rounds_succ', getD_of ht, getD_of hx]
/-- A round's row. -/
theorem round_list (t x : Nat) (s : St) {rb rc ra rm : Nat} (hb : b1N s.e = rb) (hc : chN s.e s.f s.g = rc) (ha : b0N s.a = ra) (hm : majN s.a s.b s.c = rm) :
    listOf (roundN t x s) = [((s.h + rb + rc + t + x) % 4294967296 + (ra + rm) % 4294967296) % 4294967296, s.a, s.b, s.c, (s.d + (s.h + rb + rc + t + x) % 4294967296) % 4294967296, s.e, s.f, s.g] := by
  unfold listOf roundN t1N t2N
  rw [hb, hc, ha, hm]
theorem row8 {w : World} {t : TypeId} {a b c d e f g h : Nat} :
    SliceOf u64c (w.alloc (.cells #[.int .u64 (a : Int), .int .u64 (b : Int), .int .u64 (c : Int), .int .u64 (d : Int), .int .u64 (e : Int), .int .u64 (f : Int), .int .u64 (g : Int), .int .u64 (h : Int)] t (0, 0))) (.slice (some ⟨w.heap.size, 0, none⟩) 8 8) [a, b, c, d, e, f, g, h] :=
  co_slice (mk := u64c) (l := [a, b, c, d, e, f, g, h]) (t := t) (heap_alloc_new _ _) (by show 8 ≤ maxLen; decide)
theorem next_int5 {a b c d e : Nat} (h : a < 4294967296 ∧ b < 4294967296 ∧ c < 4294967296 ∧ d < 4294967296 ∧ e < 4294967296) :
    (IntKind.u64.wrap (IntKind.u64.wrap (IntKind.u64.wrap (IntKind.u64.wrap ((a : Int) + (b : Int)) + (c : Int)) + (d : Int)) + (e : Int))).tmod 4294967296 = (((a + b + c + d + e) % 4294967296 : Nat) : Int) := by
  obtain ⟨ha, hb, hc, hd, he⟩ := h
  simp only [wrap_u64]
  rw [Int.tmod_eq_emod_of_nonneg (by omega)]
  omega
theorem next_int2 {a b : Nat} (h : a < 4294967296 ∧ b < 4294967296) : (IntKind.u64.wrap ((a : Int) + (b : Int))).tmod 4294967296 = (((a + b) % 4294967296 : Nat) : Int) := by
  obtain ⟨ha, hb⟩ := h
  simp only [wrap_u64]
  rw [Int.tmod_eq_emod_of_nonneg (by omega)]
  omega
theorem keep7 {w : World} {p1 p2 p3 p4 p5 p6 p7 : Addr} {v1 v2 v3 v4 v5 v6 v7 : Value} (o : Obj) (h : w.cell? p1 = some v1 ∧ w.cell? p2 = some v2 ∧ w.cell? p3 = some v3 ∧ w.cell? p4 = some v4 ∧ w.cell? p5 = some v5 ∧ w.cell? p6 = some v6 ∧ w.cell? p7 = some v7) :
    (w.alloc o).cell? p1 = some v1 ∧ (w.alloc o).cell? p2 = some v2 ∧ (w.alloc o).cell? p3 = some v3 ∧ (w.alloc o).cell? p4 = some v4 ∧ (w.alloc o).cell? p5 = some v5 ∧ (w.alloc o).cell? p6 = some v6 ∧ (w.alloc o).cell? p7 = some v7 :=
  ⟨Go.Lib.cell?_alloc_some o h.1, Go.Lib.cell?_alloc_some o h.2.1, Go.Lib.cell?_alloc_some o h.2.2.1, Go.Lib.cell?_alloc_some o h.2.2.2.1, Go.Lib.cell?_alloc_some o h.2.2.2.2.1, Go.Lib.cell?_alloc_some o h.2.2.2.2.2.1, Go.Lib.cell?_alloc_some o h.2.2.2.2.2.2⟩
theorem alloc3 (w : World) (o1 o2 o3 : Obj) : (((w.alloc o1).alloc o2).alloc o3).heap[w.heap.size]? = some o1 ∧ (((w.alloc o1).alloc o2).alloc o3).heap[w.heap.size + 1]? = some o2 ∧ (((w.alloc o1).alloc o2).alloc o3).heap[w.heap.size + 2]? = some o3 ∧ (((w.alloc o1).alloc o2).alloc o3).heap.size = w.heap.size + 3 ∧ Below w.heap.size w (((w.alloc o1).alloc o2).alloc o3) := by
  have h : ∀ o, (w.alloc o).heap.size = w.heap.size + 1 := fun o => by simp
  have h2 : ∀ o o', ((w.alloc o).alloc o').heap.size = w.heap.size + 2 := fun o o' => by simp
  refine ⟨?_, ?_, ?_, by simp, (((Below.refl _ _).alloc (Nat.le_refl _) _).alloc (by simp) _).alloc (by rw [h2]; omega) _⟩
  · rw [Below.heap_alloc _ _ _ (by rw [h2]; omega), Below.heap_alloc _ _ _ (by rw [h]; omega), heap_alloc_new]
  · rw [Below.heap_alloc _ _ _ (by rw [h2]; omega), ← h o1, heap_alloc_new]
  · rw [← h2 o1 o2, heap_alloc_new]
end Go.Proofs.YtcifnfffoiiceaaDoor
