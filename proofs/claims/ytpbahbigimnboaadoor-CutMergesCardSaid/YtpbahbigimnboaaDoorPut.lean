/-
  A pile of spots: what put leaves, and what comes of it; the walk of put.
-/
import Derived.Test.YtpbahbigimnboaaDoorSpotRow
import Derived.Test.YtpbahbigimnboaaDoorPile
import Derived.Deep.AppendLies
import Derived.Deep.RegionLaw
import Derived.Deep.DeepCutAuto
import Derived.Deep.LoopGhost
import Derived.WalkMore
namespace Go.Proofs.YtpbahbigimnboaaDoor
open Go.RowKit
set_option linter.unusedVariables false

/-- But for block pb and a row's block the world w' is as w was. -/
structure Touch (pb : Nat) (row : Option Nat) (w w' : World) : Prop where
  os : w'.os = w.os
  tape : w'.tape = w.tape
  output : w'.output = w.output
  size : w.heap.size ≤ w'.heap.size
  block : ∀ k, k < w.heap.size → k ≠ pb → some k ≠ row → w'.heap[k]? = w.heap[k]?
/-- Block pb holds a pile, whose row lies elsewhere. -/
structure PileAt (B pb : Nat) (w : World) (pv : Value) (l : List (Nat × Nat)) : Prop where
  heap : w.heap[pb]? = some (.cells #[pv] 49 (0, 0))
  own : w.ownsRow B 28 2 pv l.length (spotC l)
  apart : pv.ownBlock ≠ some pb
theorem PileAt.cell {B pb : Nat} {w : World} {pv : Value} {l : List (Nat × Nat)} (h : PileAt B pb w pv l) : w.cell? ⟨pb, 0, none⟩ = some pv := by
  rw [cell_of_row _ _ _ _ _ _ h.heap]; rfl
theorem PileAt.frozen {B pb : Nat} {w : World} {pv : Value} {l : List (Nat × Nat)} (h : PileAt B pb w pv l) : w.frozen? ⟨pb, 0, none⟩ = false := frozen_of_row _ _ _ _ _ h.heap
theorem PileAt.lt {B pb : Nat} {w : World} {pv : Value} {l : List (Nat × Nat)} (h : PileAt B pb w pv l) : pb < w.heap.size := (Array.getElem?_eq_some_iff.1 h.heap).1
theorem Touch.refl (pb : Nat) (R : Option Nat) (w : World) : Touch pb R w w := ⟨rfl, rfl, rfl, Nat.le_refl _, fun _ _ _ _ => rfl⟩
theorem Touch.drew {pb : Nat} {R : Option Nat} {w w' : World} (h : Touch pb R w w') : Touch pb R w w'.drew := ⟨h.os, h.tape, h.output, h.size, h.block⟩
theorem Touch.drewN {pb : Nat} {R : Option Nat} {w w' : World} (h : Touch pb R w w') (n : Nat) : Touch pb R w (w'.drewN n) := ⟨h.os, h.tape, h.output, h.size, h.block⟩
theorem Touch.alloc {pb : Nat} {R : Option Nat} {w w' : World} (h : Touch pb R w w') (o : Obj) : Touch pb R w (w'.alloc o) :=
  ⟨h.os, h.tape, h.output, by have := h.size; simp; omega, fun k hk h1 h2 => by rw [heap_alloc_old _ _ (Nat.lt_of_lt_of_le hk h.size)]; exact h.block k hk h1 h2⟩
theorem Touch.set {pb : Nat} {R : Option Nat} {w w' : World} (h : Touch pb R w w') (u : Value) (o : Nat) : Touch pb R w (w'.setCell ⟨pb, o, none⟩ u) :=
  ⟨h.os, h.tape, h.output, by have := h.size; rw [World.size_setCell]; exact this, fun k hk h1 h2 => by rw [heap_setCell_other _ _ _ _ h1]; exact h.block k hk h1 h2⟩
theorem Touch.grown {pb : Nat} {R row : Option Nat} {w w' w2 : World} (h : Touch pb R w w') (hg : w'.grownBy w2 row) (hr : row = R ∨ ∀ b, row = some b → w.heap.size ≤ b) : Touch pb R w w2 :=
  ⟨hg.os.trans h.os, hg.tape.trans h.tape, hg.output.trans h.output, Nat.le_trans h.size hg.size, fun k hk h1 h2 => by
    rw [hg.block k (Nat.lt_of_lt_of_le hk h.size) ?_]
    · exact h.block k hk h1 h2
    · rcases hr with e | e
      · rw [e]; exact h2
      · intro e'
        have := e k e'.symm
        omega⟩
/-- A cell of the pile's box is written: the pile now lies in v. -/
theorem pile_set {B pb : Nat} {w : World} {pv v : Value} {l : List (Nat × Nat)} (hh : w.heap[pb]? = some (.cells #[pv] 49 (0, 0))) (own : w.ownsRow B 28 2 v l.length (spotC l)) (ap : v.ownBlock ≠ some pb) :
    PileAt B pb (w.setCell ⟨pb, 0, none⟩ v) v l := by
  refine ⟨by rw [heap_setCell_same _ _ _ _ _ _ hh]; rfl, ?_, ap⟩
  refine ⟨own.1, own.2.imp id ?_⟩
  rintro ⟨g, cap, cur, hv, hg, hh2, rest⟩
  have hne : g ≠ pb := by
    intro e
    apply ap
    rw [hv, ← e]
    rfl
  exact ⟨g, cap, cur, hv, hg, by rw [heap_setCell_other _ _ _ _ hne]; exact hh2, rest⟩
theorem own_set {w : World} {B : Nat} {t : TypeId} {s n : Nat} {v : Value} {xs : List Value} (h : w.ownsRow B t s v n xs) (a : Addr) (u : Value) (ha : v.ownBlock ≠ some a.block) : (w.setCell a u).ownsRow B t s v n xs := by
  refine ⟨h.1, h.2.imp id ?_⟩
  rintro ⟨g, cap, cur, hv, hg, hh, rest⟩
  have hne : g ≠ a.block := by
    intro e
    apply ha
    rw [hv, ← e]
    rfl
  exact ⟨g, cap, cur, hv, hg, by rw [heap_setCell_other _ _ _ _ hne]; exact hh, rest⟩
/-- A row that is cut short is owned too. -/
theorem own_take {w : World} {B : Nat} {t : TypeId} {s n m : Nat} {g cap : Nat} {xs ys : List Value} (h : w.ownsRow B t s (.slice (some ⟨g, 0, none⟩) n cap) n xs) (hm : m ≤ n) (hy : ys = xs.take (m * s)) :
    w.ownsRow B t s (.slice (some ⟨g, 0, none⟩) m cap) m ys := by
  obtain ⟨hl, h⟩ := h
  have hms : m * s ≤ n * s := Nat.mul_le_mul_right _ hm
  refine ⟨by rw [hy, List.length_take]; omega, .inr ?_⟩
  rcases h with ⟨h, _⟩ | ⟨g', cap', cur, hv, hg, hh, hc, hm2, hs, ht⟩
  · cases h
  · cases hv
    refine ⟨g, cap, cur, rfl, hg, hh, by omega, hm2, hs, ?_⟩
    rw [hy, ← ht, List.take_take, Nat.min_eq_left hms]
theorem cell_new2H (w : World) (u v : Value) (t : TypeId) (H : Nat) (h : w.heap.size = H) : ∀ (j : Nat) x, [u, v][j]? = some x → (w.alloc (.cells #[u, v] t (0, 0))).cell? ((⟨H, 0, none⟩ : Addr).add j) = some x := by
  subst h
  exact cell_new2 w u v t
theorem pile_far {w W w1 : World} {row : Option Nat} {pb : Nat} {pv : Value} (hb : Below w.heap.size w W) (hg : W.grownBy w1 row) (pc : w.cell? ⟨pb, 0, none⟩ = some pv) (pf : w.frozen? ⟨pb, 0, none⟩ = false) (plt : pb < w.heap.size) (ne : row ≠ some pb) :
    w1.cell? ⟨pb, 0, none⟩ = some pv ∧ w1.frozen? ⟨pb, 0, none⟩ = false :=
  ⟨by rw [hg.cell_far ⟨pb, 0, none⟩ (Nat.lt_of_lt_of_le plt hb.size) (fun e => ne e.symm), hb.cell (p := ⟨pb, 0, none⟩) plt, pc],
   by rw [hg.frozen_far ⟨pb, 0, none⟩ (Nat.lt_of_lt_of_le plt hb.size) (fun e => ne e.symm), hb.frozen (p := ⟨pb, 0, none⟩) plt, pf]⟩
theorem below_two (w : World) (o1 o2 : Obj) : Below w.heap.size w ((w.alloc o1).alloc o2) := ((Below.refl _ _).alloc (Nat.le_refl _) o1).alloc (by simp) o2
theorem cut_pile : Tryd.prog.underlying 49 = some (.slice 28) := Tryd.underlying49
def lenOf : Option Value → Nat
  | some (.slice _ n _) => n
  | _ => 0
/-- What stands at the loop's head. -/
def PutRel (B pb : Nat) (w : World) (R0 : Option Nat) (P M : List (Nat × Nat)) (n : Nat) (v : Value) (wr : World) : Prop :=
  ∃ (pv : Value) (r m : List (Nat × Nat)) (s : Nat × Nat), PileAt B pb wr pv ((s :: r).reverse) ∧ wr.ownsRow w.heap.size 28 2 v m.length (spotC m) ∧ Touch pb R0 w wr ∧
    (pv.ownBlock = R0 ∨ ∃ b, pv.ownBlock = some b ∧ w.heap.size ≤ b) ∧ (∀ b, pv.ownBlock = some b → v.ownBlock ≠ some b) ∧
    (∀ x, x ∈ r → x.1 ≤ 62 ∧ x.2 ≤ 4611686018427387904) ∧ s.1 ≤ 63 ∧ s.2 ≤ 4611686018427387904 ∧ r.length = n ∧ m.length + n ≤ 4000 ∧ (putR r s).1 = P ∧ m ++ (putR r s).2 = M
theorem addr0 (g j : Nat) : (⟨g, 0, none⟩ : Addr).add j = ⟨g, j, none⟩ := by unfold Addr.add; split <;> simp_all
theorem put_w (k : Nat) (h : k ≤ 4000) : wrap64 (k : Int) = (k : Int) ∧ IntKind.i64.wrap (k : Int) = (k : Int) := by
  refine ⟨by unfold wrap64; omega, ?_⟩
  simp [IntKind.wrap, IntKind.bits, IntKind.signed]
  omega
theorem PileAt.below {B pb : Nat} {w w' : World} {pv : Value} {l : List (Nat × Nat)} (h : PileAt B pb w pv l) (hb : Below w.heap.size w w') : PileAt B pb w' pv l :=
  ⟨by rw [hb.block _ h.lt]; exact h.heap, own_below h.own hb, h.apart⟩
theorem Touch.below {pb : Nat} {R : Option Nat} {w w' w2 : World} (h : Touch pb R w w') (hb : Below w'.heap.size w' w2) : Touch pb R w w2 :=
  ⟨hb.os.trans h.os, hb.tape.trans h.tape, hb.output.trans h.output, Nat.le_trans h.size hb.size, fun k hk h1 h2 => by rw [hb.block _ (Nat.lt_of_lt_of_le hk h.size)]; exact h.block k hk h1 h2⟩
/-- Two spots in new boxes. -/
def Boxes (wr : World) (p q x y s8 s9 : Value) (wx : World) : Prop :=
  ∃ d1 d2 : Nat, s8 = .pointer (some ⟨d1, 0, none⟩) ∧ s9 = .pointer (some ⟨d2, 0, none⟩) ∧ wx.cell? ⟨d1, 0, none⟩ = some p ∧ wx.cell? ⟨d1, 1, none⟩ = some q ∧ wx.cell? ⟨d2, 0, none⟩ = some x ∧ wx.cell? ⟨d2, 1, none⟩ = some y ∧
    d1 < wx.heap.size ∧ d2 < wx.heap.size ∧ Below wr.heap.size wr wx
theorem boxes_new (w : World) (p q x y : Value) (t : TypeId) :
    ((w.alloc (.cells #[p, q] t (0, 0))).alloc (.cells #[x, y] t (0, 0))).drew.cell? ⟨w.heap.size, 0, none⟩ = some p ∧ ((w.alloc (.cells #[p, q] t (0, 0))).alloc (.cells #[x, y] t (0, 0))).drew.cell? ⟨w.heap.size, 1, none⟩ = some q ∧
    ((w.alloc (.cells #[p, q] t (0, 0))).alloc (.cells #[x, y] t (0, 0))).drew.cell? ⟨w.heap.size + 1, 0, none⟩ = some x ∧ ((w.alloc (.cells #[p, q] t (0, 0))).alloc (.cells #[x, y] t (0, 0))).drew.cell? ⟨w.heap.size + 1, 1, none⟩ = some y ∧
    ((w.alloc (.cells #[p, q] t (0, 0))).alloc (.cells #[x, y] t (0, 0))).drew.heap.size = w.heap.size + 2 ∧ Below w.heap.size w ((w.alloc (.cells #[p, q] t (0, 0))).alloc (.cells #[x, y] t (0, 0))).drew := by
  have h1 : ((w.alloc (.cells #[p, q] t (0, 0))).alloc (.cells #[x, y] t (0, 0))).drew.heap[w.heap.size]? = some (.cells #[p, q] t (0, 0)) := by
    show ((w.alloc _).alloc _).heap[w.heap.size]? = _
    rw [heap_alloc_old _ _ (by simp), heap_alloc_new]
  have h2 : ((w.alloc (.cells #[p, q] t (0, 0))).alloc (.cells #[x, y] t (0, 0))).drew.heap[w.heap.size + 1]? = some (.cells #[x, y] t (0, 0)) := by
    show ((w.alloc _).alloc _).heap[w.heap.size + 1]? = _
    have := heap_alloc_new (w.alloc (.cells #[p, q] t (0, 0))) (.cells #[x, y] t (0, 0))
    rwa [show (w.alloc (.cells #[p, q] t (0, 0))).heap.size = w.heap.size + 1 by simp] at this
  refine ⟨?_, ?_, ?_, ?_, by show ((w.alloc _).alloc _).heap.size = _; simp, (below_two w _ _).drew⟩
  · rw [cell_of_row _ _ _ _ _ _ h1]; rfl
  · rw [cell_of_row _ _ _ _ _ _ h1]; rfl
  · rw [cell_of_row _ _ _ _ _ _ h2]; rfl
  · rw [cell_of_row _ _ _ _ _ _ h2]; rfl
theorem boxes_a (w : World) (p q x y : Value) (t : TypeId) : Boxes w p q x y (.pointer (some ⟨w.heap.size, 0, none⟩)) (.pointer (some ⟨w.heap.size + 1, 0, none⟩)) ((w.alloc (.cells #[p, q] t (0, 0))).alloc (.cells #[x, y] t (0, 0))).drew := by
  obtain ⟨h1, h2, h3, h4, h5, h6⟩ := boxes_new w p q x y t
  exact ⟨_, _, rfl, rfl, h1, h2, h3, h4, by omega, by omega, h6⟩
theorem boxes_b (w : World) (p q x y : Value) (t : TypeId) : Boxes w p q x y (.pointer (some ⟨w.heap.size + 1, 0, none⟩)) (.pointer (some ⟨w.heap.size, 0, none⟩)) ((w.alloc (.cells #[x, y] t (0, 0))).alloc (.cells #[p, q] t (0, 0))).drew := by
  obtain ⟨h1, h2, h3, h4, h5, h6⟩ := boxes_new w x y p q t
  exact ⟨_, _, rfl, rfl, h3, h4, h1, h2, by omega, by omega, h6⟩
theorem put_start {B pb : Nat} {w w1 : World} {pv : Value} {r : List (Nat × Nat)} {x y g cap : Nat} {o1 o2 : Obj} {P M : List (Nat × Nat)} (H : PileAt B pb w pv r.reverse) (hr : ∀ x, x ∈ r → x.1 ≤ 62 ∧ x.2 ≤ 4611686018427387904) (hx : x ≤ 63) (hy : y ≤ 4611686018427387904) (hl : r.length ≤ 4000)
    (hP : P = (putR r (x, y)).1) (hM : M = (putR r (x, y)).2) {n : Nat} (hn : n = r.reverse.length + 1)
    (hown2 : w1.ownsRow B 28 2 (.slice (some ⟨g, 0, none⟩) n cap) n (spotC r.reverse ++ [.int .u8 (x : Int), .int .u64 (y : Int)]))
    (hgrow : ((w.alloc o1).alloc o2).drew.grownBy w1 pv.ownBlock) (hat : pv.ownBlock = some g ∨ g = w.heap.size + 2) :
    PutRel B pb w pv.ownBlock P M r.length (.slice none 0 0) (w1.setCell ⟨pb, 0, none⟩ (.slice (some ⟨g, 0, none⟩) n cap)) := by
  have plt := H.lt
  have ng : g ≠ pb := by
    rintro rfl
    rcases hat with h | h
    · exact H.apart h
    · omega
  have e : ((x, y) :: r).reverse = r.reverse ++ [(x, y)] := by simp
  refine ⟨_, r, [], (x, y), pile_set (pv := pv) ?_ ?_ ?_, World.ownsRow_nil _ _ _ _, ?_, ?_, ?_, hr, hx, hy, rfl, by simpa using hl, hP.symm, hM.symm⟩
  · rw [hgrow.block pb (by show pb < ((w.alloc _).alloc _).heap.size; simp; omega) (fun e => H.apart e.symm)]
    show ((w.alloc _).alloc _).heap[pb]? = _
    rw [heap_alloc_old _ _ (by simp; omega), heap_alloc_old _ _ plt]
    exact H.heap
  · rw [e, spotC_append, List.length_append]
    subst hn
    exact hown2
  · intro e
    simp [Value.ownBlock] at e
    exact ng e
  · exact ((((Touch.refl pb pv.ownBlock w).alloc _).alloc _).drew.grown hgrow (.inl rfl)).set _ _
  · rcases hat with h | h
    · left; rw [h]; rfl
    · right; exact ⟨g, rfl, by omega⟩
  · intro b hb; simp [Value.ownBlock]
def Nine (B pb : Nat) (w : World) (R0 : Option Nat) (l m : List (Nat × Nat)) (v : Value) (d p h : Nat) (wx : World) : Prop :=
  ∃ pv, PileAt B pb wx pv l.reverse ∧ wx.ownsRow w.heap.size 28 2 v m.length (spotC m) ∧ Touch pb R0 w wx ∧ (pv.ownBlock = R0 ∨ ∃ b, pv.ownBlock = some b ∧ w.heap.size ≤ b) ∧ (∀ b, pv.ownBlock = some b → v.ownBlock ≠ some b) ∧
    wx.cell? ⟨d, 0, none⟩ = some (.int .u8 (p : Int)) ∧ wx.cell? ⟨d, 1, none⟩ = some (.int .u64 (h : Int)) ∧ d < wx.heap.size
theorem put_ml {k : Nat} (h : k + 1 ≤ 4000) : k + 1 ≤ maxLen ∧ (k + 1) * 16 ≤ 140737488355328 := by unfold maxLen; omega
theorem put_m5 {m : List (Nat × Nat)} {k : Nat} (h : m.length + (k + 1) ≤ 4000) : m.length + 1 ≤ 4000 := by omega
theorem put_hb {B : Nat} {w : World} (h : B ≤ w.heap.size) (o1 o2 : Obj) : B ≤ ((w.alloc o1).alloc o2).drew.heap.size := by
  show B ≤ ((w.alloc _).alloc _).heap.size
  simp; omega
theorem put_own {B : Nat} {wc : World} {g n cap k : Nat} {r : List (Nat × Nat)} {a s : Nat × Nat} (h : wc.ownsRow B 28 2 (.slice (some ⟨g, 0, none⟩) n cap) ((s :: a :: r).reverse).length (spotC (s :: a :: r).reverse)) (hk : r.length = k) :
    wc.ownsRow B 28 2 (.slice (some ⟨g, 0, none⟩) k cap) k (spotC r.reverse) := by
  have hn : n = ((s :: a :: r).reverse).length := by
    rcases h.2 with ⟨h, _⟩ | ⟨g', cap', cur, hv, _⟩
    · cases h
    · cases hv; rfl
  rw [← hn] at h
  refine own_take h (by rw [hn]; simp; omega) ?_
  rw [List.reverse_cons, List.reverse_cons, List.append_assoc, spotC_append, ← hk]
  have : (spotC r.reverse).length = r.length * 2 := by rw [spotC_len, List.length_reverse]
  rw [← this, List.take_left]
theorem put_cap {B : Nat} {wc : World} {g n cap k : Nat} {r : List (Nat × Nat)} {a s : Nat × Nat} (h : wc.ownsRow B 28 2 (.slice (some ⟨g, 0, none⟩) n cap) ((s :: a :: r).reverse).length (spotC (s :: a :: r).reverse)) (hk : r.length = k) : k ≤ cap := by
  rcases h.2 with ⟨h, _⟩ | ⟨g', cap', cur, hv, _, _, hc, _⟩
  · cases h
  · cases hv
    simp at hc
    omega
theorem put_step {B pb : Nat} {w wc w1 : World} {R0 : Option Nat} {g g' n cap cap' k p h : Nat} {l r m : List (Nat × Nat)} {v : Value} {t : TypeId} {o2 : Obj} (hpw : pb < w.heap.size) (hp : PileAt B pb wc (.slice (some ⟨g, 0, none⟩) n cap) l)
    (KE : wc.ownsRow w.heap.size 28 2 v m.length (spotC m) ∧ Touch pb R0 w wc ∧ ((Value.slice (some ⟨g, 0, none⟩) n cap).ownBlock = R0 ∨ ∃ b, (Value.slice (some ⟨g, 0, none⟩) n cap).ownBlock = some b ∧ w.heap.size ≤ b) ∧ (∀ b, (Value.slice (some ⟨g, 0, none⟩) n cap).ownBlock = some b → v.ownBlock ≠ some b))
    (hk : k = r.length) (hown2 : w1.ownsRow B 28 2 (.slice (some ⟨g', 0, none⟩) (k + 1) cap') (k + 1) (spotC r.reverse ++ [.int .u8 (p : Int), .int .u64 (h : Int)]))
    (hgrow : ((wc.alloc (.cells #[.int .u8 (p : Int), .int .u64 (h : Int)] t (0, 0))).alloc o2).drew.grownBy w1 (some g)) (hat : some g = some g' ∨ g' = wc.heap.size + 2) :
    Nine B pb w R0 ((p, h) :: r) m v wc.heap.size p h (w1.setCell ⟨pb, 0, none⟩ (.slice (some ⟨g', 0, none⟩) (k + 1) cap')) := by
  obtain ⟨k1, k2, k3, k4⟩ := KE
  have plt := hp.lt
  have gb := hp.own.lt g rfl
  have ngp : g ≠ pb := by
    rintro rfl
    exact hp.apart rfl
  have ng' : g' ≠ pb := by
    rintro rfl
    rcases hat with h | h
    · exact hp.apart h
    · omega
  have sz : ((wc.alloc (.cells #[.int .u8 (p : Int), .int .u64 (h : Int)] t (0, 0))).alloc o2).drew.heap.size = wc.heap.size + 2 := by show ((wc.alloc _).alloc _).heap.size = _; simp
  have e : ((p, h) :: r).reverse = r.reverse ++ [(p, h)] := by simp
  have nvg : v.ownBlock ≠ some g := k4 g rfl
  have dblk : w1.heap[wc.heap.size]? = some (.cells #[.int .u8 (p : Int), .int .u64 (h : Int)] t (0, 0)) := by
    rw [hgrow.block _ (by omega) (fun e => by have := Option.some.inj e; omega)]
    show ((wc.alloc _).alloc _).heap[wc.heap.size]? = _
    rw [heap_alloc_old _ _ (by simp), heap_alloc_new]
  have dcell : ∀ off, (w1.setCell ⟨pb, 0, none⟩ (.slice (some ⟨g', 0, none⟩) (k + 1) cap')).cell? ⟨wc.heap.size, off, none⟩ = w1.cell? ⟨wc.heap.size, off, none⟩ := fun off =>
    World.cell?_of_block (heap_setCell_other _ _ _ _ (by show wc.heap.size ≠ pb; omega))
  have gs := hgrow.size
  have k1' : ((wc.alloc (.cells #[.int .u8 (p : Int), .int .u64 (h : Int)] t (0, 0))).alloc o2).drew.ownsRow w.heap.size 28 2 v m.length (spotC m) := (k1.alloc _).alloc _
  refine ⟨_, pile_set (pv := .slice (some ⟨g, 0, none⟩) n cap) ?_ ?_ ?_, own_set (k1'.kept hgrow (.inr nvg)) _ _ ?_, ?_, ?_, ?_, ?_, ?_, ?_⟩
  · rw [hgrow.block pb (by omega) (fun e => ngp (Option.some.inj e).symm)]
    show ((wc.alloc _).alloc _).heap[pb]? = _
    rw [heap_alloc_old _ _ (by simp; omega), heap_alloc_old _ _ plt]
    exact hp.heap
  · rw [e, spotC_append, List.length_append, List.length_reverse, ← hk]
    exact hown2
  · intro e
    simp [Value.ownBlock] at e
    exact ng' e
  · intro e
    have := k1.lt _ e
    have : w.heap.size ≤ pb := this.1
    omega
  · refine ((((k2.alloc _).alloc _).drew.grown hgrow ?_).set _ _)
    rcases k3 with h | ⟨b, hb, hle⟩
    · exact .inl h
    · right
      intro c hc
      have e1 : some g = some b := hb
      have e2 := Option.some.inj e1
      have e3 := Option.some.inj hc
      omega
  · rcases hat with h | h
    · rw [← Option.some.inj h]; exact k3
    · right
      have := k2.size
      exact ⟨g', rfl, by omega⟩
  · intro b hb hv
    have e1 : g' = b := by simpa [Value.ownBlock] using hb
    rcases hat with h | h
    · exact nvg (by rw [hv, ← e1, h])
    · have := (k1.lt _ hv).2
      omega
  · rw [dcell, cell_of_row _ _ _ _ _ _ dblk]; rfl
  · rw [dcell, cell_of_row _ _ _ _ _ _ dblk]; rfl
  · rw [World.size_setCell]; omega
theorem put_next {B pb : Nat} {w wx w2 : World} {R0 : Option Nat} {P M l m : List (Nat × Nat)} {v v' : Value} {d p h : Nat} {o : Obj} (hpw : pb < w.heap.size) (N : Nine B pb w R0 ((p, h) :: l) m v d p h wx) (hr : ∀ x, x ∈ l → x.1 ≤ 62 ∧ x.2 ≤ 4611686018427387904) (hp : p ≤ 63) (hh : h ≤ 4611686018427387904)
    (hm : m.length + (l.length + 1) ≤ 4000) (hP : (putR l (p, h)).1 = P) (hM : m ++ (p, h) :: (putR l (p, h)).2 = M)
    (hown : w2.ownsRow w.heap.size 28 2 v' (m.length + 1) (spotC m ++ [.int .u8 (p : Int), .int .u64 (h : Int)])) (hg : (wx.alloc o).grownBy w2 v.ownBlock) (hb : v'.ownBlock = v.ownBlock ∨ v'.ownBlock = some (wx.heap.size + 1)) :
    PutRel B pb w R0 P M l.length v' w2 := by
  obtain ⟨pv, n1, n2, n3, n4, n5, _⟩ := N
  have plt := n1.lt
  have nvp : v.ownBlock ≠ some pb := fun e => by have := (n2.lt _ e).1; omega
  have npv : pv.ownBlock = none ∨ pv.ownBlock ≠ v.ownBlock := by
    cases hb : pv.ownBlock with
    | none => exact .inl rfl
    | some b => exact .inr fun e => n5 b hb e.symm
  refine ⟨pv, l, m ++ [(p, h)], (p, h), ⟨?_, (n1.own.alloc _).kept hg npv, n1.apart⟩, ?_, (n3.alloc _).grown hg (.inr fun b hb => (n2.lt _ hb).1), n4, ?_, hr, hp, hh, rfl, by simp; omega, hP, by rw [← hM]; simp⟩
  · rw [hg.block pb (by simp; omega) (fun e => nvp e.symm), heap_alloc_old _ _ plt]
    exact n1.heap
  · rw [spotC_append, List.length_append]; exact hown
  · intro b hpb hv
    rcases hb with e | e
    · exact n5 b hpb (by rw [← e, hv])
    · rw [e] at hv
      have := Option.some.inj hv
      have := (n1.own.lt _ hpb).2
      omega
theorem put_done {B pb : Nat} {w wr wc : World} {pv v : Value} {R0 : Option Nat} {l P M m : List (Nat × Nat)} (hp : PileAt B pb wr pv l.reverse)
    (KE : wr.ownsRow w.heap.size 28 2 v m.length (spotC m) ∧ Touch pb R0 w wr ∧ (pv.ownBlock = R0 ∨ ∃ b, pv.ownBlock = some b ∧ w.heap.size ≤ b) ∧ (∀ b, pv.ownBlock = some b → v.ownBlock ≠ some b))
    (hb : Below wr.heap.size wr wc) (hP : (l, ([] : List (Nat × Nat))).1 = P) (hM : m ++ ([] : List (Nat × Nat)) = M) :
    ∃ v' pv', Ending.returned v = .returned v' ∧ PileAt B pb wc pv' P.reverse ∧ wc.ownsRow w.heap.size 28 2 v' M.length (spotC M) ∧ Touch pb R0 w wc ∧ (pv'.ownBlock = R0 ∨ ∃ b, pv'.ownBlock = some b ∧ w.heap.size ≤ b) ∧ (∀ b, pv'.ownBlock = some b → v'.ownBlock ≠ some b) := by
  subst hP
  rw [List.append_nil] at hM
  subst hM
  exact ⟨v, pv, rfl, hp.below hb, own_below KE.1 hb, KE.2.1.below hb, KE.2.2⟩
set_option maxHeartbeats 4000000 in
theorem put_any {B pb : Nat} {w : World} {pv : Value} {r : List (Nat × Nat)} {s : Nat × Nat} (H : PileAt B pb w pv r.reverse) (hB : B ≤ w.heap.size) (hr : ∀ x, x ∈ r → x.1 ≤ 62 ∧ x.2 ≤ 4611686018427387904) (hs1 : s.1 ≤ 63) (hs2 : s.2 ≤ 4611686018427387904) (hl : r.length ≤ 4000) :
    Calls Tryd.prog 27 #[.pointer (some ⟨pb, 0, none⟩), .agg #[.int .u8 (s.1 : Int), .int .u64 (s.2 : Int)]] w fun e w' => ∃ v pv', e = .returned v ∧ PileAt B pb w' pv' (putR r s).1.reverse ∧
      w'.ownsRow w.heap.size 28 2 v (putR r s).2.length (spotC (putR r s).2) ∧ Touch pb pv.ownBlock w w' ∧ (pv'.ownBlock = pv.ownBlock ∨ ∃ b, pv'.ownBlock = some b ∧ w.heap.size ≤ b) ∧ (∀ b, pv'.ownBlock = some b → v.ownBlock ≠ some b) := by
  obtain ⟨i0, hi, hz0, hz1, hz2⟩ := info_parts info_spot
  have pc := H.cell
  have pf := H.frozen
  have plt := H.lt
  have own := H.own
  have AP := Lib.hid H.apart
  have HH := Lib.hid H
  have PLW := Lib.hid plt
  obtain ⟨x, y⟩ := s
  have hx : x ≤ 63 := hs1
  have hy : y ≤ 4611686018427387904 := hs2
  have hlr : r.reverse.length = r.length := List.length_reverse
  have HR := Lib.hid hr
  have HPM : ∃ P M, P = (putR r (x, y)).1 ∧ M = (putR r (x, y)).2 := ⟨_, _, rfl, rfl⟩
  obtain ⟨P, M, hP, hM⟩ := HPM
  rw [← hP, ← hM]
  have HP := Lib.hid hP
  have HM := Lib.hid hM
  clear hr hs1 hs2 H hP hM
  go_enter Tryd.func27, Tryd.ntmps27
  go_wp2
  go_step3
  go_wp2
  go_cut [] (fun wx => PutRel B pb w pv.ownBlock P M r.length (.slice none 0 0) wx)
  case first =>
    go_region_law (refine step_append_lies _ rfl (.tmp 14) (.tmp 16) 49 rfl B 28 i0 (.agg #[.int .u8 0, .int .u64 0]) 2 16 cut_pile hi hz0 hz1 hz2 rfl (by decide) pv _ _ (by simp [Act.eval]) ((own.alloc _).alloc _) ⟨w.heap.size + 1, 0, none⟩ 1 1 [.int .u8 (x : Int), .int .u64 (y : Int)] (by simp [Act.eval]) rfl (cell_new2H _ _ _ _ _ (by simp)) (two_ints _ _ _ _) (by decide) (by unfold maxLen; omega) (by omega) (by simp; omega) (w.heap.size + 2) (by simp) ?_; intro g cap w1 hown2 hgrow hat hlt; have cf := pile_far (below_two w _ _).drew hgrow pc pf plt AP.out; have c1 := cf.1; have f1 := cf.2; clear cf)
    all_goals
      go_wp2_with fail
      go_meet
      exact put_start HH.out HR.out hx hy hl HP.out HM.out (by rw [hlr]) (by rw [hlr] at hown2; exact hown2) hgrow hat
  case rest =>
    clear pc pf plt own
    go_wp2
    go_step3
    go_wp2
    go_loopg [5] r.length (fun g v wr => PutRel B pb w pv.ownBlock P M g v wr)
    case atStart => exact hcut
    case round =>
      obtain ⟨qv, r2, m, s2, hp, hown, ht, hat2, hdis, hr2, hs1, hs2, hl2, h4, hP2, hM2⟩ := hrel
      obtain ⟨x2, y2⟩ := s2
      have pc := hp.cell
      have pf := hp.frozen
      obtain ⟨g, cap, hv, _, hg⟩ := hp.own.form (by simp)
      have hlen : ((x2, y2) :: r2).reverse.length = r2.length + 1 := by simp
      rw [hlen] at hv
      subst hv
      subst hl2
      cases r2 with
      | nil =>
        rw [putR_nil] at hP2 hM2
        rw [List.append_nil] at hM2
        subst hP2 hM2
        clear hr2 hlen
        simp only [List.length_nil, Nat.zero_add] at *
        go_wp2
        try rw [Exit.noGoto_ret]
        go_ret
        exact ⟨_, _, rfl, hp, hown, ht, hat2, hdis⟩
      | cons a r3 =>
        obtain ⟨p, q⟩ := a
        have hp1 : p ≤ 62 := (hr2 (p, q) (List.Mem.head _)).1
        have hq1 : q ≤ 4611686018427387904 := (hr2 (p, q) (List.Mem.head _)).2
        have hrev : ((x2, y2) :: (p, q) :: r3).reverse = r3.reverse ++ [(p, q), (x2, y2)] := by simp
        obtain ⟨k, hk⟩ : ∃ k, r3.length = k := ⟨_, rfl⟩
        have hk2 : r3.reverse.length = k := by simp [hk]
        have cells : ∀ (j : Nat) (u : Value), (spotC (r3.reverse ++ [(p, q), (x2, y2)]))[j]? = some u → wr.cell? ⟨g, j, none⟩ = some u := fun j u hj => by
          have := hp.own.cells (g := g) rfl j u (by rw [hrev]; exact hj)
          rwa [addr0] at this
        have t1 := spotC_get (r3.reverse ++ [(p, q), (x2, y2)]) k (p, q) (by rw [List.getElem?_append_right (by omega), hk2, Nat.sub_self]; rfl)
        have t2 := spotC_get (r3.reverse ++ [(p, q), (x2, y2)]) (k + 1) (x2, y2) (by rw [List.getElem?_append_right (by omega), hk2, show k + 1 - k = 1 by omega]; rfl)
        have c1 := cells _ _ t1.1
        have c2 := cells _ _ t1.2
        have c3 := cells _ _ t2.1
        have c4 := cells _ _ t2.2
        rw [Nat.mul_comm] at c1 c2 c3 c4
        dsimp only at c1 c2 c3 c4
        have en : ((p, q) :: r3).length = k + 1 := by simp [hk]
        rw [en] at pc
        rw [en] at h4
        have hm4 := h4
        replace h4 : k + 1 ≤ 4000 := Nat.le_trans (Nat.le_add_left _ _) h4
        obtain ⟨n, hn⟩ : ∃ n, k + 1 + 1 = n := ⟨_, rfl⟩
        obtain ⟨k1, hk1⟩ : ∃ k1, k + 1 = k1 := ⟨_, rfl⟩
        rw [hk1] at c3 c4
        have e2 : (n : Int) - 2 = (k : Int) := by omega
        have e1 : (n : Int) - 1 = (k1 : Int) := by omega
        have b1 : (k : Int) < (n : Int) := by omega
        have b2 : (k1 : Int) < (n : Int) := by omega
        have b1' : k < n := by omega
        have b2' : k1 < n := by omega
        have b3 : decide ((n : Int) < 2) = false := decide_eq_false (by omega)
        have b4 : decide (n < 2) = false := decide_eq_false (by omega)
        have b5 : (2 : Int) ≤ (n : Int) := by omega
        obtain ⟨wk, wki⟩ := put_w k (Nat.le_of_succ_le h4)
        obtain ⟨wk1, wki1⟩ := put_w k1 (hk1 ▸ h4)
        have HN := Lib.hid hn
        have HK := Lib.hid hk
        have HK1 := Lib.hid hk1
        rw [hn] at pc
        have HPL := Lib.hid hp
        have CE := Lib.hid cells
        have T := Lib.hid (And.intro t1 t2)
        clear hn hk1 cells t1 t2 hp hrev hlen en
        go_wp2
        have KEEP := Lib.hid (And.intro hown (And.intro ht (And.intro hat2 hdis)))
        clear hown ht hat2 hdis
        go_cut [8, 9] (fun s8 s9 wx => Boxes wr (.int .u8 (p : Int)) (.int .u64 (q : Int)) (.int .u8 (x2 : Int)) (.int .u64 (y2 : Int)) s8 s9 wx)
        case first =>
          go_region
          all_goals
            go_wp2_with fail
            go_meet
            first | exact boxes_a _ _ _ _ _ _ | exact boxes_b _ _ _ _ _ _
        case rest =>
          generalize wc = wd at *
          obtain ⟨d1, d2, rfl, rfl, f1, f2, f3, f4, l1, l2, hb⟩ := hcut
          clear c1 c2 c3 c4 wk1 wki1
          by_cases hpx : p = x2
          · have hpx2 : ((p : Int) != (x2 : Int)) = false := by rw [bne_eq_false_iff_eq]; omega
            have PX := Lib.hid hpx
            clear hpx
            by_cases hq2 : q % 2 = 0
            · have an : bits .and .u64 (q : Int) 1 = 0 := by rw [and1_u64 (by omega), hq2]; rfl
              have Q2 := Lib.hid hq2
              clear hq2
              have wq : IntKind.u64.wrap ((q : Int) + 1) = (q : Int) + 1 := by rw [wrap_u64]; omega
              by_cases hyq : y2 = q + 1
              · have SB : Sib (p, q) (x2, y2) := ⟨PX.out, Q2.out, hyq⟩
                rw [putR_up r3 SB] at hP2 hM2
                have HP2 := Lib.hid hP2
                have HM2 := Lib.hid hM2
                have wq2 : IntKind.u64.wrap ((q : Int) + 1) = (y2 : Int) := by rw [wrap_u64]; omega
                obtain ⟨h, hh⟩ : ∃ h, q / 2 = h := ⟨_, rfl⟩
                obtain ⟨p1, hpp⟩ : ∃ p1, p + 1 = p1 := ⟨_, rfl⟩
                have pw : IntKind.u8.wrap ((p : Int) + 1) = (p1 : Int) := by
                  rw [← hpp]
                  simp [IntKind.wrap, IntKind.bits, IntKind.signed]
                  omega
                have dq : (q : Int) / 2 = (h : Int) := by omega
                have hle : h ≤ 4611686018427387904 := by omega
                have p1le : p1 ≤ 63 := by omega
                rw [show upS (p, q) = (p1, h) by unfold upS; rw [← hpp, ← hh]] at hP2 hM2
                have HP2 := Lib.hid hP2
                have HM2 := Lib.hid hM2
                have hp9 := HPL.out.below hb
                have KE9 := KEEP.out
                have KE9 := And.intro (own_below KE9.1 hb) (And.intro (KE9.2.1.below hb) KE9.2.2)
                have pc9 := hp9.cell
                have pf9 := hp9.frozen
                have plt9 := hp9.lt
                have apart9 := hp9.apart
                have ownk : wd.ownsRow B 28 2 (.slice (some ⟨g, 0, none⟩) k cap) k (spotC r3.reverse) := put_own hp9.own HK.out
                have kcap : k ≤ cap := put_cap hp9.own HK.out
                have kcap2 : (k : Int) ≤ (cap : Int) := Int.ofNat_le.2 kcap
                have hBc : B ≤ wd.heap.size := Nat.le_trans hB (Nat.le_trans KEEP.out.2.1.size hb.size)
                obtain ⟨ml1, ml2⟩ := put_ml h4
                have E9 := Lib.hid (And.intro hp9 (And.intro KE9 apart9))
                have HR2 := Lib.hid hr2
                clear hh hpp hp9 KE9 apart9 hyq SB hP2 hM2 wq hr2
                go_wp2
                go_cut [] (fun wx => Nine B pb w pv.ownBlock ((p1, h) :: r3) m u5 wd.heap.size p1 h wx)
                case first =>
                  go_region_law (refine step_append_lies _ rfl (.tmp 66) (.tmp 68) 49 rfl B 28 i0 (.agg #[.int .u8 0, .int .u64 0]) 2 16 cut_pile hi hz0 hz1 hz2 rfl (by decide) (.slice (some ⟨g, 0, none⟩) k cap) _ _ (by simp [Act.eval]) ((ownk.alloc _).alloc _) ⟨wd.heap.size + 1, 0, none⟩ 1 1 [.int .u8 (p1 : Int), .int .u64 (h : Int)] (by simp [Act.eval]) rfl (cell_new2H _ _ _ _ _ (by simp)) (two_ints _ _ _ _) (by decide) ml1 ml2 (put_hb hBc _ _) (wd.heap.size + 2) (by simp) ?_; intro g' cap' w1 hown2 hgrow hat hlt; have cf := pile_far (below_two wd _ _).drew hgrow pc9 pf9 plt9 E9.out.2.2; have c1 := cf.1; have f1 := cf.2; clear cf)
                  all_goals
                    go_wp2_with fail
                    go_meet
                    exact put_step PLW.out E9.out.1 E9.out.2.1 HK.out.symm hown2 hgrow hat
                case rest =>
                  have NI := Lib.hid hcut
                  have own9 := hcut.choose_spec.2.1
                  have e123 := hcut.choose_spec.2.2.2.2.2
                  have e1 := e123.1
                  have e2 := e123.2.1
                  have e3 := e123.2.2
                  have hm5 : m.length + 1 ≤ 4000 := put_m5 hm4
                  obtain ⟨ml3, ml4⟩ := put_ml hm5
                  have hBw : w.heap.size ≤ wc.heap.size := hcut.choose_spec.2.2.1.size
                  clear hcut e123 f1 f2 f3 f4 l1 l2 pc9 pf9 plt9 ownk kcap kcap2
                  go_wp2_with (at_builtin; refine wpList_append_lies _ rfl (.tmp 71) (.tmp 73) 23 rfl w.heap.size 28 i0 (.agg #[.int .u8 0, .int .u64 0]) 2 16 Tryd.underlying23 hi hz0 hz1 hz2 rfl (by decide) u5 _ _ rfl (own9.alloc _) ⟨wc.heap.size, 0, none⟩ 1 1 [.int .u8 (p1 : Int), .int .u64 (h : Int)] rfl rfl (cell_new2 _ _ _ _) (two_ints _ _ _ _) (by decide) ml3 ml4 (by simp; omega) (wc.heap.size + 1) (by simp) ?_; intro g9 cap9 w9 hown9 hg9 hat9 hlt9)
                  go_roundg r3.length
                  case measure => simp
                  case rel =>
                    exact put_next PLW.out NI.out (fun x hx => HR2.out x (List.Mem.tail _ hx)) p1le hle (by rw [HK.out]; exact hm4) HP2.out HM2.out hown9 hg9 (hat9.imp (fun h => h.symm) (fun h => by rw [h]; rfl))
              · have ny : ((y2 : Int) != (q : Int) + 1) = true := by rw [bne_iff_ne]; omega
                have SB : ¬ Sib (p, q) (x2, y2) := fun h => hyq h.2.2
                rw [putR_no r3 SB] at hP2 hM2
                have HP2 := Lib.hid hP2
                have HM2 := Lib.hid hM2
                clear hyq SB hP2 hM2
                go_wp2
                try rw [Exit.noGoto_ret]
                go_ret
                exact put_done HPL.out KEEP.out hb HP2.out HM2.out
            · have an : bits .and .u64 (q : Int) 1 = 1 := by rw [and1_u64 (by omega), show q % 2 = 1 by omega]; rfl
              have SB : ¬ Sib (p, q) (x2, y2) := fun h => hq2 h.2.1
              rw [putR_no r3 SB] at hP2 hM2
              have HP2 := Lib.hid hP2
              have HM2 := Lib.hid hM2
              clear hq2 SB hP2 hM2
              go_wp2
              try rw [Exit.noGoto_ret]
              go_ret
              exact put_done HPL.out KEEP.out hb HP2.out HM2.out
          · have hpx2 : ((p : Int) != (x2 : Int)) = true := by rw [bne_iff_ne]; omega
            have SB : ¬ Sib (p, q) (x2, y2) := fun h => hpx h.1
            rw [putR_no r3 SB] at hP2 hM2
            have HP2 := Lib.hid hP2
            have HM2 := Lib.hid hM2
            clear hpx SB hP2 hM2
            go_wp2
            try rw [Exit.noGoto_ret]
            go_ret
            exact put_done HPL.out KEEP.out hb HP2.out HM2.out
end Go.Proofs.YtpbahbigimnboaaDoor
