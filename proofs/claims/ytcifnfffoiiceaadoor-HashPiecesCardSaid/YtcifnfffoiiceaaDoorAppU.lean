/-
  'append' of one word to a row of uint64 of the call's own; the reference's words.
-/
import Derived.Test.YtcifnfffoiiceaaDoorSha
import Derived.Test.YtcifnfffoiiceaaDoorCells
import Derived.Test.YtcifnfffoiiceaaDoorApp
import Derived.RegionTactic
import Derived.Deep.RegionHeld3
import Derived.Deep.AppendLies
import Derived.Lib.SliceRun
namespace Go.Proofs.YtcifnfffoiiceaaDoor
open Go.RowKit
set_option linter.unusedVariables false

theorem info_u64 : (Tryd.prog.info? 44).map (fun i => (i.zero, i.size, i.bytes)) = some (some (.int .u64 0), 1, 8) := by kernel_rfl
theorem step_u64 {ops : Array Oper} {o : Oper} {a : Act} {K : Act → World → Prop} {Q : Exit → Act → World → Prop} {E : Prop} {w : World} (s x : Operand) (hgd : o.guard = none)
    (ho : o.op = .call { callee := .builtin .append, args := #[s, x], argTypes := #[73, 73] })
    (Z : Nat) (v : Value) (n : Nat) (xs : List Value) (hs : a.eval s = v) (hown : w.ownsRow Z 44 1 v n xs) (B : Nat) (hx : a.eval x = .slice (some ⟨B, 0, none⟩) 1 1)
    {u : Int} {t : TypeId} (hb : w.heap[B]? = some (.cells #[.int .u64 u] t (0, 0))) (hn : n ≤ 4000) (hZ : Z ≤ w.heap.size)
    (h : ∀ g cap w', w'.ownsRow Z 44 1 (.slice (some ⟨g, 0, none⟩) (n + 1) cap) (n + 1) (xs ++ [.int .u64 u]) → w.grownBy w' v.ownBlock → K (a.put o.dst (.slice (some ⟨g, 0, none⟩) (n + 1) cap)) w') :
    if Region.wanted o (yielded ops a.tmps) = true then Oper.wp Tryd.prog o a w K Q else E := by
  obtain ⟨i0, hi, hz0, hz1, hz2⟩ := info_parts info_u64
  exact step_append_lies w hgd s x 73 ho Z 44 i0 (.int .u64 0) 1 8 Tryd.underlying73 hi hz0 hz1 hz2 rfl (by decide) v n xs hs hown ⟨B, 0, none⟩ 1 1 [.int .u64 u] hx rfl
    (World.news_of_block (B := B) (cs := #[.int .u64 u]) (t := t) (fr := (0, 0)) hb) (one_int _ _) (by decide) (by unfold maxLen; omega) (by omega) hZ w.heap.size rfl (fun g cap w' h1 h2 h3 _ => h g cap w' h1 h2)

/-- The j-th word. -/
theorem words_at : ∀ {l : List Nat} {j : Nat}, 4 * j + 4 ≤ l.length → (wordsN l)[j]? = some (((l.getD (4 * j) 0 * 256 + l.getD (4 * j + 1) 0) * 256 + l.getD (4 * j + 2) 0) * 256 + l.getD (4 * j + 3) 0)
  | a :: b :: c :: d :: l, 0, _ => by simp [wordsN]
  | a :: b :: c :: d :: l, j + 1, h => by
    have e : 4 * (j + 1) = 4 * j + 1 + 1 + 1 + 1 := by omega
    rw [wordsN, List.getElem?_cons_succ, words_at (by simp at h; omega), e]
    rfl
  | [], j, h => by simp at h
  | [_], j, h => by simp at h
  | [_, _], j, h => by simp at h <;> omega
  | [_, _, _], j, h => by simp at h <;> omega
theorem words_len : ∀ {n : Nat} {l : List Nat}, l.length = 4 * n → (wordsN l).length = n
  | 0, l, h => by
    obtain rfl : l = [] := List.eq_nil_of_length_eq_zero (by omega)
    rfl
  | n + 1, a :: b :: c :: d :: l, h => by
    rw [wordsN, List.length_cons, words_len (n := n) (by simp at h; omega)]
  | n + 1, [], h => by simp at h
  | n + 1, [_], h => by simp at h; omega
  | n + 1, [_, _], h => by simp at h; omega
  | n + 1, [_, _, _], h => by simp at h; omega
theorem words_words {l : List Nat} (h : Bytes l) {n : Nat} (hl : l.length = 4 * n) : Words (wordsN l) := by
  intro x hx
  obtain ⟨j, hj⟩ := List.getElem?_of_mem hx
  have hjl : j < n := by
    have := (List.getElem?_eq_some_iff.1 hj).1
    rwa [words_len hl] at this
  rw [words_at (by omega)] at hj
  have key : ∀ i, i < l.length → l.getD i 0 < 256 := fun i hi => by
    rw [List.getD_eq_getElem?_getD, List.getElem?_eq_getElem hi]
    exact h _ (List.getElem_mem hi)
  have k0 := key (4 * j) (by omega)
  have k1 := key (4 * j + 1) (by omega)
  have k2 := key (4 * j + 2) (by omega)
  have k3 := key (4 * j + 3) (by omega)
  have := Option.some.inj hj
  omega
theorem take_snoc {l : List Nat} {j x : Nat} (h : l[j]? = some x) : l.take (j + 1) = l.take j ++ [x] := by
  rw [List.take_add_one, h]
  rfl
theorem keep4 {w : World} {p1 p2 p3 p4 : Addr} {v1 v2 v3 v4 : Value} (o : Obj) (h : w.cell? p1 = some v1 ∧ w.cell? p2 = some v2 ∧ w.cell? p3 = some v3 ∧ w.cell? p4 = some v4) :
    (w.alloc o).cell? p1 = some v1 ∧ (w.alloc o).cell? p2 = some v2 ∧ (w.alloc o).cell? p3 = some v3 ∧ (w.alloc o).cell? p4 = some v4 :=
  ⟨Go.Lib.cell?_alloc_some o h.1, Go.Lib.cell?_alloc_some o h.2.1, Go.Lib.cell?_alloc_some o h.2.2.1, Go.Lib.cell?_alloc_some o h.2.2.2⟩
theorem keepB4 {w w' : World} {Z : Nat} {p1 p2 p3 p4 : Addr} {v1 v2 v3 v4 : Value} (h : Below Z w w') (h1 : p1.block < Z) (h2 : p2.block < Z) (h3 : p3.block < Z) (h4 : p4.block < Z) (hc : w.cell? p1 = some v1 ∧ w.cell? p2 = some v2 ∧ w.cell? p3 = some v3 ∧ w.cell? p4 = some v4) :
    w'.cell? p1 = some v1 ∧ w'.cell? p2 = some v2 ∧ w'.cell? p3 = some v3 ∧ w'.cell? p4 = some v4 :=
  ⟨(h.cell h1).trans hc.1, (h.cell h2).trans hc.2.1, (h.cell h3).trans hc.2.2.1, (h.cell h4).trans hc.2.2.2⟩
theorem grown_new {wr wx w9 : World} {Z : Nat} {R : Option Nat} (z1 : Z ≤ wr.heap.size) (h : wx.grownBy w9 R) (hR : ∀ k, R = some k → Z ≤ k) (hx : Below Z wr wx := by first | exact ((Below.refl _ _).alloc (by assumption) _).drew | exact (((Below.refl _ _).drew).alloc (by assumption) _) | exact ((Below.refl _ _).alloc (by assumption) _)) : Below Z wr w9 :=
  hx.grown h (Nat.le_trans z1 hx.size) hR
/-- One step of an integer row: four bytes of a slice, one word more. -/
theorem words_any {l : List Nat} {v : Value} {n : Nat} (hl : l.length = 4 * n) (hn : n ≤ 16) (hB : Bytes l) (w : World) (hv : SliceOf u8c w v l) :
    Calls Tryd.prog 49 #[v] w fun e w' => ∃ v', e = .returned v' ∧ w'.ownsRow w.heap.size 44 1 v' n ((wordsN l).map u64c) ∧ Below w.heap.size w w' := by
  obtain ⟨a, ca, rfl, a1, a2, a3, a4⟩ := hv.form
  have A3 := Lib.hid a3
  have A4 := Lib.hid a4
  have WL := Lib.hid (words_len hl)
  have HB := Lib.hid hB
  have HL := Lib.hid hl
  have Li : (l.length : Int) = 4 * (n : Int) := by omega
  have bn : (n : Int) ≤ 16 := by omega
  clear a1 a2 a3 a4 hv hl hB
  rw [HL.out]
  obtain ⟨N4, hN4⟩ : ∃ N4, 4 * n = N4 := ⟨_, rfl⟩
  have H4 := Lib.hid hN4
  have bN : N4 ≤ 64 := by omega
  have bNi : (N4 : Int) ≤ 64 := by omega
  rw [hN4]
  clear Li hN4
  generalize hZ : w.heap.size = Z
  have HZ := Lib.hid hZ
  clear hZ
  go_enter Tryd.func49, Tryd.ntmps49
  go_wp2
  go_loopw [3, 4] (fun o i wr => ∃ j : Nat, j ≤ n ∧ i = .int .i64 ((4 * j : Nat) : Int) ∧ wr.ownsRow Z 44 1 o j (((wordsN l).take j).map u64c) ∧ Below Z w wr) (fun _ i _ => 64 - (intOf i).toNat)
  case atStart => exact ⟨0, by omega, rfl, ⟨rfl, .inl ⟨rfl, rfl⟩⟩, by rw [← HZ.out]; exact Below.refl _ _⟩
  case round =>
    obtain ⟨j, hj, rfl, own, hbr⟩ := hrel
    have h4 := H4.out
    by_cases hlt : j < n
    · obtain ⟨q, hq⟩ : ∃ q, 4 * j = q := ⟨_, rfl⟩
      have q3 : q + 3 < N4 := by omega
      have WA := words_at (l := l) (j := j) (by rw [HL.out]; omega)
      rw [hq] at WA ⊢
      have at_ : ∀ i, i < N4 → ∃ c, l[i]? = some c ∧ l.getD i 0 = c ∧ c < 256 := fun i hi => by
        have hil : i < l.length := by rw [HL.out]; omega
        exact ⟨l[i], List.getElem?_eq_getElem hil, by rw [List.getD_eq_getElem?_getD, List.getElem?_eq_getElem hil]; rfl, HB.out _ (List.getElem_mem hil)⟩
      obtain ⟨x0, g0, d0, l0⟩ := at_ q (by omega)
      obtain ⟨x1, g1, d1, l1⟩ := at_ (q + 1) (by omega)
      obtain ⟨x2, g2, d2, l2⟩ := at_ (q + 2) (by omega)
      obtain ⟨x3, g3, d3, l3⟩ := at_ (q + 3) (by omega)
      rw [d0, d1, d2, d3] at WA
      obtain ⟨b, off, rfl⟩ := A3.out q x0 g0
      have cellw := fun i x (hx : l[i]? = some x) => A4.out b off rfl i x hx
      have bl : b < Z := by rw [← HZ.out]; exact block_lt_of_cell (cellw _ _ g0)
      have cell := fun i x (hx : l[i]? = some x) => (hbr.cell (p := ⟨b, off + i, none⟩) bl).trans (cellw i x hx)
      have c0 := cell _ _ g0
      have c1 := cell _ _ g1
      have c2 := cell _ _ g2
      have c3 := cell _ _ g3
      unfold u8c at c0 c1 c2 c3
      have S0 := Lib.hid (And.intro c0 (And.intro c1 (And.intro c2 c3)))
      have qi : (q : Int) + 3 < (N4 : Int) := by omega
      have z1 : Z ≤ wr.heap.size := by have := hbr.size; have := HZ.out; omega
      have i0 : (x0 : Int) ≤ 255 := by omega
      have i1 : (x1 : Int) ≤ 255 := by omega
      have i2 : (x2 : Int) ≤ 255 := by omega
      have i3 : (x3 : Int) ≤ 255 := by omega
      obtain ⟨y, hy⟩ : ∃ y, ((x0 * 256 + x1) * 256 + x2) * 256 + x3 = y := ⟨_, rfl⟩
      rw [hy] at WA
      have XW := Lib.hid WA
      have yi : (((x0 : Int) * 256 + x1) * 256 + x2) * 256 + x3 = (y : Int) := by omega
      have yw : IntKind.u64.wrap ((((x0 : Int) * 256 + x1) * 256 + x2) * 256 + x3) = (y : Int) := by rw [wrap_u64]; omega
      have xw : IntKind.u64.wrap (x3 : Int) = (x3 : Int) := by clear yw; rw [wrap_u64]; omega
      have YW := Lib.hid (show (IntKind.u64.wrap (IntKind.u64.wrap (IntKind.u64.wrap (IntKind.u64.wrap (IntKind.u64.wrap (IntKind.u64.wrap (IntKind.u64.wrap (x0 : Int) * 256) + IntKind.u64.wrap (x1 : Int)) * 256) + IntKind.u64.wrap (x2 : Int)) * 256) + (x3 : Int))) = (y : Int) by
        clear yw xw
        simp only [wrap_u64]
        omega)
      clear yi hy
      have q0 : (0 : Int) ≤ (q : Int) := by omega
      have qa : (q : Int) < (N4 : Int) := by omega
      have qb : (q : Int) + 1 < (N4 : Int) := by omega
      have qc : (q : Int) + 2 < (N4 : Int) := by omega
      have p1 : (0 : Int) ≤ (q : Int) + 1 := by omega
      have p2 : (0 : Int) ≤ (q : Int) + 2 := by omega
      have p3 : (0 : Int) ≤ (q : Int) + 3 := by omega
      have t1 : ((q : Int) + 1).toNat = q + 1 := by omega
      have t2 : ((q : Int) + 2).toNat = q + 2 := by omega
      have t3 : ((q : Int) + 3).toNat = q + 3 := by omega
      have w1 : IntKind.i64.wrap ((q : Int) + 1) = (q : Int) + 1 := by rw [IntKind.wrap_i64]; omega
      have w2 : IntKind.i64.wrap ((q : Int) + 2) = (q : Int) + 2 := by clear w1; rw [IntKind.wrap_i64]; omega
      have w3 : IntKind.i64.wrap ((q : Int) + 3) = (q : Int) + 3 := by clear w1 w2; rw [IntKind.wrap_i64]; omega
      have HQ := Lib.hid hq
      clear at_ cellw cell g0 g1 g2 g3 d0 d1 d2 d3 l0 l1 l2 l3 WA hq h4 c0 c1 c2 c3 q3
      go_wp2_with fail
      go_region_held3 (fun w' => w'.cell? ⟨b, off + q, none⟩ = some (.int .u8 (x0 : Int)) ∧ w'.cell? ⟨b, off + (q + 1), none⟩ = some (.int .u8 (x1 : Int)) ∧ w'.cell? ⟨b, off + (q + 2), none⟩ = some (.int .u8 (x2 : Int)) ∧ w'.cell? ⟨b, off + (q + 3), none⟩ = some (.int .u8 (x3 : Int))) (first | exact S0.out | exact keep4 _ S0.out | exact keepB4 BG bl bl bl bl S0.out | assumption)
        (first
          | (refine step_u64 (.tmp 12) (.tmp 42) (by rfl) (by rfl) Z _ j _ (by rfl) (own.alloc _) _ (by rfl) (heap_alloc_new _ _) (by omega) (by (try simp) <;> omega) ?_; intro g1 cap1 w9 own1 hg1; have BG : Below Z wr w9 := grown_new z1 hg1 (fun k hk => (own.lt k hk).1)))
      have own2 := own1
      rw [YW.out] at own2
      have hb2 : Below Z w w9 := hbr.trans BG
      clear own1 own hg1 BG t1 t2 t3 w1 w2 w3 yw xw
      have e4 : ((4 * (j + 1) : Nat) : Int) = (q : Int) + 4 := by have := HQ.out; omega
      have E4 := Lib.hid e4
      clear e4
      go_wp2
      go_roundw
      case rel => exact ⟨j + 1, by omega, by rw [E4.out], by rw [take_snoc XW.out, List.map_append]; exact own2, hb2⟩
      case measure => simp [intOf]; omega
    · obtain rfl : j = n := by omega
      rw [List.take_of_length_le (by rw [WL.out]; exact Nat.le_refl _)] at own
      rw [h4]
      go_wp2
      go_ret
      exact ⟨_, rfl, own, hbr⟩
end Go.Proofs.YtcifnfffoiiceaaDoor
