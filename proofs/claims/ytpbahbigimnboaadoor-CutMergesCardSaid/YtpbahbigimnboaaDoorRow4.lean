/-
  The laws' own row and marked of layer 4.
-/
import Derived.Test.YtpbahbigimnboaaDoorSpots
import Derived.Test.YtpbahbigimnboaaDoorPut
namespace Go.Proofs.YtpbahbigimnboaaDoor
open Go.RowKit
set_option linter.unusedVariables false

/-- A row of its own that reads as l, and the mark behind it. -/
def RowAt (B : Nat) (w : World) (g cap : Nat) (l : List (Nat × Nat)) : Prop := w.ownsRow B 28 2 (.slice (some ⟨g, 0, none⟩) (l.length + 1) cap) (l.length + 1) (spotC (l ++ [(171, 0)]))
theorem RowAt.below {B g cap : Nat} {w w' : World} {l : List (Nat × Nat)} (h : RowAt B w g cap l) (hb : Below w.heap.size w w') : RowAt B w' g cap l := own_below h hb
theorem RowAt.own {B g cap : Nat} {w : World} {l : List (Nat × Nat)} (h : RowAt B w g cap l) : w.ownsRow B 28 2 (.slice (some ⟨g, 0, none⟩) l.length cap) l.length (spotC l) := by
  refine own_take h (Nat.le_succ _) ?_
  rw [spotC_append, ← spotC_len, List.take_left]
theorem RowAt.spots {B g cap : Nat} {w : World} {l : List (Nat × Nat)} (h : RowAt B w g cap l) : SpotsOf w (.slice (some ⟨g, 0, none⟩) l.length cap) l := SpotsOf.of_own h.own
theorem own_made0 {w : World} {B : Nat} (hB : B ≤ w.heap.size) : (w.alloc (.cells #[] 28 (0, 0))).ownsRow B 28 2 (.slice (some ⟨w.heap.size, 0, none⟩) 0 0) 0 (spotC []) :=
  ⟨rfl, .inr ⟨w.heap.size, 0, #[], rfl, hB, heap_alloc_new _ _, Nat.le_refl _, Nat.zero_le _, rfl, rfl⟩⟩
theorem spots_mark (w : World) (h k : Nat) : SpotsOf (w.alloc (.cells #[.int .u8 (h : Int), .int .u64 (k : Int)] 28 (0, 0))) (.slice (some ⟨w.heap.size, 0, none⟩) 1 1) [(h, k)] := by
  refine ⟨some ⟨w.heap.size, 0, none⟩, 1, rfl, Nat.le_refl _, by unfold maxLen; omega, (fun e => by cases e), .inr ⟨w.heap.size, 0, rfl, fun j x hj => ?_⟩⟩
  cases j with
  | zero =>
    have e : (h, k) = x := Option.some.inj hj
    subst e
    rw [cell_of_row _ _ _ _ _ _ (heap_alloc_new _ _), cell_of_row _ _ _ _ _ _ (heap_alloc_new _ _)]
    exact ⟨rfl, rfl⟩
  | succ j => simp at hj
theorem own_form {w : World} {B n : Nat} {v : Value} {xs : List Value} (h : w.ownsRow B 28 2 v n xs) (hn : 0 < n) : ∃ g cap, v = .slice (some ⟨g, 0, none⟩) n cap ∧ B ≤ g ∧ g < w.heap.size ∧ n ≤ cap := by
  obtain ⟨a, cap, e, hs⟩ := own_shape h
  obtain ⟨g, rfl, h1, h2, h3, _⟩ := hs hn
  exact ⟨g, cap, e, h1, h2, h3⟩
theorem row4_form {w : World} {B : Nat} {v : Value} {l : List (Nat × Nat)} (h : w.ownsRow B 28 2 v (0 + l.length + [((171 : Nat), (0 : Nat))].length) (spotC [] ++ spotC l ++ spotC [(171, 0)])) :
    ∃ g cap, v = .slice (some ⟨g, 0, none⟩) (l.length + 1) cap ∧ RowAt B w g cap l ∧ l.length ≤ cap := by
  rw [Nat.zero_add] at h
  obtain ⟨g, cap, rfl, _, _, hc⟩ := own_form h (Nat.succ_pos _)
  refine ⟨g, cap, rfl, ?_, Nat.le_of_succ_le hc⟩
  unfold RowAt
  rw [spotC_append]
  exact h
theorem row_any {l : List (Nat × Nat)} {v : Value} (w : World) (hv : SpotsOf w v l) (hl : l.length ≤ 4000) :
    Calls Tryd.prog 18 #[v] w fun e w' => ∃ g cap, e = .returned (.slice (some ⟨g, 0, none⟩) l.length cap) ∧ RowAt w.heap.size w' g cap l ∧ Below w.heap.size w w' := by
  have hv0 := Lib.hid hv
  obtain ⟨a, ca, rfl, _⟩ := hv.form
  have LEN := Lib.hid (show 0 + l.length ≤ 8796093022208 by omega)
  have LEN2 := Lib.hid (show 0 + l.length + [((171 : Nat), (0 : Nat))].length ≤ 8796093022208 by simp; omega)
  have li : (l.length : Int) ≤ 4000 := by omega
  have O0 := Lib.hid (own_made0 (w := w) (B := w.heap.size) (Nat.le_refl _))
  have S1 := Lib.hid (hv.below (show Below w.heap.size w (w.alloc (.cells #[] 28 (0, 0))) from (Below.refl _ _).alloc (Nat.le_refl _) _))
  clear hv
  go_enter Tryd.func18, Tryd.ntmps18
  go_wp2_with (at_builtin; first
    | (refine app_spots (.tmp 3) (.tmp 4) rfl rfl w.heap.size _ 0 _ rfl O0.out _ l rfl S1.out LEN.out (by simp) ?_; intro v5 w5 own5 hg5 _; have z5 := hg5.size)
    | (refine app_spots (.tmp 5) (.tmp 7) rfl rfl w.heap.size v5 _ _ rfl (own5.alloc _) _ [(171, 0)] rfl (spots_mark _ 171 0) LEN2.out (by simp at z5; simp; omega) ?_; intro v6 w6 own6 hg6 _; obtain ⟨g, cap, rfl, RA, hc2⟩ := row4_form own6; have b5 : Below w.heap.size w w5 := ((Below.refl _ _).alloc (Nat.le_refl _) _).grown hg5 (by simp) (fun c hc => (O0.out.lt c hc).1); have b6 : Below w.heap.size w w6 := (b5.alloc b5.size _).grown hg6 (by have := b5.size; simp; omega) (fun c hc => (own5.lt c hc).1); have hc3 : (l.length : Int) ≤ (cap : Int) := (by omega)))
  go_ret
  exact ⟨g, cap, rfl, RA, b6⟩
theorem marked_any {l : List (Nat × Nat)} {B g cap : Nat} (w : World) (h : RowAt B w g cap l) (hl : l.length ≤ 4000) :
    Calls Tryd.prog 23 #[.slice (some ⟨g, 0, none⟩) l.length cap] w fun e w' => e = .returned (.bool true) ∧ w = w' := by
  obtain ⟨g', cap', e, _, hg, hcap⟩ := own_form h (by omega)
  simp only [Value.slice.injEq, Option.some.injEq, Addr.mk.injEq, and_true, true_and] at e
  obtain ⟨rfl, rfl⟩ := e
  obtain ⟨n, hn⟩ : ∃ n, l.length = n := ⟨_, rfl⟩
  have t := spotC_get (l ++ [(171, 0)]) n (171, 0) (by rw [List.getElem?_append_right (by omega), hn, Nat.sub_self]; rfl)
  have cells : ∀ (j : Nat) (u : Value), (spotC (l ++ [(171, 0)]))[j]? = some u → w.cell? ⟨g, j, none⟩ = some u := fun j u hj => by
    have := World.ownsRow.cells h (g := g) rfl j u hj
    rwa [addr0] at this
  have c1 := cells _ _ t.1
  have c2 := cells _ _ t.2
  rw [Nat.mul_comm] at c1 c2
  dsimp only at c1 c2
  rw [hn]
  have i1 : (n : Int) + 1 ≤ (cap : Int) := by omega
  have i2 : n + 1 ≤ cap := by omega
  have i3 : (n : Int) ≤ 4000 := by omega
  clear h t cells hn hcap
  go_enter Tryd.func23, Tryd.ntmps23
  go_wp2
  go_ret
  exact ⟨rfl, rfl⟩
end Go.Proofs.YtpbahbigimnboaaDoor
