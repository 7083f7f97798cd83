/-
  Rows of spots: two cells an element. No walk in sight.
-/
import Derived.Test.YtpbahbigimnboaaDoorBase
import Derived.Test.YtpbahbigimnboaaDoorPeaks
import Derived.Laws.AppendOwn
namespace Go.Proofs.YtpbahbigimnboaaDoor
open Go.RowKit
set_option linter.unusedVariables false

theorem info_spot : (Tryd.prog.info? 28).map (fun i => (i.zero, i.size, i.bytes)) = some (some (.agg #[.int .u8 0, .int .u64 0]), 2, 16) := by kernel_rfl
/-- A list of spots as cells. -/
def spotC : List (Nat × Nat) → List Value
  | [] => []
  | s :: l => .int .u8 (s.1 : Int) :: .int .u64 (s.2 : Int) :: spotC l
theorem spotC_append (l m : List (Nat × Nat)) : spotC (l ++ m) = spotC l ++ spotC m := by
  induction l with
  | nil => rfl
  | cons s l ih => show _ :: _ :: spotC (l ++ m) = _ :: _ :: (spotC l ++ spotC m); rw [ih]
theorem spotC_len (l : List (Nat × Nat)) : (spotC l).length = l.length * 2 := by
  induction l with
  | nil => rfl
  | cons s l ih => show (spotC l).length + 1 + 1 = (l.length + 1) * 2; omega
theorem spotC_get (l : List (Nat × Nat)) : ∀ (j : Nat) (s : Nat × Nat), l[j]? = some s → (spotC l)[2 * j]? = some (.int .u8 (s.1 : Int)) ∧ (spotC l)[2 * j + 1]? = some (.int .u64 (s.2 : Int)) := by
  induction l with
  | nil => intro j s h; simp at h
  | cons a l ih =>
    intro j s h
    cases j with
    | zero =>
      simp only [List.getElem?_cons_zero, Option.some.injEq] at h
      subst h
      exact ⟨rfl, rfl⟩
    | succ j =>
      simp only [List.getElem?_cons_succ] at h
      obtain ⟨h1, h2⟩ := ih j s h
      rw [show 2 * (j + 1) = 2 * j + 1 + 1 by omega, show 2 * j + 1 + 1 + 1 = (2 * j + 1) + 1 + 1 by omega]
      exact ⟨h1, h2⟩
theorem cell_new2 (w : World) (u v : Value) (t : TypeId) : ∀ (j : Nat) x, [u, v][j]? = some x → (w.alloc (.cells #[u, v] t (0, 0))).cell? ((⟨w.heap.size, 0, none⟩ : Addr).add j) = some x := by
  intro j x h
  have e : (⟨w.heap.size, 0, none⟩ : Addr).add j = ⟨w.heap.size, j, none⟩ := by unfold Addr.add; split <;> simp_all
  rw [e, cell_of_row _ _ _ _ _ _ (heap_alloc_new w _)]
  match j, h with
  | 0, h => exact h
  | 1, h => exact h
  | j + 2, h => simp at h
theorem two_ints (k k' : IntKind) (n m : Int) : ∀ u ∈ [Value.int k n, Value.int k' m], u.oneCell' = true := by
  intro u hu
  simp only [List.mem_cons, List.not_mem_nil, or_false] at hu
  rcases hu with rfl | rfl <;> rfl

theorem own_mono {w : World} {B B' : Nat} {t : TypeId} {s n : Nat} {v : Value} {xs : List Value} (h : w.ownsRow B t s v n xs) (hb : B' ≤ B) : w.ownsRow B' t s v n xs := by
  refine ⟨h.1, h.2.imp id ?_⟩
  rintro ⟨g, cap, cur, hv, hg, rest⟩
  exact ⟨g, cap, cur, hv, Nat.le_trans hb hg, rest⟩
theorem own_zero {w : World} {B : Nat} {t : TypeId} {s n : Nat} {v : Value} {xs : List Value} (h : w.ownsRow B t s v n xs) (hn : n = 0) : ∃ a cap, v = .slice a n cap := by
  rcases h.2 with ⟨hv, h0⟩ | ⟨g, cap, cur, hv, _⟩
  · subst hn; exact ⟨_, _, hv⟩
  · exact ⟨_, _, hv⟩
theorem own_shape {w : World} {B : Nat} {t : TypeId} {s n : Nat} {v : Value} {xs : List Value} (h : w.ownsRow B t s v n xs) :
    ∃ a cap, v = .slice a n cap ∧ (0 < n → ∃ g, a = some ⟨g, 0, none⟩ ∧ B ≤ g ∧ g < w.heap.size ∧ n ≤ cap ∧ ∀ (j : Nat) (u : Value), xs[j]? = some u → w.cell? ⟨g, j, none⟩ = some u) := by
  by_cases hn : 0 < n
  · rcases h.2 with ⟨_, h0⟩ | ⟨g, cap, cur, rfl, hg, hh, hc, _⟩
    · omega
    · refine ⟨_, _, rfl, fun _ => ⟨g, rfl, hg, lt_of_heap hh, hc, fun j u hj => ?_⟩⟩
      have := h.cells (g := g) rfl j u hj
      rwa [show (⟨g, 0, none⟩ : Addr).add j = ⟨g, j, none⟩ by unfold Addr.add; split <;> simp_all] at this
  · obtain ⟨a, cap, e⟩ := own_zero h (by omega)
    exact ⟨a, cap, e, fun h => by omega⟩
end Go.Proofs.YtpbahbigimnboaaDoor
