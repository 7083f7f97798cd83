/-
  num.Narrow and the laws' own awake.
-/
import Derived.Test.YtcifnfffoiiceaaDoorShort
namespace Go.Proofs.YtcifnfffoiiceaaDoor
open Go.RowKit

def narN (x k : Int) : Int :=
  if k = 1 then (x + 128) % 256 - 128 else if k = 2 then (x + 32768) % 65536 - 32768 else if k = 3 then (x + 2147483648) % 4294967296 - 2147483648
  else if k = 4 then x else if k = 5 then x % 256 else if k = 6 then x % 65536 else if k = 7 then x % 4294967296 else 0
def narE (k : Int) : Int := if 1 ≤ k ∧ k ≤ 7 then 0 else 1

theorem wrap_i8 (n : Int) : IntKind.i8.wrap n = (n + 128) % 256 - 128 := by
  simp [IntKind.wrap, IntKind.bits, IntKind.signed]
  split <;> omega
theorem wrap_i16 (n : Int) : IntKind.i16.wrap n = (n + 32768) % 65536 - 32768 := by
  simp [IntKind.wrap, IntKind.bits, IntKind.signed]
  split <;> omega
theorem wrap_i32 (n : Int) : IntKind.i32.wrap n = (n + 2147483648) % 4294967296 - 2147483648 := by
  simp [IntKind.wrap, IntKind.bits, IntKind.signed]
  split <;> omega

theorem ret2_int {k k' : IntKind} {a b c d : Int} (h : a = b) (h' : c = d) : Ending.returned (.tuple #[.int k a, .int k' c]) = .returned (.tuple #[.int k b, .int k' d]) := by rw [h, h']
theorem wrap64_id {n : Int} (h0 : -9223372036854775808 ≤ n) (h1 : n ≤ 9223372036854775807) : wrap64 n = n := by unfold wrap64; omega
theorem nar1 (x : Int) : wrap64 (IntKind.i8.wrap x) = narN x 1 := by
  rw [wrap_i8, wrap64_id (by omega) (by omega)]; rfl
theorem nar2 (x : Int) : wrap64 (IntKind.i16.wrap x) = narN x 2 := by
  rw [wrap_i16, wrap64_id (by omega) (by omega)]; rfl
theorem nar3 (x : Int) : wrap64 (wrap32 x) = narN x 3 := by
  unfold wrap32
  rw [wrap64_id (by omega) (by omega)]; rfl
theorem nar5 (x : Int) : x % 256 = narN x 5 := rfl
theorem nar6 (x : Int) : wrap64 (IntKind.u16.wrap x) = narN x 6 := by
  rw [IntKind.wrap_u16, wrap64_id (by omega) (by omega)]; rfl
theorem nar7 (x : Int) : x % 4294967296 = narN x 7 := rfl
theorem nar4 (x : Int) : x = narN x 4 := rfl
theorem nar_no {x k : Int} (h : ¬ (1 ≤ k ∧ k ≤ 7)) : narN x k = 0 := by
  unfold narN
  rw [if_neg (by omega), if_neg (by omega), if_neg (by omega), if_neg (by omega), if_neg (by omega), if_neg (by omega), if_neg (by omega)]
theorem narE_yes {k : Int} (h0 : 1 ≤ k) (h1 : k ≤ 7) : narE k = 0 := by unfold narE; rw [if_pos ⟨h0, h1⟩]
theorem narE_no {k : Int} (h : ¬ (1 ≤ k ∧ k ≤ 7)) : narE k = 1 := by unfold narE; rw [if_neg h]

/-- The cells of an owned row, read. -/
theorem own_cell {w : World} {B : Nat} {t : TypeId} {g cap n : Nat} {xs : List Value} (h : w.ownsRow B t 1 (.slice (some ⟨g, 0, none⟩) n cap) n xs) {j : Nat} {u : Value} (hj : xs[j]? = some u) : w.cell? ⟨g, j, none⟩ = some u := by
  have := h.cells (g := g) rfl j u hj
  rwa [show (⟨g, 0, none⟩ : Addr).add j = ⟨g, j, none⟩ by unfold Addr.add; split <;> simp_all] at this
theorem own_form {w : World} {B : Nat} {t : TypeId} {n : Nat} {v : Value} {xs : List Value} (h : w.ownsRow B t 1 v n xs) (hn : 0 < n) : ∃ g cap, v = .slice (some ⟨g, 0, none⟩) n cap ∧ B ≤ g ∧ g < w.heap.size ∧ n ≤ cap := by
  rcases h.2 with ⟨_, h0⟩ | ⟨g, cap, cur, hv, hg, hh, hc, _⟩
  · omega
  · exact ⟨g, cap, hv, hg, lt_of_heap hh, hc⟩

end Go.Proofs.YtcifnfffoiiceaaDoor
