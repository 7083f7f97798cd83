/-
  A box with a spot, in a world that goes on; what two calls say alike.
-/
import Derived.Test.YtkiomgnjjijbgaaAwake3
import Derived.Test.YtkiomgnjjijbgaaRefPlace
namespace Go.Proofs.Ytkiomgnjjijbgaa
open Go.RowKit
set_option linter.unusedVariables false

theorem nat_of_u8 {n : Int} (h : (Lit.int .u8 n).wf = true) : ∃ x : Nat, n = x ∧ x < 256 := by
  simp [Lit.wf, IntKind.min, IntKind.max, IntKind.signed, IntKind.bits] at h
  exact ⟨n.toNat, by omega, by omega⟩
def SpotAt (w : World) (b h k : Nat) : Prop := b < w.heap.size ∧ w.cell? ⟨b, 0, none⟩ = some (.int .u8 (h : Int)) ∧ w.cell? ⟨b, 1, none⟩ = some (.int .u64 (k : Int))
theorem SpotAt.new (w : World) (h k : Nat) (t : TypeId) : SpotAt (w.alloc (.cells #[.int .u8 (h : Int), .int .u64 (k : Int)] t (0, 0))) w.heap.size h k := by
  refine ⟨by simp, ?_, ?_⟩
  · rw [cell_of_row _ _ _ _ _ _ (heap_alloc_new _ _)]; rfl
  · rw [cell_of_row _ _ _ _ _ _ (heap_alloc_new _ _)]; rfl
theorem SpotAt.below {w w' : World} {b h k : Nat} (s : SpotAt w b h k) (q : Below w.heap.size w w') : SpotAt w' b h k :=
  ⟨Nat.lt_of_lt_of_le s.1 q.size, by rw [← s.2.1]; exact q.cell (p := ⟨b, 0, none⟩) s.1, by rw [← s.2.2]; exact q.cell (p := ⟨b, 1, none⟩) s.1⟩
theorem SpotAt.alloc {w : World} {b h k : Nat} (s : SpotAt w b h k) (o : Obj) : SpotAt (w.alloc o) b h k :=
  s.below ((Below.refl _ _).alloc (Nat.le_refl _) _)

theorem place_both {h k : Nat} (hh : h < 256) (hk : k < 18446744073709551616) : ∃ (a : Nat) (c : Bool), (∀ w : World, Calls Try.prog 15 #[spotV h k] w fun e w' => e = .returned (.tuple #[.int .u64 a, .bool c]) ∧ Below w.heap.size w w') ∧
    (∀ w : World, Calls Try.prog 16 #[spotV h k] w fun e w' => e = .returned (.tuple #[.int .u64 a, .bool c]) ∧ Below w.heap.size w w') := by
  by_cases r : Right h k
  · exact ⟨placeN h k, true, Place_yes r, refPlace_yes r⟩
  · exact ⟨0, false, Place_no hh hk r, refPlace_no hh hk r⟩
theorem spot_both {p : Nat} (hp : p < 18446744073709551616) : ∃ (a b : Nat) (c : Bool), (∀ w : World, Calls Try.prog 13 #[.int .u64 p] w fun e w' => e = .returned (.tuple #[spotV a b, .bool c]) ∧ Below w.heap.size w w') ∧
    (∀ w : World, Calls Try.prog 14 #[.int .u64 p] w fun e w' => e = .returned (.tuple #[spotV a b, .bool c]) ∧ Below w.heap.size w w') := by
  by_cases h : p < 9223372036854775807
  · obtain ⟨a, b, r, rfl⟩ := spot_at h
    exact ⟨a, b, true, Spot_yes r, refSpot_yes r⟩
  · exact ⟨0, 0, false, Spot_no hp (by omega), refSpot_no hp (by omega)⟩
end Go.Proofs.Ytkiomgnjjijbgaa
