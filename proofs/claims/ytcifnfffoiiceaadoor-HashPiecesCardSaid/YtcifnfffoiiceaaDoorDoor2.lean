/-
  The two laid variables of layer 2, as memory holds them: hash.k and hash.first.
-/
import Derived.Test.YtcifnfffoiiceaaDoorBytesL
import Derived.Test.YtcifnfffoiiceaaDoorWordProg
namespace Go.Proofs.YtcifnfffoiiceaaDoor
open Go.RowKit
set_option linter.unusedVariables false

/-- The state before the first block. -/
def firstN : List Nat := [106, 9, 230, 103, 187, 103, 174, 133, 60, 110, 243, 114, 165, 79, 245, 58, 81, 14, 82, 127, 155, 5, 104, 140, 31, 131, 217, 171, 91, 224, 205, 25]
theorem first_len : firstN.length = 32 := by decide
theorem first_bytes : Bytes firstN := by unfold Bytes; decide
def DoorAt (w : World) : Prop := 1 < w.heap.size ∧ (∀ (j t : Nat), tableK[j]? = some t → w.cell? ⟨0, j, none⟩ = some (.int .u32 (t : Int))) ∧ ∀ (j t : Nat), firstN[j]? = some t → w.cell? ⟨1, j, none⟩ = some (.int .u8 (t : Int))
theorem DoorAt.below {w w' : World} (h : DoorAt w) (q : Below w.heap.size w w') : DoorAt w' :=
  ⟨Nat.lt_of_lt_of_le h.1 q.size, fun j t ht => by rw [← h.2.1 j t ht]; exact q.cell (p := ⟨0, j, none⟩) (Nat.lt_of_lt_of_le (by decide : 0 < 2) h.1), fun j t ht => by rw [← h.2.2 j t ht]; exact q.cell (p := ⟨1, j, none⟩) h.1⟩
end Go.Proofs.YtcifnfffoiiceaaDoor
