/-
  A spot as a map's key.
-/
import Derived.Test.YtkiomgnjjijbgaaProg
import Derived.Maps.OwnSet
import Derived.Maps.OwnOps
import Derived.Maps.Views
import Derived.DeepKeys4
import Derived.KernelRfl
namespace Go.Proofs.Ytkiomgnjjijbgaa
open Go.Maps
set_option linter.unusedVariables false

theorem laidOutM : laidOutB Try.prog = true := by kernel_rfl
theorem spotLaw : Keyed Try.prog 24 := Keyed.of_law (deep_law_laid laidOutM (m := 3) (by decide) (of_decide_eq_true (by kernel_rfl)) (by kernel_rfl) (by kernel_rfl))
theorem typesM : ∃ m, Try.prog.types.size = m + 1 := ⟨Try.prog.types.size - 1, by
  have : 0 < Try.prog.types.size := of_decide_eq_true (by kernel_rfl)
  omega⟩
/-- What a spot reads as where it is a key. -/
def keyL (h k : Nat) : Lit := .string (keyBytes [.int .u8 (h : Int), .int .u64 (k : Int)])
theorem cells24 : Try.prog.cellsOf 24 = 2 := by kernel_rfl
theorem cells5 : Try.prog.cellsOf 5 = 1 := by kernel_rfl
theorem cells22 : Try.prog.cellsOf 22 = 1 := by kernel_rfl
theorem key_of {h k : Nat} (wh : (Lit.int .u8 (h : Int)).wf = true) (wk : (Lit.int .u64 (k : Int)).wf = true) : keyOf Try.prog 24 (.agg #[.int .u8 h, .int .u64 k]) = some (keyL h k) := by
  have e1 : Try.prog.keyType 24 = true := by kernel_rfl
  obtain ⟨m, hm⟩ := typesM
  have hm1 : ∃ m', m = m' + 1 := ⟨m - 1, by
    have : 1 < Try.prog.types.size := of_decide_eq_true (by kernel_rfl)
    omega⟩
  obtain ⟨m', rfl⟩ := hm1
  unfold keyOf keyL
  rw [Try.underlying24]
  simp only [e1, Bool.true_and, hm]
  rw [if_pos (by simp [Value.formed, Try.underlying24, cells24])]
  unfold Program.keyLits
  simp only [Try.underlying24, Value.cells]
  rw [if_pos (by rw [cells24]; exact ⟨rfl, by simp⟩)]
  simp [Program.keyLits, cells5, cells22, Try.underlying5, Try.underlying22, wh, wk]
theorem key_inj {h k h' k' : Nat} (wh : (Lit.int .u8 (h : Int)).wf = true) (wk : (Lit.int .u64 (k : Int)).wf = true) (wh' : (Lit.int .u8 (h' : Int)).wf = true) (wk' : (Lit.int .u64 (k' : Int)).wf = true)
    (e : keyL h k = keyL h' k') : h = h' ∧ k = k' := by
  have := spotLaw.inj (key_of wh wk) (by rw [e]; exact key_of wh' wk')
  simp at this
  exact ⟨by omega, by omega⟩
end Go.Proofs.Ytkiomgnjjijbgaa
