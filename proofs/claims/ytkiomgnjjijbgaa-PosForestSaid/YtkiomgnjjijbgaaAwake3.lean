/-
  The laws' own awake of layer 3.
-/
import Derived.Test.YtkiomgnjjijbgaaPeaks
namespace Go.Proofs.Ytkiomgnjjijbgaa
open Go.RowKit
set_option linter.unusedVariables false

theorem ones_small : ones 7 = 3 ∧ ones 3 = 2 := by unfold ones; decide
theorem nodeN_7 : nodeN 7 = 11 := by unfold nodeN; rw [ones_small.1]
theorem place_12 : placeN 1 2 = 9 := by
  unfold placeN
  rw [show ones 2 = 1 by unfold ones; decide]
theorem peaks_7 : ∃ a c, peaksL 7 = [a, 9, c] := by
  refine ⟨placeN 2 0, placeN 0 6, ?_⟩
  unfold peaksL
  rw [← place_12]
  simp [peaksF]
theorem right_12 : Right 1 2 := ⟨by decide, by decide⟩

theorem awake3_any (w : World) : Calls Try.prog 17 #[] w fun e w' => e = .returned (.bool true) ∧ Below w.heap.size w w' := by
  have N7 := Lib.hid nodeN_7
  have P12 := Lib.hid place_12
  have S9 := Spot_yes right_12
  rw [P12.out] at S9
  go_enter Try.func17, Try.ntmps17
  go_wp2_with fail
  refine (Nodes_yes (n := 7) (by decide) _).mono ?_
  rintro e w' ⟨rfl, rfl⟩
  rw [N7.out]
  go_wp2_with fail
  refine (Peaks_yes (n := 7) (by decide) _).mono ?_
  rintro e w1 ⟨v, rfl, hown, hb⟩
  obtain ⟨a, c, hp⟩ := peaks_7
  rw [hp] at hown
  obtain ⟨g, cap, rfl, _, hg, hcap⟩ := row_form hown (by simp)
  have c1 := row_cellAt hown (j := 1) (u := .int .u64 9) rfl
  clear hown hp
  go_wp2_with fail
  refine (S9 _).mono ?_
  rintro e w2 ⟨rfl, hb2⟩
  have hb3 : Below w.heap.size w w2 := hb.trans (hb2.mono hb.size)
  have c2 : w2.cell? ⟨g, 1, none⟩ = some (.int .u64 9) := by rw [← c1]; exact hb2.cell (p := ⟨g, 1, none⟩) hg
  have hg2 : g < w2.heap.size := Nat.lt_of_lt_of_le hg hb2.size
  have hs2 : w.heap.size ≤ w2.heap.size := hb3.size
  clear hb hb2 c1
  unfold spotV
  go_wp2

  go_ret
  exact ⟨rfl, hb3.alloc hs2 _⟩
end Go.Proofs.Ytkiomgnjjijbgaa
