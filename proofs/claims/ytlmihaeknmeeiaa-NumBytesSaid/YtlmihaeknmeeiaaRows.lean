/-
  No cell of these rows narrows 'for every input' (looked for: loops, veiled, ifaces, maps, wideKeys, modest, calm, conditions, laid).
  DERIVED. THE GIVEN ROWS OF THIS SEAT. 11 by the template 'for every input the law returns true; each argument reads behind the call as it read before'; 0 by the template 'total and deterministic' (their statements: YtlmihaeknmeeiaaTotals.lean).
  GIVEN WITH THE SEED: the statements are not yours to turn. If you find one false, say at which input.
  Laid BY PROGRAM, IN A SANDBOX (cutbox-rows.mjs): the forced cells as the released guide's own fill.sh prints them over the translation 75f7596afa1d81fa… (all of the seat's roots in one cut). By AI agents, Wed Nov 11 2026. No macro, syntax, notation, axiom, sorry.
-/
import Derived.Test.YtlmihaeknmeeiaaChecked
import GoSem.Claim
import GoSem.ClaimJoined
import GoSem.ClaimMapViews
import Derived.JoinedTies
import Derived.KernelRfl
namespace Go.Proofs.Ytlmihaeknmeeiaa
/- THE CELL 'sum', in the pinned program and in every row, IS THE sha256 OF THE DUMP (.gsa) THAT YtlmihaeknmeeiaaProg.lean LOADS. Nothing in Lean hashes anything: it is a label: what it is worth is what the hold of that sum in a sandbox is worth. -/
noncomputable def Try.pinned : Pinned := { name := "ytlmihaeknmeeiaa", sum := "75f7596afa1d81fa736f8417f0507cc8fc400e47295570e80d142b42c09cb6b3", checked := Try.checked }
namespace Rows
def none {H : Type} : Left H := { results := [], args := [] }

/-- 'massiflaw1.NumShifts': WHATEVER THE INPUT: true; the input reads as it did. -/
def numShiftsSpec : ChangeSpec := { name := "numShifts", fn := fun _ => fun
  | [d1, d2, d3] => { results := [.lit (.bool true)], args := [d1, d2, d3] }
  | _ => none }
def numShiftsRow : OpenClaim := { program := "ytlmihaeknmeeiaa", sum := "75f7596afa1d81fa736f8417f0507cc8fc400e47295570e80d142b42c09cb6b3", func := "massif/massiflaw1.NumShifts", spec := "numShifts", apart := false }
def NumShiftsSaid : Prop := numShiftsRow.holds Try.pinned (OpenSpec.ofChange numShiftsSpec)

/-- ITS FALSE NEIGHBOUR: 'it returns false'. Refute it at one input. -/
def numShiftsWrong : ChangeSpec := { name := "numShifts", fn := fun _ => fun
  | [d1, d2, d3] => { results := [.lit (.bool false)], args := [d1, d2, d3] }
  | _ => none }
def NumShiftsWrongFalsely : Prop := numShiftsRow.holds Try.pinned (OpenSpec.ofChange numShiftsWrong)

/-- 'massiflaw1.NumShiftsAdd': WHATEVER THE INPUT: true; the input reads as it did. -/
def numShiftsAddSpec : ChangeSpec := { name := "numShiftsAdd", fn := fun _ => fun
  | [d1, d2, d3] => { results := [.lit (.bool true)], args := [d1, d2, d3] }
  | _ => none }
def numShiftsAddRow : OpenClaim := { program := "ytlmihaeknmeeiaa", sum := "75f7596afa1d81fa736f8417f0507cc8fc400e47295570e80d142b42c09cb6b3", func := "massif/massiflaw1.NumShiftsAdd", spec := "numShiftsAdd", apart := false }
def NumShiftsAddSaid : Prop := numShiftsAddRow.holds Try.pinned (OpenSpec.ofChange numShiftsAddSpec)

/-- ITS FALSE NEIGHBOUR: 'it returns false'. Refute it at one input. -/
def numShiftsAddWrong : ChangeSpec := { name := "numShiftsAdd", fn := fun _ => fun
  | [d1, d2, d3] => { results := [.lit (.bool false)], args := [d1, d2, d3] }
  | _ => none }
def NumShiftsAddWrongFalsely : Prop := numShiftsAddRow.holds Try.pinned (OpenSpec.ofChange numShiftsAddWrong)

/-- 'massiflaw1.NumFields': WHATEVER THE INPUT: true; the input reads as it did. -/
def numFieldsSpec : ChangeSpec := { name := "numFields", fn := fun _ => fun
  | [d1, d2, d3, d4] => { results := [.lit (.bool true)], args := [d1, d2, d3, d4] }
  | _ => none }
def numFieldsRow : OpenClaim := { program := "ytlmihaeknmeeiaa", sum := "75f7596afa1d81fa736f8417f0507cc8fc400e47295570e80d142b42c09cb6b3", func := "massif/massiflaw1.NumFields", spec := "numFields", apart := false }
def NumFieldsSaid : Prop := numFieldsRow.holds Try.pinned (OpenSpec.ofChange numFieldsSpec)

/-- ITS FALSE NEIGHBOUR: 'it returns false'. Refute it at one input. -/
def numFieldsWrong : ChangeSpec := { name := "numFields", fn := fun _ => fun
  | [d1, d2, d3, d4] => { results := [.lit (.bool false)], args := [d1, d2, d3, d4] }
  | _ => none }
def NumFieldsWrongFalsely : Prop := numFieldsRow.holds Try.pinned (OpenSpec.ofChange numFieldsWrong)

/-- 'massiflaw1.NumFills': WHATEVER THE INPUT: true; the input reads as it did. -/
def numFillsSpec : ChangeSpec := { name := "numFills", fn := fun _ => fun
  | [d1, d2, d3, d4] => { results := [.lit (.bool true)], args := [d1, d2, d3, d4] }
  | _ => none }
def numFillsRow : OpenClaim := { program := "ytlmihaeknmeeiaa", sum := "75f7596afa1d81fa736f8417f0507cc8fc400e47295570e80d142b42c09cb6b3", func := "massif/massiflaw1.NumFills", spec := "numFills", apart := false }
def NumFillsSaid : Prop := numFillsRow.holds Try.pinned (OpenSpec.ofChange numFillsSpec)

/-- ITS FALSE NEIGHBOUR: 'it returns false'. Refute it at one input. -/
def numFillsWrong : ChangeSpec := { name := "numFills", fn := fun _ => fun
  | [d1, d2, d3, d4] => { results := [.lit (.bool false)], args := [d1, d2, d3, d4] }
  | _ => none }
def NumFillsWrongFalsely : Prop := numFillsRow.holds Try.pinned (OpenSpec.ofChange numFillsWrong)

/-- 'massiflaw1.NumKinds': WHATEVER THE INPUT: true; the input reads as it did. -/
def numKindsSpec : ChangeSpec := { name := "numKinds", fn := fun _ => fun
  | [d1, d2] => { results := [.lit (.bool true)], args := [d1, d2] }
  | _ => none }
def numKindsRow : OpenClaim := { program := "ytlmihaeknmeeiaa", sum := "75f7596afa1d81fa736f8417f0507cc8fc400e47295570e80d142b42c09cb6b3", func := "massif/massiflaw1.NumKinds", spec := "numKinds", apart := false }
def NumKindsSaid : Prop := numKindsRow.holds Try.pinned (OpenSpec.ofChange numKindsSpec)

/-- ITS FALSE NEIGHBOUR: 'it returns false'. Refute it at one input. -/
def numKindsWrong : ChangeSpec := { name := "numKinds", fn := fun _ => fun
  | [d1, d2] => { results := [.lit (.bool false)], args := [d1, d2] }
  | _ => none }
def NumKindsWrongFalsely : Prop := numKindsRow.holds Try.pinned (OpenSpec.ofChange numKindsWrong)

/-- 'massiflaw1.NumTurns': WHATEVER THE INPUT: true; the input reads as it did. -/
def numTurnsSpec : ChangeSpec := { name := "numTurns", fn := fun _ => fun
  | [d1, d2] => { results := [.lit (.bool true)], args := [d1, d2] }
  | _ => none }
def numTurnsRow : OpenClaim := { program := "ytlmihaeknmeeiaa", sum := "75f7596afa1d81fa736f8417f0507cc8fc400e47295570e80d142b42c09cb6b3", func := "massif/massiflaw1.NumTurns", spec := "numTurns", apart := false }
def NumTurnsSaid : Prop := numTurnsRow.holds Try.pinned (OpenSpec.ofChange numTurnsSpec)

/-- ITS FALSE NEIGHBOUR: 'it returns false'. Refute it at one input. -/
def numTurnsWrong : ChangeSpec := { name := "numTurns", fn := fun _ => fun
  | [d1, d2] => { results := [.lit (.bool false)], args := [d1, d2] }
  | _ => none }
def NumTurnsWrongFalsely : Prop := numTurnsRow.holds Try.pinned (OpenSpec.ofChange numTurnsWrong)

/-- 'massiflaw1.NumTwice': WHATEVER THE INPUT: true; the input reads as it did. -/
def numTwiceSpec : ChangeSpec := { name := "numTwice", fn := fun _ => fun
  | [d1, d2, d3] => { results := [.lit (.bool true)], args := [d1, d2, d3] }
  | _ => none }
def numTwiceRow : OpenClaim := { program := "ytlmihaeknmeeiaa", sum := "75f7596afa1d81fa736f8417f0507cc8fc400e47295570e80d142b42c09cb6b3", func := "massif/massiflaw1.NumTwice", spec := "numTwice", apart := false }
def NumTwiceSaid : Prop := numTwiceRow.holds Try.pinned (OpenSpec.ofChange numTwiceSpec)

/-- ITS FALSE NEIGHBOUR: 'it returns false'. Refute it at one input. -/
def numTwiceWrong : ChangeSpec := { name := "numTwice", fn := fun _ => fun
  | [d1, d2, d3] => { results := [.lit (.bool false)], args := [d1, d2, d3] }
  | _ => none }
def NumTwiceWrongFalsely : Prop := numTwiceRow.holds Try.pinned (OpenSpec.ofChange numTwiceWrong)

/-- 'massiflaw1.NumBack': WHATEVER THE INPUT: true; the input reads as it did. -/
def numBackSpec : ChangeSpec := { name := "numBack", fn := fun _ => fun
  | [d] => { results := [.lit (.bool true)], args := [d] }
  | _ => none }
def numBackRow : OpenClaim := { program := "ytlmihaeknmeeiaa", sum := "75f7596afa1d81fa736f8417f0507cc8fc400e47295570e80d142b42c09cb6b3", func := "massif/massiflaw1.NumBack", spec := "numBack", apart := false }
def NumBackSaid : Prop := numBackRow.holds Try.pinned (OpenSpec.ofChange numBackSpec)

/-- ITS FALSE NEIGHBOUR: 'it returns false'. Refute it at one input. -/
def numBackWrong : ChangeSpec := { name := "numBack", fn := fun _ => fun
  | [d] => { results := [.lit (.bool false)], args := [d] }
  | _ => none }
def NumBackWrongFalsely : Prop := numBackRow.holds Try.pinned (OpenSpec.ofChange numBackWrong)

/-- 'massiflaw1.NumNarrows': WHATEVER THE INPUT: true; the input reads as it did. -/
def numNarrowsSpec : ChangeSpec := { name := "numNarrows", fn := fun _ => fun
  | [d1, d2] => { results := [.lit (.bool true)], args := [d1, d2] }
  | _ => none }
def numNarrowsRow : OpenClaim := { program := "ytlmihaeknmeeiaa", sum := "75f7596afa1d81fa736f8417f0507cc8fc400e47295570e80d142b42c09cb6b3", func := "massif/massiflaw1.NumNarrows", spec := "numNarrows", apart := false }
def NumNarrowsSaid : Prop := numNarrowsRow.holds Try.pinned (OpenSpec.ofChange numNarrowsSpec)

/-- ITS FALSE NEIGHBOUR: 'it returns false'. Refute it at one input. -/
def numNarrowsWrong : ChangeSpec := { name := "numNarrows", fn := fun _ => fun
  | [d1, d2] => { results := [.lit (.bool false)], args := [d1, d2] }
  | _ => none }
def NumNarrowsWrongFalsely : Prop := numNarrowsRow.holds Try.pinned (OpenSpec.ofChange numNarrowsWrong)

/-- 'massiflaw1.NumBytes': WHATEVER THE INPUT: true; the input reads as it did. -/
def numBytesSpec : ChangeSpec := { name := "numBytes", fn := fun _ => fun
  | [d1, d2, d3] => { results := [.lit (.bool true)], args := [d1, d2, d3] }
  | _ => none }
def numBytesRow : OpenClaim := { program := "ytlmihaeknmeeiaa", sum := "75f7596afa1d81fa736f8417f0507cc8fc400e47295570e80d142b42c09cb6b3", func := "massif/massiflaw1.NumBytes", spec := "numBytes", apart := false }
def NumBytesSaid : Prop := numBytesRow.holds Try.pinned (OpenSpec.ofChange numBytesSpec)

/-- ITS FALSE NEIGHBOUR: 'it returns false'. Refute it at one input. -/
def numBytesWrong : ChangeSpec := { name := "numBytes", fn := fun _ => fun
  | [d1, d2, d3] => { results := [.lit (.bool false)], args := [d1, d2, d3] }
  | _ => none }
def NumBytesWrongFalsely : Prop := numBytesRow.holds Try.pinned (OpenSpec.ofChange numBytesWrong)

/-- 'massiflaw1.NumRounds': WHATEVER THE INPUT: true; the input reads as it did. -/
def numRoundsSpec : ChangeSpec := { name := "numRounds", fn := fun _ => fun
  | [d1, d2, d3] => { results := [.lit (.bool true)], args := [d1, d2, d3] }
  | _ => none }
def numRoundsRow : OpenClaim := { program := "ytlmihaeknmeeiaa", sum := "75f7596afa1d81fa736f8417f0507cc8fc400e47295570e80d142b42c09cb6b3", func := "massif/massiflaw1.NumRounds", spec := "numRounds", apart := false }
def NumRoundsSaid : Prop := numRoundsRow.holds Try.pinned (OpenSpec.ofChange numRoundsSpec)

/-- ITS FALSE NEIGHBOUR: 'it returns false'. Refute it at one input. -/
def numRoundsWrong : ChangeSpec := { name := "numRounds", fn := fun _ => fun
  | [d1, d2, d3] => { results := [.lit (.bool false)], args := [d1, d2, d3] }
  | _ => none }
def NumRoundsWrongFalsely : Prop := numRoundsRow.holds Try.pinned (OpenSpec.ofChange numRoundsWrong)

/- THE SECOND FORM. 'bulk': how many values and letters a reading holds, each counted each time it is reached (what is shared counts as often as it is met; a slice's spare places count too). A statement '..UptoSaid' is the law's where the arguments, and the package variables that the reading takes, are together of bulk at most 1048576: NARROWER than '..Said'. Prove '..Said' where nothing that the law and all that it calls make is longer than what came in: it says more and counts as full. Else prove '..UptoSaid'. A law counts once. -/
mutual
def uptoBulk {H : Type} : DataW H → Nat
  | .lit (.string bytes) => bytes.length + 1
  | .lit _ => 1
  | .nil => 1
  | .ptr d => uptoBulk d + 1
  | .slice elems spare => uptoBulkAll elems + uptoBulkAll spare + 1
  | .agg parts => uptoBulkAll parts + 1
  | .iface _ d => uptoBulk d + 1
  | .map entries => uptoBulkEntries entries + 1
  | .held _ => 1
def uptoBulkAll {H : Type} : List (DataW H) → Nat
  | [] => 0
  | d :: r => uptoBulk d + uptoBulkAll r
def uptoBulkEntries {H : Type} : List (Lit × DataW H) → Nat
  | [] => 0
  | x :: r => uptoBulkEntry x + uptoBulkEntries r
def uptoBulkEntry {H : Type} : Lit × DataW H → Nat
  | (.string bytes, d) => bytes.length + uptoBulk d + 1
  | (_, d) => uptoBulk d + 1
 end
def uptoSmall : (H : Type) → List (DataW H) → Bool := fun _ ds => decide (uptoBulkAll ds ≤ 1048576)
def OpenSpec.upto (s : _root_.Go.ChangeSpec) : _root_.Go.OpenSpec := { _root_.Go.OpenSpec.ofChange s with cond := some uptoSmall }

/-- 'massiflaw1.NumShifts', WHERE WHAT IT READS IS OF BULK AT MOST 1048576: true; the input reads as it did. -/
def numShiftsUptoRow : OpenClaim := { program := "ytlmihaeknmeeiaa", sum := "75f7596afa1d81fa736f8417f0507cc8fc400e47295570e80d142b42c09cb6b3", func := "massif/massiflaw1.NumShifts", spec := "numShifts", apart := false, narrowed := true }
def NumShiftsUptoSaid : Prop := numShiftsUptoRow.holds Try.pinned (OpenSpec.upto numShiftsSpec)

/-- 'massiflaw1.NumShiftsAdd', WHERE WHAT IT READS IS OF BULK AT MOST 1048576: true; the input reads as it did. -/
def numShiftsAddUptoRow : OpenClaim := { program := "ytlmihaeknmeeiaa", sum := "75f7596afa1d81fa736f8417f0507cc8fc400e47295570e80d142b42c09cb6b3", func := "massif/massiflaw1.NumShiftsAdd", spec := "numShiftsAdd", apart := false, narrowed := true }
def NumShiftsAddUptoSaid : Prop := numShiftsAddUptoRow.holds Try.pinned (OpenSpec.upto numShiftsAddSpec)

/-- 'massiflaw1.NumFields', WHERE WHAT IT READS IS OF BULK AT MOST 1048576: true; the input reads as it did. -/
def numFieldsUptoRow : OpenClaim := { program := "ytlmihaeknmeeiaa", sum := "75f7596afa1d81fa736f8417f0507cc8fc400e47295570e80d142b42c09cb6b3", func := "massif/massiflaw1.NumFields", spec := "numFields", apart := false, narrowed := true }
def NumFieldsUptoSaid : Prop := numFieldsUptoRow.holds Try.pinned (OpenSpec.upto numFieldsSpec)

/-- 'massiflaw1.NumFills', WHERE WHAT IT READS IS OF BULK AT MOST 1048576: true; the input reads as it did. -/
def numFillsUptoRow : OpenClaim := { program := "ytlmihaeknmeeiaa", sum := "75f7596afa1d81fa736f8417f0507cc8fc400e47295570e80d142b42c09cb6b3", func := "massif/massiflaw1.NumFills", spec := "numFills", apart := false, narrowed := true }
def NumFillsUptoSaid : Prop := numFillsUptoRow.holds Try.pinned (OpenSpec.upto numFillsSpec)

/-- 'massiflaw1.NumKinds', WHERE WHAT IT READS IS OF BULK AT MOST 1048576: true; the input reads as it did. -/
def numKindsUptoRow : OpenClaim := { program := "ytlmihaeknmeeiaa", sum := "75f7596afa1d81fa736f8417f0507cc8fc400e47295570e80d142b42c09cb6b3", func := "massif/massiflaw1.NumKinds", spec := "numKinds", apart := false, narrowed := true }
def NumKindsUptoSaid : Prop := numKindsUptoRow.holds Try.pinned (OpenSpec.upto numKindsSpec)

/-- 'massiflaw1.NumTurns', WHERE WHAT IT READS IS OF BULK AT MOST 1048576: true; the input reads as it did. -/
def numTurnsUptoRow : OpenClaim := { program := "ytlmihaeknmeeiaa", sum := "75f7596afa1d81fa736f8417f0507cc8fc400e47295570e80d142b42c09cb6b3", func := "massif/massiflaw1.NumTurns", spec := "numTurns", apart := false, narrowed := true }
def NumTurnsUptoSaid : Prop := numTurnsUptoRow.holds Try.pinned (OpenSpec.upto numTurnsSpec)

/-- 'massiflaw1.NumTwice', WHERE WHAT IT READS IS OF BULK AT MOST 1048576: true; the input reads as it did. -/
def numTwiceUptoRow : OpenClaim := { program := "ytlmihaeknmeeiaa", sum := "75f7596afa1d81fa736f8417f0507cc8fc400e47295570e80d142b42c09cb6b3", func := "massif/massiflaw1.NumTwice", spec := "numTwice", apart := false, narrowed := true }
def NumTwiceUptoSaid : Prop := numTwiceUptoRow.holds Try.pinned (OpenSpec.upto numTwiceSpec)

/-- 'massiflaw1.NumBack', WHERE WHAT IT READS IS OF BULK AT MOST 1048576: true; the input reads as it did. -/
def numBackUptoRow : OpenClaim := { program := "ytlmihaeknmeeiaa", sum := "75f7596afa1d81fa736f8417f0507cc8fc400e47295570e80d142b42c09cb6b3", func := "massif/massiflaw1.NumBack", spec := "numBack", apart := false, narrowed := true }
def NumBackUptoSaid : Prop := numBackUptoRow.holds Try.pinned (OpenSpec.upto numBackSpec)

/-- 'massiflaw1.NumNarrows', WHERE WHAT IT READS IS OF BULK AT MOST 1048576: true; the input reads as it did. -/
def numNarrowsUptoRow : OpenClaim := { program := "ytlmihaeknmeeiaa", sum := "75f7596afa1d81fa736f8417f0507cc8fc400e47295570e80d142b42c09cb6b3", func := "massif/massiflaw1.NumNarrows", spec := "numNarrows", apart := false, narrowed := true }
def NumNarrowsUptoSaid : Prop := numNarrowsUptoRow.holds Try.pinned (OpenSpec.upto numNarrowsSpec)

/-- 'massiflaw1.NumBytes', WHERE WHAT IT READS IS OF BULK AT MOST 1048576: true; the input reads as it did. -/
def numBytesUptoRow : OpenClaim := { program := "ytlmihaeknmeeiaa", sum := "75f7596afa1d81fa736f8417f0507cc8fc400e47295570e80d142b42c09cb6b3", func := "massif/massiflaw1.NumBytes", spec := "numBytes", apart := false, narrowed := true }
def NumBytesUptoSaid : Prop := numBytesUptoRow.holds Try.pinned (OpenSpec.upto numBytesSpec)

/-- 'massiflaw1.NumRounds', WHERE WHAT IT READS IS OF BULK AT MOST 1048576: true; the input reads as it did. -/
def numRoundsUptoRow : OpenClaim := { program := "ytlmihaeknmeeiaa", sum := "75f7596afa1d81fa736f8417f0507cc8fc400e47295570e80d142b42c09cb6b3", func := "massif/massiflaw1.NumRounds", spec := "numRounds", apart := false, narrowed := true }
def NumRoundsUptoSaid : Prop := numRoundsUptoRow.holds Try.pinned (OpenSpec.upto numRoundsSpec)

end Rows
end Go.Proofs.Ytlmihaeknmeeiaa
