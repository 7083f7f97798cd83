/-
  NARROWER THAN 'FOR EVERY INPUT', by the rows' own cells (each row's printed sentence says how): CutSpans: laid · CutMade: laid · CutMerges: laid · CutCovers: laid · CutBreaks: laid · CutTops: laid.
  DERIVED. THE GIVEN ROWS OF THIS SEAT. 6 by the template 'for every input the law returns true; each argument reads behind the call as it read before'; 0 by the template 'total and deterministic' (their statements: YtpbahbigimnboaaDoorTotals.lean).
  GIVEN WITH THE SEED: the statements are not yours to turn. If you find one false, say at which input.
  Laid BY PROGRAM, IN A SANDBOX (cutbox-rows.mjs): the forced cells as the released guide's own fill.sh prints them over the translation fdfe5eb2180dd3ae… (all of the seat's roots in one cut). By AI agents, Wed Nov 11 2026. No macro, syntax, notation, axiom, sorry.
-/
import Derived.Test.YtpbahbigimnboaaDoorChecked
import GoSem.Claim
import GoSem.ClaimJoined
import GoSem.ClaimMapViews
import Derived.JoinedTies
import Derived.KernelRfl
namespace Go.Proofs.YtpbahbigimnboaaDoor
/- THE CELL 'sum', in the pinned program and in every row, IS THE sha256 OF THE DUMP (.gsa) THAT YtpbahbigimnboaaDoorProg.lean LOADS. Nothing in Lean hashes anything: it is a label: what it is worth is what the hold of that sum in a sandbox is worth. -/
noncomputable def Tryd.pinned : Pinned := { name := "ytpbahbigimnboaadoor", sum := "fdfe5eb2180dd3aed38d363e73b6faf9ac96cfe403ca4e2585caed6082018887", checked := Tryd.checked }
namespace Rows
def none {H : Type} : Left H := { results := [], args := [] }

/- WHAT THE LISTED PACKAGE-LEVEL VARIABLES READ AS WHEN THE CALL BEGINS. Each datum BY PROGRAM (the guide's laid-datum.mjs) off the statement by which the dump's own 'gosem.cut.vars' lays the variable. In a bare row this is a premise. The card (YtpbahbigimnboaaDoorCards.lean) ties it to the program's text. -/
def laid_math_bits_deBruijn64tab {H : Type} : DataW H := .agg [.lit (.int .u8 0), .lit (.int .u8 1), .lit (.int .u8 56), .lit (.int .u8 2), .lit (.int .u8 57), .lit (.int .u8 49), .lit (.int .u8 28), .lit (.int .u8 3), .lit (.int .u8 61), .lit (.int .u8 58), .lit (.int .u8 42), .lit (.int .u8 50), .lit (.int .u8 38), .lit (.int .u8 29), .lit (.int .u8 17), .lit (.int .u8 4), .lit (.int .u8 62), .lit (.int .u8 47), .lit (.int .u8 59), .lit (.int .u8 36), .lit (.int .u8 45), .lit (.int .u8 43), .lit (.int .u8 51), .lit (.int .u8 22), .lit (.int .u8 53), .lit (.int .u8 39), .lit (.int .u8 33), .lit (.int .u8 30), .lit (.int .u8 24), .lit (.int .u8 18), .lit (.int .u8 12), .lit (.int .u8 5), .lit (.int .u8 63), .lit (.int .u8 55), .lit (.int .u8 48), .lit (.int .u8 27), .lit (.int .u8 60), .lit (.int .u8 41), .lit (.int .u8 37), .lit (.int .u8 16), .lit (.int .u8 46), .lit (.int .u8 35), .lit (.int .u8 44), .lit (.int .u8 21), .lit (.int .u8 52), .lit (.int .u8 32), .lit (.int .u8 23), .lit (.int .u8 11), .lit (.int .u8 54), .lit (.int .u8 26), .lit (.int .u8 40), .lit (.int .u8 15), .lit (.int .u8 34), .lit (.int .u8 20), .lit (.int .u8 31), .lit (.int .u8 10), .lit (.int .u8 25), .lit (.int .u8 14), .lit (.int .u8 19), .lit (.int .u8 9), .lit (.int .u8 13), .lit (.int .u8 8), .lit (.int .u8 7), .lit (.int .u8 6)]

/-- 'massiflaw4.CutSpans': WHATEVER THE INPUT: true; the input reads as it did. -/
def cutSpansSpec : ChangeSpec := { name := "cutSpans", fn := fun _ => fun
  | [d1, d2, d3, d4] => { results := [.lit (.bool true)], args := [d1, d2, d3, d4] }
  | _ => none }
def cutSpansRow : OpenClaim := { program := "ytpbahbigimnboaadoor", sum := "fdfe5eb2180dd3aed38d363e73b6faf9ac96cfe403ca4e2585caed6082018887", func := "massif/massiflaw4.CutSpans", spec := "cutSpans", named := ["math/bits.deBruijn64tab"], apart := false, laid := [("math/bits.deBruijn64tab", laid_math_bits_deBruijn64tab)] }
def CutSpansSaid : Prop := cutSpansRow.holds Tryd.pinned (OpenSpec.ofChange cutSpansSpec)

/-- ITS FALSE NEIGHBOUR: 'it returns false'. Refute it at one input. -/
def cutSpansWrong : ChangeSpec := { name := "cutSpans", fn := fun _ => fun
  | [d1, d2, d3, d4] => { results := [.lit (.bool false)], args := [d1, d2, d3, d4] }
  | _ => none }
def CutSpansWrongFalsely : Prop := cutSpansRow.holds Tryd.pinned (OpenSpec.ofChange cutSpansWrong)

/-- 'massiflaw4.CutMade': WHATEVER THE INPUT: true; the input reads as it did. -/
def cutMadeSpec : ChangeSpec := { name := "cutMade", fn := fun _ => fun
  | [d1, d2] => { results := [.lit (.bool true)], args := [d1, d2] }
  | _ => none }
def cutMadeRow : OpenClaim := { program := "ytpbahbigimnboaadoor", sum := "fdfe5eb2180dd3aed38d363e73b6faf9ac96cfe403ca4e2585caed6082018887", func := "massif/massiflaw4.CutMade", spec := "cutMade", named := ["math/bits.deBruijn64tab"], apart := false, laid := [("math/bits.deBruijn64tab", laid_math_bits_deBruijn64tab)] }
def CutMadeSaid : Prop := cutMadeRow.holds Tryd.pinned (OpenSpec.ofChange cutMadeSpec)

/-- ITS FALSE NEIGHBOUR: 'it returns false'. Refute it at one input. -/
def cutMadeWrong : ChangeSpec := { name := "cutMade", fn := fun _ => fun
  | [d1, d2] => { results := [.lit (.bool false)], args := [d1, d2] }
  | _ => none }
def CutMadeWrongFalsely : Prop := cutMadeRow.holds Tryd.pinned (OpenSpec.ofChange cutMadeWrong)

/-- 'massiflaw4.CutMerges': WHATEVER THE INPUT: true; the input reads as it did. -/
def cutMergesSpec : ChangeSpec := { name := "cutMerges", fn := fun _ => fun
  | [d] => { results := [.lit (.bool true)], args := [d] }
  | _ => none }
def cutMergesRow : OpenClaim := { program := "ytpbahbigimnboaadoor", sum := "fdfe5eb2180dd3aed38d363e73b6faf9ac96cfe403ca4e2585caed6082018887", func := "massif/massiflaw4.CutMerges", spec := "cutMerges", named := ["math/bits.deBruijn64tab"], apart := false, laid := [("math/bits.deBruijn64tab", laid_math_bits_deBruijn64tab)] }
def CutMergesSaid : Prop := cutMergesRow.holds Tryd.pinned (OpenSpec.ofChange cutMergesSpec)

/-- ITS FALSE NEIGHBOUR: 'it returns false'. Refute it at one input. -/
def cutMergesWrong : ChangeSpec := { name := "cutMerges", fn := fun _ => fun
  | [d] => { results := [.lit (.bool false)], args := [d] }
  | _ => none }
def CutMergesWrongFalsely : Prop := cutMergesRow.holds Tryd.pinned (OpenSpec.ofChange cutMergesWrong)

/-- 'massiflaw4.CutCovers': WHATEVER THE INPUT: true; the input reads as it did. -/
def cutCoversSpec : ChangeSpec := { name := "cutCovers", fn := fun _ => fun
  | [d1, d2] => { results := [.lit (.bool true)], args := [d1, d2] }
  | _ => none }
def cutCoversRow : OpenClaim := { program := "ytpbahbigimnboaadoor", sum := "fdfe5eb2180dd3aed38d363e73b6faf9ac96cfe403ca4e2585caed6082018887", func := "massif/massiflaw4.CutCovers", spec := "cutCovers", named := ["math/bits.deBruijn64tab"], apart := false, laid := [("math/bits.deBruijn64tab", laid_math_bits_deBruijn64tab)] }
def CutCoversSaid : Prop := cutCoversRow.holds Tryd.pinned (OpenSpec.ofChange cutCoversSpec)

/-- ITS FALSE NEIGHBOUR: 'it returns false'. Refute it at one input. -/
def cutCoversWrong : ChangeSpec := { name := "cutCovers", fn := fun _ => fun
  | [d1, d2] => { results := [.lit (.bool false)], args := [d1, d2] }
  | _ => none }
def CutCoversWrongFalsely : Prop := cutCoversRow.holds Tryd.pinned (OpenSpec.ofChange cutCoversWrong)

/-- 'massiflaw4.CutBreaks': WHATEVER THE INPUT: true; the input reads as it did. -/
def cutBreaksSpec : ChangeSpec := { name := "cutBreaks", fn := fun _ => fun
  | [d1, d2] => { results := [.lit (.bool true)], args := [d1, d2] }
  | _ => none }
def cutBreaksRow : OpenClaim := { program := "ytpbahbigimnboaadoor", sum := "fdfe5eb2180dd3aed38d363e73b6faf9ac96cfe403ca4e2585caed6082018887", func := "massif/massiflaw4.CutBreaks", spec := "cutBreaks", named := ["math/bits.deBruijn64tab"], apart := false, laid := [("math/bits.deBruijn64tab", laid_math_bits_deBruijn64tab)] }
def CutBreaksSaid : Prop := cutBreaksRow.holds Tryd.pinned (OpenSpec.ofChange cutBreaksSpec)

/-- ITS FALSE NEIGHBOUR: 'it returns false'. Refute it at one input. -/
def cutBreaksWrong : ChangeSpec := { name := "cutBreaks", fn := fun _ => fun
  | [d1, d2] => { results := [.lit (.bool false)], args := [d1, d2] }
  | _ => none }
def CutBreaksWrongFalsely : Prop := cutBreaksRow.holds Tryd.pinned (OpenSpec.ofChange cutBreaksWrong)

/-- 'massiflaw4.CutTops': WHATEVER THE INPUT: true; the input reads as it did. -/
def cutTopsSpec : ChangeSpec := { name := "cutTops", fn := fun _ => fun
  | [d1, d2] => { results := [.lit (.bool true)], args := [d1, d2] }
  | _ => none }
def cutTopsRow : OpenClaim := { program := "ytpbahbigimnboaadoor", sum := "fdfe5eb2180dd3aed38d363e73b6faf9ac96cfe403ca4e2585caed6082018887", func := "massif/massiflaw4.CutTops", spec := "cutTops", named := ["math/bits.deBruijn64tab"], apart := false, laid := [("math/bits.deBruijn64tab", laid_math_bits_deBruijn64tab)] }
def CutTopsSaid : Prop := cutTopsRow.holds Tryd.pinned (OpenSpec.ofChange cutTopsSpec)

/-- ITS FALSE NEIGHBOUR: 'it returns false'. Refute it at one input. -/
def cutTopsWrong : ChangeSpec := { name := "cutTops", fn := fun _ => fun
  | [d1, d2] => { results := [.lit (.bool false)], args := [d1, d2] }
  | _ => none }
def CutTopsWrongFalsely : Prop := cutTopsRow.holds Tryd.pinned (OpenSpec.ofChange cutTopsWrong)

/- THE SECOND FORM. 'bulk': how many values and letters a reading holds, each counted each time it is reached (what is shared counts as often as it is met; a slice's spare places count too). A statement '..UptoSaid' is the law's where the arguments, and the package variables that the reading takes, are together of bulk at most 1048576: NARROWER than '..Said'. Prove '..Said' where nothing that the law and all that it calls make is longer than what came in: it says more and counts as full. Else prove '..UptoSaid'. A law counts once. -/
mutual
def uptoBulk {H : Type} : DataW H → Nat
  | .lit (.string bytes) => bytes.length + 1
  | .lit _ => 1
  | .nil => 1
  | .ptr d => uptoBulk d + 1
  | .slice elems spare => uptoBulkAll elems + uptoBulkAll spare + 1
  | .agg parts => uptoBulkAll parts + 1
  | .iface _ d => uptoBulk d + 1
  | .map entries => uptoBulkEntries entries + 1
  | .held _ => 1
def uptoBulkAll {H : Type} : List (DataW H) → Nat
  | [] => 0
  | d :: r => uptoBulk d + uptoBulkAll r
def uptoBulkEntries {H : Type} : List (Lit × DataW H) → Nat
  | [] => 0
  | x :: r => uptoBulkEntry x + uptoBulkEntries r
def uptoBulkEntry {H : Type} : Lit × DataW H → Nat
  | (.string bytes, d) => bytes.length + uptoBulk d + 1
  | (_, d) => uptoBulk d + 1
 end
def uptoSmall : (H : Type) → List (DataW H) → Bool := fun _ ds => decide (uptoBulkAll ds ≤ 1048576)
def OpenSpec.upto (s : _root_.Go.ChangeSpec) : _root_.Go.OpenSpec := { _root_.Go.OpenSpec.ofChange s with cond := some uptoSmall }

/-- 'massiflaw4.CutSpans', WHERE WHAT IT READS IS OF BULK AT MOST 1048576: true; the input reads as it did. -/
def cutSpansUptoRow : OpenClaim := { program := "ytpbahbigimnboaadoor", sum := "fdfe5eb2180dd3aed38d363e73b6faf9ac96cfe403ca4e2585caed6082018887", func := "massif/massiflaw4.CutSpans", spec := "cutSpans", named := ["math/bits.deBruijn64tab"], apart := false, laid := [("math/bits.deBruijn64tab", laid_math_bits_deBruijn64tab)], narrowed := true }
def CutSpansUptoSaid : Prop := cutSpansUptoRow.holds Tryd.pinned (OpenSpec.upto cutSpansSpec)

/-- 'massiflaw4.CutMade', WHERE WHAT IT READS IS OF BULK AT MOST 1048576: true; the input reads as it did. -/
def cutMadeUptoRow : OpenClaim := { program := "ytpbahbigimnboaadoor", sum := "fdfe5eb2180dd3aed38d363e73b6faf9ac96cfe403ca4e2585caed6082018887", func := "massif/massiflaw4.CutMade", spec := "cutMade", named := ["math/bits.deBruijn64tab"], apart := false, laid := [("math/bits.deBruijn64tab", laid_math_bits_deBruijn64tab)], narrowed := true }
def CutMadeUptoSaid : Prop := cutMadeUptoRow.holds Tryd.pinned (OpenSpec.upto cutMadeSpec)

/-- 'massiflaw4.CutMerges', WHERE WHAT IT READS IS OF BULK AT MOST 1048576: true; the input reads as it did. -/
def cutMergesUptoRow : OpenClaim := { program := "ytpbahbigimnboaadoor", sum := "fdfe5eb2180dd3aed38d363e73b6faf9ac96cfe403ca4e2585caed6082018887", func := "massif/massiflaw4.CutMerges", spec := "cutMerges", named := ["math/bits.deBruijn64tab"], apart := false, laid := [("math/bits.deBruijn64tab", laid_math_bits_deBruijn64tab)], narrowed := true }
def CutMergesUptoSaid : Prop := cutMergesUptoRow.holds Tryd.pinned (OpenSpec.upto cutMergesSpec)

/-- 'massiflaw4.CutCovers', WHERE WHAT IT READS IS OF BULK AT MOST 1048576: true; the input reads as it did. -/
def cutCoversUptoRow : OpenClaim := { program := "ytpbahbigimnboaadoor", sum := "fdfe5eb2180dd3aed38d363e73b6faf9ac96cfe403ca4e2585caed6082018887", func := "massif/massiflaw4.CutCovers", spec := "cutCovers", named := ["math/bits.deBruijn64tab"], apart := false, laid := [("math/bits.deBruijn64tab", laid_math_bits_deBruijn64tab)], narrowed := true }
def CutCoversUptoSaid : Prop := cutCoversUptoRow.holds Tryd.pinned (OpenSpec.upto cutCoversSpec)

/-- 'massiflaw4.CutBreaks', WHERE WHAT IT READS IS OF BULK AT MOST 1048576: true; the input reads as it did. -/
def cutBreaksUptoRow : OpenClaim := { program := "ytpbahbigimnboaadoor", sum := "fdfe5eb2180dd3aed38d363e73b6faf9ac96cfe403ca4e2585caed6082018887", func := "massif/massiflaw4.CutBreaks", spec := "cutBreaks", named := ["math/bits.deBruijn64tab"], apart := false, laid := [("math/bits.deBruijn64tab", laid_math_bits_deBruijn64tab)], narrowed := true }
def CutBreaksUptoSaid : Prop := cutBreaksUptoRow.holds Tryd.pinned (OpenSpec.upto cutBreaksSpec)

/-- 'massiflaw4.CutTops', WHERE WHAT IT READS IS OF BULK AT MOST 1048576: true; the input reads as it did. -/
def cutTopsUptoRow : OpenClaim := { program := "ytpbahbigimnboaadoor", sum := "fdfe5eb2180dd3aed38d363e73b6faf9ac96cfe403ca4e2585caed6082018887", func := "massif/massiflaw4.CutTops", spec := "cutTops", named := ["math/bits.deBruijn64tab"], apart := false, laid := [("math/bits.deBruijn64tab", laid_math_bits_deBruijn64tab)], narrowed := true }
def CutTopsUptoSaid : Prop := cutTopsUptoRow.holds Tryd.pinned (OpenSpec.upto cutTopsSpec)

end Rows
end Go.Proofs.YtpbahbigimnboaaDoor
