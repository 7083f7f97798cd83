/-
  No cell of these rows narrows 'for every input' (looked for: loops, veiled, ifaces, maps, wideKeys, modest, calm, conditions, laid).
  DERIVED. THE GIVEN ROWS OF THIS SEAT. 10 by the template 'for every input the law returns true; each argument reads behind the call as it read before'; 0 by the template 'total and deterministic' (their statements: YtkiomgnjjijbgaaTotals.lean).
  GIVEN WITH THE SEED: the statements are not yours to turn. If you find one false, say at which input.
  Laid BY PROGRAM, IN A SANDBOX (cutbox-rows.mjs): the forced cells as the released guide's own fill.sh prints them over the translation 323da217f874cbcc… (all of the seat's roots in one cut). By AI agents, Wed Nov 11 2026. No macro, syntax, notation, axiom, sorry.
-/
import Derived.Test.YtkiomgnjjijbgaaChecked
import GoSem.Claim
import GoSem.ClaimJoined
import GoSem.ClaimMapViews
import Derived.JoinedTies
import Derived.KernelRfl
namespace Go.Proofs.Ytkiomgnjjijbgaa
/- THE CELL 'sum', in the pinned program and in every row, IS THE sha256 OF THE DUMP (.gsa) THAT YtkiomgnjjijbgaaProg.lean LOADS. Nothing in Lean hashes anything: it is a label: what it is worth is what the hold of that sum in a sandbox is worth. -/
noncomputable def Try.pinned : Pinned := { name := "ytkiomgnjjijbgaa", sum := "323da217f874cbcc6abc5578218ba6b89e9f0a8fe7e5d105a39f936163ba9d92", checked := Try.checked }
namespace Rows
def none {H : Type} : Left H := { results := [], args := [] }

/-- 'massiflaw3.PosSpots': WHATEVER THE INPUT: true; the input reads as it did. -/
def posSpotsSpec : ChangeSpec := { name := "posSpots", fn := fun _ => fun
  | [d1, d2] => { results := [.lit (.bool true)], args := [d1, d2] }
  | _ => none }
def posSpotsRow : OpenClaim := { program := "ytkiomgnjjijbgaa", sum := "323da217f874cbcc6abc5578218ba6b89e9f0a8fe7e5d105a39f936163ba9d92", func := "massif/massiflaw3.PosSpots", spec := "posSpots", plainKeys := false, apart := false }
def PosSpotsSaid : Prop := posSpotsRow.holds Try.pinned (OpenSpec.ofChange posSpotsSpec)

/-- ITS FALSE NEIGHBOUR: 'it returns false'. Refute it at one input. -/
def posSpotsWrong : ChangeSpec := { name := "posSpots", fn := fun _ => fun
  | [d1, d2] => { results := [.lit (.bool false)], args := [d1, d2] }
  | _ => none }
def PosSpotsWrongFalsely : Prop := posSpotsRow.holds Try.pinned (OpenSpec.ofChange posSpotsWrong)

/-- 'massiflaw3.PosNumbers': WHATEVER THE INPUT: true; the input reads as it did. -/
def posNumbersSpec : ChangeSpec := { name := "posNumbers", fn := fun _ => fun
  | [d1, d2] => { results := [.lit (.bool true)], args := [d1, d2] }
  | _ => none }
def posNumbersRow : OpenClaim := { program := "ytkiomgnjjijbgaa", sum := "323da217f874cbcc6abc5578218ba6b89e9f0a8fe7e5d105a39f936163ba9d92", func := "massif/massiflaw3.PosNumbers", spec := "posNumbers", plainKeys := false, apart := false }
def PosNumbersSaid : Prop := posNumbersRow.holds Try.pinned (OpenSpec.ofChange posNumbersSpec)

/-- ITS FALSE NEIGHBOUR: 'it returns false'. Refute it at one input. -/
def posNumbersWrong : ChangeSpec := { name := "posNumbers", fn := fun _ => fun
  | [d1, d2] => { results := [.lit (.bool false)], args := [d1, d2] }
  | _ => none }
def PosNumbersWrongFalsely : Prop := posNumbersRow.holds Try.pinned (OpenSpec.ofChange posNumbersWrong)

/-- 'massiflaw3.PosUnder': WHATEVER THE INPUT: true; the input reads as it did. -/
def posUnderSpec : ChangeSpec := { name := "posUnder", fn := fun _ => fun
  | [d] => { results := [.lit (.bool true)], args := [d] }
  | _ => none }
def posUnderRow : OpenClaim := { program := "ytkiomgnjjijbgaa", sum := "323da217f874cbcc6abc5578218ba6b89e9f0a8fe7e5d105a39f936163ba9d92", func := "massif/massiflaw3.PosUnder", spec := "posUnder", plainKeys := false, apart := false }
def PosUnderSaid : Prop := posUnderRow.holds Try.pinned (OpenSpec.ofChange posUnderSpec)

/-- ITS FALSE NEIGHBOUR: 'it returns false'. Refute it at one input. -/
def posUnderWrong : ChangeSpec := { name := "posUnder", fn := fun _ => fun
  | [d] => { results := [.lit (.bool false)], args := [d] }
  | _ => none }
def PosUnderWrongFalsely : Prop := posUnderRow.holds Try.pinned (OpenSpec.ofChange posUnderWrong)

/-- 'massiflaw3.PosLeaves': WHATEVER THE INPUT: true; the input reads as it did. -/
def posLeavesSpec : ChangeSpec := { name := "posLeaves", fn := fun _ => fun
  | [d1, d2] => { results := [.lit (.bool true)], args := [d1, d2] }
  | _ => none }
def posLeavesRow : OpenClaim := { program := "ytkiomgnjjijbgaa", sum := "323da217f874cbcc6abc5578218ba6b89e9f0a8fe7e5d105a39f936163ba9d92", func := "massif/massiflaw3.PosLeaves", spec := "posLeaves", plainKeys := false, apart := false }
def PosLeavesSaid : Prop := posLeavesRow.holds Try.pinned (OpenSpec.ofChange posLeavesSpec)

/-- ITS FALSE NEIGHBOUR: 'it returns false'. Refute it at one input. -/
def posLeavesWrong : ChangeSpec := { name := "posLeaves", fn := fun _ => fun
  | [d1, d2] => { results := [.lit (.bool false)], args := [d1, d2] }
  | _ => none }
def PosLeavesWrongFalsely : Prop := posLeavesRow.holds Try.pinned (OpenSpec.ofChange posLeavesWrong)

/-- 'massiflaw3.PosCovers': WHATEVER THE INPUT: true; the input reads as it did. -/
def posCoversSpec : ChangeSpec := { name := "posCovers", fn := fun _ => fun
  | [d] => { results := [.lit (.bool true)], args := [d] }
  | _ => none }
def posCoversRow : OpenClaim := { program := "ytkiomgnjjijbgaa", sum := "323da217f874cbcc6abc5578218ba6b89e9f0a8fe7e5d105a39f936163ba9d92", func := "massif/massiflaw3.PosCovers", spec := "posCovers", unfollowed := true, recurses := true, plainKeys := false, apart := false }
def PosCoversSaid : Prop := posCoversRow.holds Try.pinned (OpenSpec.ofChange posCoversSpec)

/-- ITS FALSE NEIGHBOUR: 'it returns false'. Refute it at one input. -/
def posCoversWrong : ChangeSpec := { name := "posCovers", fn := fun _ => fun
  | [d] => { results := [.lit (.bool false)], args := [d] }
  | _ => none }
def PosCoversWrongFalsely : Prop := posCoversRow.holds Try.pinned (OpenSpec.ofChange posCoversWrong)

/-- 'massiflaw3.PosKin': WHATEVER THE INPUT: true; the input reads as it did. -/
def posKinSpec : ChangeSpec := { name := "posKin", fn := fun _ => fun
  | [d] => { results := [.lit (.bool true)], args := [d] }
  | _ => none }
def posKinRow : OpenClaim := { program := "ytkiomgnjjijbgaa", sum := "323da217f874cbcc6abc5578218ba6b89e9f0a8fe7e5d105a39f936163ba9d92", func := "massif/massiflaw3.PosKin", spec := "posKin", unfollowed := true, recurses := true, plainKeys := false, apart := false }
def PosKinSaid : Prop := posKinRow.holds Try.pinned (OpenSpec.ofChange posKinSpec)

/-- ITS FALSE NEIGHBOUR: 'it returns false'. Refute it at one input. -/
def posKinWrong : ChangeSpec := { name := "posKin", fn := fun _ => fun
  | [d] => { results := [.lit (.bool false)], args := [d] }
  | _ => none }
def PosKinWrongFalsely : Prop := posKinRow.holds Try.pinned (OpenSpec.ofChange posKinWrong)

/-- 'massiflaw3.PosPeaks': WHATEVER THE INPUT: true; the input reads as it did. -/
def posPeaksSpec : ChangeSpec := { name := "posPeaks", fn := fun _ => fun
  | [d1, d2] => { results := [.lit (.bool true)], args := [d1, d2] }
  | _ => none }
def posPeaksRow : OpenClaim := { program := "ytkiomgnjjijbgaa", sum := "323da217f874cbcc6abc5578218ba6b89e9f0a8fe7e5d105a39f936163ba9d92", func := "massif/massiflaw3.PosPeaks", spec := "posPeaks", plainKeys := false, apart := false }
def PosPeaksSaid : Prop := posPeaksRow.holds Try.pinned (OpenSpec.ofChange posPeaksSpec)

/-- ITS FALSE NEIGHBOUR: 'it returns false'. Refute it at one input. -/
def posPeaksWrong : ChangeSpec := { name := "posPeaks", fn := fun _ => fun
  | [d1, d2] => { results := [.lit (.bool false)], args := [d1, d2] }
  | _ => none }
def PosPeaksWrongFalsely : Prop := posPeaksRow.holds Try.pinned (OpenSpec.ofChange posPeaksWrong)

/-- 'massiflaw3.PosForest': WHATEVER THE INPUT: true; the input reads as it did. -/
def posForestSpec : ChangeSpec := { name := "posForest", fn := fun _ => fun
  | [d] => { results := [.lit (.bool true)], args := [d] }
  | _ => none }
def posForestRow : OpenClaim := { program := "ytkiomgnjjijbgaa", sum := "323da217f874cbcc6abc5578218ba6b89e9f0a8fe7e5d105a39f936163ba9d92", func := "massif/massiflaw3.PosForest", spec := "posForest", unfollowed := true, recurses := true, plainKeys := false, apart := false }
def PosForestSaid : Prop := posForestRow.holds Try.pinned (OpenSpec.ofChange posForestSpec)

/-- ITS FALSE NEIGHBOUR: 'it returns false'. Refute it at one input. -/
def posForestWrong : ChangeSpec := { name := "posForest", fn := fun _ => fun
  | [d] => { results := [.lit (.bool false)], args := [d] }
  | _ => none }
def PosForestWrongFalsely : Prop := posForestRow.holds Try.pinned (OpenSpec.ofChange posForestWrong)

/-- 'massiflaw3.PosBack': WHATEVER THE INPUT: true; the input reads as it did. -/
def posBackSpec : ChangeSpec := { name := "posBack", fn := fun _ => fun
  | [d1, d2] => { results := [.lit (.bool true)], args := [d1, d2] }
  | _ => none }
def posBackRow : OpenClaim := { program := "ytkiomgnjjijbgaa", sum := "323da217f874cbcc6abc5578218ba6b89e9f0a8fe7e5d105a39f936163ba9d92", func := "massif/massiflaw3.PosBack", spec := "posBack", unfollowed := true, recurses := true, plainKeys := false, apart := false }
def PosBackSaid : Prop := posBackRow.holds Try.pinned (OpenSpec.ofChange posBackSpec)

/-- ITS FALSE NEIGHBOUR: 'it returns false'. Refute it at one input. -/
def posBackWrong : ChangeSpec := { name := "posBack", fn := fun _ => fun
  | [d1, d2] => { results := [.lit (.bool false)], args := [d1, d2] }
  | _ => none }
def PosBackWrongFalsely : Prop := posBackRow.holds Try.pinned (OpenSpec.ofChange posBackWrong)

/-- 'massiflaw3.PosWays': WHATEVER THE INPUT: true; the input reads as it did. -/
def posWaysSpec : ChangeSpec := { name := "posWays", fn := fun _ => fun
  | [d1, d2] => { results := [.lit (.bool true)], args := [d1, d2] }
  | _ => none }
def posWaysRow : OpenClaim := { program := "ytkiomgnjjijbgaa", sum := "323da217f874cbcc6abc5578218ba6b89e9f0a8fe7e5d105a39f936163ba9d92", func := "massif/massiflaw3.PosWays", spec := "posWays", unfollowed := true, recurses := true, plainKeys := false, apart := false }
def PosWaysSaid : Prop := posWaysRow.holds Try.pinned (OpenSpec.ofChange posWaysSpec)

/-- ITS FALSE NEIGHBOUR: 'it returns false'. Refute it at one input. -/
def posWaysWrong : ChangeSpec := { name := "posWays", fn := fun _ => fun
  | [d1, d2] => { results := [.lit (.bool false)], args := [d1, d2] }
  | _ => none }
def PosWaysWrongFalsely : Prop := posWaysRow.holds Try.pinned (OpenSpec.ofChange posWaysWrong)

/- THE SECOND FORM. 'bulk': how many values and letters a reading holds, each counted each time it is reached (what is shared counts as often as it is met; a slice's spare places count too). A statement '..UptoSaid' is the law's where the arguments, and the package variables that the reading takes, are together of bulk at most 1048576: NARROWER than '..Said'. Prove '..Said' where nothing that the law and all that it calls make is longer than what came in: it says more and counts as full. Else prove '..UptoSaid'. A law counts once. -/
mutual
def uptoBulk {H : Type} : DataW H → Nat
  | .lit (.string bytes) => bytes.length + 1
  | .lit _ => 1
  | .nil => 1
  | .ptr d => uptoBulk d + 1
  | .slice elems spare => uptoBulkAll elems + uptoBulkAll spare + 1
  | .agg parts => uptoBulkAll parts + 1
  | .iface _ d => uptoBulk d + 1
  | .map entries => uptoBulkEntries entries + 1
  | .held _ => 1
def uptoBulkAll {H : Type} : List (DataW H) → Nat
  | [] => 0
  | d :: r => uptoBulk d + uptoBulkAll r
def uptoBulkEntries {H : Type} : List (Lit × DataW H) → Nat
  | [] => 0
  | x :: r => uptoBulkEntry x + uptoBulkEntries r
def uptoBulkEntry {H : Type} : Lit × DataW H → Nat
  | (.string bytes, d) => bytes.length + uptoBulk d + 1
  | (_, d) => uptoBulk d + 1
 end
def uptoSmall : (H : Type) → List (DataW H) → Bool := fun _ ds => decide (uptoBulkAll ds ≤ 1048576)
def OpenSpec.upto (s : _root_.Go.ChangeSpec) : _root_.Go.OpenSpec := { _root_.Go.OpenSpec.ofChange s with cond := some uptoSmall }

/-- 'massiflaw3.PosSpots', WHERE WHAT IT READS IS OF BULK AT MOST 1048576: true; the input reads as it did. -/
def posSpotsUptoRow : OpenClaim := { program := "ytkiomgnjjijbgaa", sum := "323da217f874cbcc6abc5578218ba6b89e9f0a8fe7e5d105a39f936163ba9d92", func := "massif/massiflaw3.PosSpots", spec := "posSpots", plainKeys := false, apart := false, narrowed := true }
def PosSpotsUptoSaid : Prop := posSpotsUptoRow.holds Try.pinned (OpenSpec.upto posSpotsSpec)

/-- 'massiflaw3.PosNumbers', WHERE WHAT IT READS IS OF BULK AT MOST 1048576: true; the input reads as it did. -/
def posNumbersUptoRow : OpenClaim := { program := "ytkiomgnjjijbgaa", sum := "323da217f874cbcc6abc5578218ba6b89e9f0a8fe7e5d105a39f936163ba9d92", func := "massif/massiflaw3.PosNumbers", spec := "posNumbers", plainKeys := false, apart := false, narrowed := true }
def PosNumbersUptoSaid : Prop := posNumbersUptoRow.holds Try.pinned (OpenSpec.upto posNumbersSpec)

/-- 'massiflaw3.PosUnder', WHERE WHAT IT READS IS OF BULK AT MOST 1048576: true; the input reads as it did. -/
def posUnderUptoRow : OpenClaim := { program := "ytkiomgnjjijbgaa", sum := "323da217f874cbcc6abc5578218ba6b89e9f0a8fe7e5d105a39f936163ba9d92", func := "massif/massiflaw3.PosUnder", spec := "posUnder", plainKeys := false, apart := false, narrowed := true }
def PosUnderUptoSaid : Prop := posUnderUptoRow.holds Try.pinned (OpenSpec.upto posUnderSpec)

/-- 'massiflaw3.PosLeaves', WHERE WHAT IT READS IS OF BULK AT MOST 1048576: true; the input reads as it did. -/
def posLeavesUptoRow : OpenClaim := { program := "ytkiomgnjjijbgaa", sum := "323da217f874cbcc6abc5578218ba6b89e9f0a8fe7e5d105a39f936163ba9d92", func := "massif/massiflaw3.PosLeaves", spec := "posLeaves", plainKeys := false, apart := false, narrowed := true }
def PosLeavesUptoSaid : Prop := posLeavesUptoRow.holds Try.pinned (OpenSpec.upto posLeavesSpec)

/-- 'massiflaw3.PosCovers', WHERE WHAT IT READS IS OF BULK AT MOST 1048576: true; the input reads as it did. -/
def posCoversUptoRow : OpenClaim := { program := "ytkiomgnjjijbgaa", sum := "323da217f874cbcc6abc5578218ba6b89e9f0a8fe7e5d105a39f936163ba9d92", func := "massif/massiflaw3.PosCovers", spec := "posCovers", unfollowed := true, recurses := true, plainKeys := false, apart := false, narrowed := true }
def PosCoversUptoSaid : Prop := posCoversUptoRow.holds Try.pinned (OpenSpec.upto posCoversSpec)

/-- 'massiflaw3.PosKin', WHERE WHAT IT READS IS OF BULK AT MOST 1048576: true; the input reads as it did. -/
def posKinUptoRow : OpenClaim := { program := "ytkiomgnjjijbgaa", sum := "323da217f874cbcc6abc5578218ba6b89e9f0a8fe7e5d105a39f936163ba9d92", func := "massif/massiflaw3.PosKin", spec := "posKin", unfollowed := true, recurses := true, plainKeys := false, apart := false, narrowed := true }
def PosKinUptoSaid : Prop := posKinUptoRow.holds Try.pinned (OpenSpec.upto posKinSpec)

/-- 'massiflaw3.PosPeaks', WHERE WHAT IT READS IS OF BULK AT MOST 1048576: true; the input reads as it did. -/
def posPeaksUptoRow : OpenClaim := { program := "ytkiomgnjjijbgaa", sum := "323da217f874cbcc6abc5578218ba6b89e9f0a8fe7e5d105a39f936163ba9d92", func := "massif/massiflaw3.PosPeaks", spec := "posPeaks", plainKeys := false, apart := false, narrowed := true }
def PosPeaksUptoSaid : Prop := posPeaksUptoRow.holds Try.pinned (OpenSpec.upto posPeaksSpec)

/-- 'massiflaw3.PosForest', WHERE WHAT IT READS IS OF BULK AT MOST 1048576: true; the input reads as it did. -/
def posForestUptoRow : OpenClaim := { program := "ytkiomgnjjijbgaa", sum := "323da217f874cbcc6abc5578218ba6b89e9f0a8fe7e5d105a39f936163ba9d92", func := "massif/massiflaw3.PosForest", spec := "posForest", unfollowed := true, recurses := true, plainKeys := false, apart := false, narrowed := true }
def PosForestUptoSaid : Prop := posForestUptoRow.holds Try.pinned (OpenSpec.upto posForestSpec)

/-- 'massiflaw3.PosBack', WHERE WHAT IT READS IS OF BULK AT MOST 1048576: true; the input reads as it did. -/
def posBackUptoRow : OpenClaim := { program := "ytkiomgnjjijbgaa", sum := "323da217f874cbcc6abc5578218ba6b89e9f0a8fe7e5d105a39f936163ba9d92", func := "massif/massiflaw3.PosBack", spec := "posBack", unfollowed := true, recurses := true, plainKeys := false, apart := false, narrowed := true }
def PosBackUptoSaid : Prop := posBackUptoRow.holds Try.pinned (OpenSpec.upto posBackSpec)

/-- 'massiflaw3.PosWays', WHERE WHAT IT READS IS OF BULK AT MOST 1048576: true; the input reads as it did. -/
def posWaysUptoRow : OpenClaim := { program := "ytkiomgnjjijbgaa", sum := "323da217f874cbcc6abc5578218ba6b89e9f0a8fe7e5d105a39f936163ba9d92", func := "massif/massiflaw3.PosWays", spec := "posWays", unfollowed := true, recurses := true, plainKeys := false, apart := false, narrowed := true }
def PosWaysUptoSaid : Prop := posWaysUptoRow.holds Try.pinned (OpenSpec.upto posWaysSpec)

end Rows
end Go.Proofs.Ytkiomgnjjijbgaa
