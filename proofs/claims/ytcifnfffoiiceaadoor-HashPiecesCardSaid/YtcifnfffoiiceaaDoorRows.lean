/-
  NARROWER THAN 'FOR EVERY INPUT', by the rows' own cells (each row's printed sentence says how): HashSteps: laid · HashSums: laid · HashWidths: laid · HashPieces: laid · HashCuts: laid · HashMarks: laid · HashTexts: laid · HashDescends: laid · HashBlocks: laid.
  DERIVED. THE GIVEN ROWS OF THIS SEAT. 9 by the template 'for every input the law returns true; each argument reads behind the call as it read before'; 0 by the template 'total and deterministic' (their statements: YtcifnfffoiiceaaDoorTotals.lean).
  GIVEN WITH THE SEED: the statements are not yours to turn. If you find one false, say at which input.
  Laid BY PROGRAM, IN A SANDBOX (cutbox-rows.mjs): the forced cells as the released guide's own fill.sh prints them over the translation cc5d68a19e56bb77… (all of the seat's roots in one cut). By AI agents, Wed Nov 11 2026. No macro, syntax, notation, axiom, sorry.
-/
import Derived.Test.YtcifnfffoiiceaaDoorChecked
import GoSem.Claim
import GoSem.ClaimJoined
import GoSem.ClaimMapViews
import Derived.JoinedTies
import Derived.KernelRfl
namespace Go.Proofs.YtcifnfffoiiceaaDoor
/- THE CELL 'sum', in the pinned program and in every row, IS THE sha256 OF THE DUMP (.gsa) THAT YtcifnfffoiiceaaDoorProg.lean LOADS. Nothing in Lean hashes anything: it is a label: what it is worth is what the hold of that sum in a sandbox is worth. -/
noncomputable def Tryd.pinned : Pinned := { name := "ytcifnfffoiiceaadoor", sum := "cc5d68a19e56bb775b6d6268edc2a2bb104ffc98824670422e25032f1cdc34e5", checked := Tryd.checked }
namespace Rows
def none {H : Type} : Left H := { results := [], args := [] }

/- WHAT THE LISTED PACKAGE-LEVEL VARIABLES READ AS WHEN THE CALL BEGINS. Each datum BY PROGRAM (the guide's laid-datum.mjs) off the statement by which the dump's own 'gosem.cut.vars' lays the variable. In a bare row this is a premise. The card (YtcifnfffoiiceaaDoorCards.lean) ties it to the program's text. -/
def laid_massif_hash_k {H : Type} : DataW H := .agg [.lit (.int .u32 1116352408), .lit (.int .u32 1899447441), .lit (.int .u32 3049323471), .lit (.int .u32 3921009573), .lit (.int .u32 961987163), .lit (.int .u32 1508970993), .lit (.int .u32 2453635748), .lit (.int .u32 2870763221), .lit (.int .u32 3624381080), .lit (.int .u32 310598401), .lit (.int .u32 607225278), .lit (.int .u32 1426881987), .lit (.int .u32 1925078388), .lit (.int .u32 2162078206), .lit (.int .u32 2614888103), .lit (.int .u32 3248222580), .lit (.int .u32 3835390401), .lit (.int .u32 4022224774), .lit (.int .u32 264347078), .lit (.int .u32 604807628), .lit (.int .u32 770255983), .lit (.int .u32 1249150122), .lit (.int .u32 1555081692), .lit (.int .u32 1996064986), .lit (.int .u32 2554220882), .lit (.int .u32 2821834349), .lit (.int .u32 2952996808), .lit (.int .u32 3210313671), .lit (.int .u32 3336571891), .lit (.int .u32 3584528711), .lit (.int .u32 113926993), .lit (.int .u32 338241895), .lit (.int .u32 666307205), .lit (.int .u32 773529912), .lit (.int .u32 1294757372), .lit (.int .u32 1396182291), .lit (.int .u32 1695183700), .lit (.int .u32 1986661051), .lit (.int .u32 2177026350), .lit (.int .u32 2456956037), .lit (.int .u32 2730485921), .lit (.int .u32 2820302411), .lit (.int .u32 3259730800), .lit (.int .u32 3345764771), .lit (.int .u32 3516065817), .lit (.int .u32 3600352804), .lit (.int .u32 4094571909), .lit (.int .u32 275423344), .lit (.int .u32 430227734), .lit (.int .u32 506948616), .lit (.int .u32 659060556), .lit (.int .u32 883997877), .lit (.int .u32 958139571), .lit (.int .u32 1322822218), .lit (.int .u32 1537002063), .lit (.int .u32 1747873779), .lit (.int .u32 1955562222), .lit (.int .u32 2024104815), .lit (.int .u32 2227730452), .lit (.int .u32 2361852424), .lit (.int .u32 2428436474), .lit (.int .u32 2756734187), .lit (.int .u32 3204031479), .lit (.int .u32 3329325298)]
def laid_massif_hash_first {H : Type} : DataW H := .agg [.lit (.int .u8 106), .lit (.int .u8 9), .lit (.int .u8 230), .lit (.int .u8 103), .lit (.int .u8 187), .lit (.int .u8 103), .lit (.int .u8 174), .lit (.int .u8 133), .lit (.int .u8 60), .lit (.int .u8 110), .lit (.int .u8 243), .lit (.int .u8 114), .lit (.int .u8 165), .lit (.int .u8 79), .lit (.int .u8 245), .lit (.int .u8 58), .lit (.int .u8 81), .lit (.int .u8 14), .lit (.int .u8 82), .lit (.int .u8 127), .lit (.int .u8 155), .lit (.int .u8 5), .lit (.int .u8 104), .lit (.int .u8 140), .lit (.int .u8 31), .lit (.int .u8 131), .lit (.int .u8 217), .lit (.int .u8 171), .lit (.int .u8 91), .lit (.int .u8 224), .lit (.int .u8 205), .lit (.int .u8 25)]

/-- 'massiflaw2.HashSteps': WHATEVER THE INPUT: true; the input reads as it did. -/
def hashStepsSpec : ChangeSpec := { name := "hashSteps", fn := fun _ => fun
  | [d1, d2, d3] => { results := [.lit (.bool true)], args := [d1, d2, d3] }
  | _ => none }
def hashStepsRow : OpenClaim := { program := "ytcifnfffoiiceaadoor", sum := "cc5d68a19e56bb775b6d6268edc2a2bb104ffc98824670422e25032f1cdc34e5", func := "massif/massiflaw2.HashSteps", spec := "hashSteps", named := ["massif/hash.k", "massif/hash.first"], apart := false, laid := [("massif/hash.k", laid_massif_hash_k), ("massif/hash.first", laid_massif_hash_first)] }
def HashStepsSaid : Prop := hashStepsRow.holds Tryd.pinned (OpenSpec.ofChange hashStepsSpec)

/-- ITS FALSE NEIGHBOUR: 'it returns false'. Refute it at one input. -/
def hashStepsWrong : ChangeSpec := { name := "hashSteps", fn := fun _ => fun
  | [d1, d2, d3] => { results := [.lit (.bool false)], args := [d1, d2, d3] }
  | _ => none }
def HashStepsWrongFalsely : Prop := hashStepsRow.holds Tryd.pinned (OpenSpec.ofChange hashStepsWrong)

/-- 'massiflaw2.HashSums': WHATEVER THE INPUT: true; the input reads as it did. -/
def hashSumsSpec : ChangeSpec := { name := "hashSums", fn := fun _ => fun
  | [d1, d2] => { results := [.lit (.bool true)], args := [d1, d2] }
  | _ => none }
def hashSumsRow : OpenClaim := { program := "ytcifnfffoiiceaadoor", sum := "cc5d68a19e56bb775b6d6268edc2a2bb104ffc98824670422e25032f1cdc34e5", func := "massif/massiflaw2.HashSums", spec := "hashSums", named := ["massif/hash.first", "massif/hash.k"], apart := false, laid := [("massif/hash.k", laid_massif_hash_k), ("massif/hash.first", laid_massif_hash_first)] }
def HashSumsSaid : Prop := hashSumsRow.holds Tryd.pinned (OpenSpec.ofChange hashSumsSpec)

/-- ITS FALSE NEIGHBOUR: 'it returns false'. Refute it at one input. -/
def hashSumsWrong : ChangeSpec := { name := "hashSums", fn := fun _ => fun
  | [d1, d2] => { results := [.lit (.bool false)], args := [d1, d2] }
  | _ => none }
def HashSumsWrongFalsely : Prop := hashSumsRow.holds Tryd.pinned (OpenSpec.ofChange hashSumsWrong)

/-- 'massiflaw2.HashWidths': WHATEVER THE INPUT: true; the input reads as it did. -/
def hashWidthsSpec : ChangeSpec := { name := "hashWidths", fn := fun _ => fun
  | [d1, d2, d3, d4] => { results := [.lit (.bool true)], args := [d1, d2, d3, d4] }
  | _ => none }
def hashWidthsRow : OpenClaim := { program := "ytcifnfffoiiceaadoor", sum := "cc5d68a19e56bb775b6d6268edc2a2bb104ffc98824670422e25032f1cdc34e5", func := "massif/massiflaw2.HashWidths", spec := "hashWidths", named := ["massif/hash.first", "massif/hash.k"], apart := false, laid := [("massif/hash.k", laid_massif_hash_k), ("massif/hash.first", laid_massif_hash_first)] }
def HashWidthsSaid : Prop := hashWidthsRow.holds Tryd.pinned (OpenSpec.ofChange hashWidthsSpec)

/-- ITS FALSE NEIGHBOUR: 'it returns false'. Refute it at one input. -/
def hashWidthsWrong : ChangeSpec := { name := "hashWidths", fn := fun _ => fun
  | [d1, d2, d3, d4] => { results := [.lit (.bool false)], args := [d1, d2, d3, d4] }
  | _ => none }
def HashWidthsWrongFalsely : Prop := hashWidthsRow.holds Tryd.pinned (OpenSpec.ofChange hashWidthsWrong)

/-- 'massiflaw2.HashPieces': WHATEVER THE INPUT: true; the input reads as it did. -/
def hashPiecesSpec : ChangeSpec := { name := "hashPieces", fn := fun _ => fun
  | [d1, d2] => { results := [.lit (.bool true)], args := [d1, d2] }
  | _ => none }
def hashPiecesRow : OpenClaim := { program := "ytcifnfffoiiceaadoor", sum := "cc5d68a19e56bb775b6d6268edc2a2bb104ffc98824670422e25032f1cdc34e5", func := "massif/massiflaw2.HashPieces", spec := "hashPieces", named := ["massif/hash.first", "massif/hash.k"], apart := false, laid := [("massif/hash.k", laid_massif_hash_k), ("massif/hash.first", laid_massif_hash_first)] }
def HashPiecesSaid : Prop := hashPiecesRow.holds Tryd.pinned (OpenSpec.ofChange hashPiecesSpec)

/-- ITS FALSE NEIGHBOUR: 'it returns false'. Refute it at one input. -/
def hashPiecesWrong : ChangeSpec := { name := "hashPieces", fn := fun _ => fun
  | [d1, d2] => { results := [.lit (.bool false)], args := [d1, d2] }
  | _ => none }
def HashPiecesWrongFalsely : Prop := hashPiecesRow.holds Tryd.pinned (OpenSpec.ofChange hashPiecesWrong)

/-- 'massiflaw2.HashCuts': WHATEVER THE INPUT: true; the input reads as it did. -/
def hashCutsSpec : ChangeSpec := { name := "hashCuts", fn := fun _ => fun
  | [d1, d2, d3] => { results := [.lit (.bool true)], args := [d1, d2, d3] }
  | _ => none }
def hashCutsRow : OpenClaim := { program := "ytcifnfffoiiceaadoor", sum := "cc5d68a19e56bb775b6d6268edc2a2bb104ffc98824670422e25032f1cdc34e5", func := "massif/massiflaw2.HashCuts", spec := "hashCuts", named := ["massif/hash.first", "massif/hash.k"], apart := false, laid := [("massif/hash.k", laid_massif_hash_k), ("massif/hash.first", laid_massif_hash_first)] }
def HashCutsSaid : Prop := hashCutsRow.holds Tryd.pinned (OpenSpec.ofChange hashCutsSpec)

/-- ITS FALSE NEIGHBOUR: 'it returns false'. Refute it at one input. -/
def hashCutsWrong : ChangeSpec := { name := "hashCuts", fn := fun _ => fun
  | [d1, d2, d3] => { results := [.lit (.bool false)], args := [d1, d2, d3] }
  | _ => none }
def HashCutsWrongFalsely : Prop := hashCutsRow.holds Tryd.pinned (OpenSpec.ofChange hashCutsWrong)

/-- 'massiflaw2.HashMarks': WHATEVER THE INPUT: true; the input reads as it did. -/
def hashMarksSpec : ChangeSpec := { name := "hashMarks", fn := fun _ => fun
  | [d1, d2, d3, d4, d5, d6, d7, d8] => { results := [.lit (.bool true)], args := [d1, d2, d3, d4, d5, d6, d7, d8] }
  | _ => none }
def hashMarksRow : OpenClaim := { program := "ytcifnfffoiiceaadoor", sum := "cc5d68a19e56bb775b6d6268edc2a2bb104ffc98824670422e25032f1cdc34e5", func := "massif/massiflaw2.HashMarks", spec := "hashMarks", named := ["massif/hash.first", "massif/hash.k"], apart := false, laid := [("massif/hash.k", laid_massif_hash_k), ("massif/hash.first", laid_massif_hash_first)] }
def HashMarksSaid : Prop := hashMarksRow.holds Tryd.pinned (OpenSpec.ofChange hashMarksSpec)

/-- ITS FALSE NEIGHBOUR: 'it returns false'. Refute it at one input. -/
def hashMarksWrong : ChangeSpec := { name := "hashMarks", fn := fun _ => fun
  | [d1, d2, d3, d4, d5, d6, d7, d8] => { results := [.lit (.bool false)], args := [d1, d2, d3, d4, d5, d6, d7, d8] }
  | _ => none }
def HashMarksWrongFalsely : Prop := hashMarksRow.holds Tryd.pinned (OpenSpec.ofChange hashMarksWrong)

/-- 'massiflaw2.HashTexts': WHATEVER THE INPUT: true; the input reads as it did. -/
def hashTextsSpec : ChangeSpec := { name := "hashTexts", fn := fun _ => fun
  | [d1, d2, d3, d4, d5] => { results := [.lit (.bool true)], args := [d1, d2, d3, d4, d5] }
  | _ => none }
def hashTextsRow : OpenClaim := { program := "ytcifnfffoiiceaadoor", sum := "cc5d68a19e56bb775b6d6268edc2a2bb104ffc98824670422e25032f1cdc34e5", func := "massif/massiflaw2.HashTexts", spec := "hashTexts", named := ["massif/hash.first", "massif/hash.k"], apart := false, laid := [("massif/hash.k", laid_massif_hash_k), ("massif/hash.first", laid_massif_hash_first)] }
def HashTextsSaid : Prop := hashTextsRow.holds Tryd.pinned (OpenSpec.ofChange hashTextsSpec)

/-- ITS FALSE NEIGHBOUR: 'it returns false'. Refute it at one input. -/
def hashTextsWrong : ChangeSpec := { name := "hashTexts", fn := fun _ => fun
  | [d1, d2, d3, d4, d5] => { results := [.lit (.bool false)], args := [d1, d2, d3, d4, d5] }
  | _ => none }
def HashTextsWrongFalsely : Prop := hashTextsRow.holds Tryd.pinned (OpenSpec.ofChange hashTextsWrong)

/-- 'massiflaw2.HashDescends': WHATEVER THE INPUT: true; the input reads as it did. -/
def hashDescendsSpec : ChangeSpec := { name := "hashDescends", fn := fun _ => fun
  | [d1, d2, d3] => { results := [.lit (.bool true)], args := [d1, d2, d3] }
  | _ => none }
def hashDescendsRow : OpenClaim := { program := "ytcifnfffoiiceaadoor", sum := "cc5d68a19e56bb775b6d6268edc2a2bb104ffc98824670422e25032f1cdc34e5", func := "massif/massiflaw2.HashDescends", spec := "hashDescends", named := ["massif/hash.first", "massif/hash.k"], apart := false, laid := [("massif/hash.k", laid_massif_hash_k), ("massif/hash.first", laid_massif_hash_first)] }
def HashDescendsSaid : Prop := hashDescendsRow.holds Tryd.pinned (OpenSpec.ofChange hashDescendsSpec)

/-- ITS FALSE NEIGHBOUR: 'it returns false'. Refute it at one input. -/
def hashDescendsWrong : ChangeSpec := { name := "hashDescends", fn := fun _ => fun
  | [d1, d2, d3] => { results := [.lit (.bool false)], args := [d1, d2, d3] }
  | _ => none }
def HashDescendsWrongFalsely : Prop := hashDescendsRow.holds Tryd.pinned (OpenSpec.ofChange hashDescendsWrong)

/-- 'massiflaw2.HashBlocks': WHATEVER THE INPUT: true; the input reads as it did. -/
def hashBlocksSpec : ChangeSpec := { name := "hashBlocks", fn := fun _ => fun
  | [d1, d2, d3] => { results := [.lit (.bool true)], args := [d1, d2, d3] }
  | _ => none }
def hashBlocksRow : OpenClaim := { program := "ytcifnfffoiiceaadoor", sum := "cc5d68a19e56bb775b6d6268edc2a2bb104ffc98824670422e25032f1cdc34e5", func := "massif/massiflaw2.HashBlocks", spec := "hashBlocks", named := ["massif/hash.first", "massif/hash.k"], apart := false, laid := [("massif/hash.k", laid_massif_hash_k), ("massif/hash.first", laid_massif_hash_first)] }
def HashBlocksSaid : Prop := hashBlocksRow.holds Tryd.pinned (OpenSpec.ofChange hashBlocksSpec)

/-- ITS FALSE NEIGHBOUR: 'it returns false'. Refute it at one input. -/
def hashBlocksWrong : ChangeSpec := { name := "hashBlocks", fn := fun _ => fun
  | [d1, d2, d3] => { results := [.lit (.bool false)], args := [d1, d2, d3] }
  | _ => none }
def HashBlocksWrongFalsely : Prop := hashBlocksRow.holds Tryd.pinned (OpenSpec.ofChange hashBlocksWrong)

/- THE SECOND FORM. 'bulk': how many values and letters a reading holds, each counted each time it is reached (what is shared counts as often as it is met; a slice's spare places count too). A statement '..UptoSaid' is the law's where the arguments, and the package variables that the reading takes, are together of bulk at most 1048576: NARROWER than '..Said'. Prove '..Said' where nothing that the law and all that it calls make is longer than what came in: it says more and counts as full. Else prove '..UptoSaid'. A law counts once. -/
mutual
def uptoBulk {H : Type} : DataW H → Nat
  | .lit (.string bytes) => bytes.length + 1
  | .lit _ => 1
  | .nil => 1
  | .ptr d => uptoBulk d + 1
  | .slice elems spare => uptoBulkAll elems + uptoBulkAll spare + 1
  | .agg parts => uptoBulkAll parts + 1
  | .iface _ d => uptoBulk d + 1
  | .map entries => uptoBulkEntries entries + 1
  | .held _ => 1
def uptoBulkAll {H : Type} : List (DataW H) → Nat
  | [] => 0
  | d :: r => uptoBulk d + uptoBulkAll r
def uptoBulkEntries {H : Type} : List (Lit × DataW H) → Nat
  | [] => 0
  | x :: r => uptoBulkEntry x + uptoBulkEntries r
def uptoBulkEntry {H : Type} : Lit × DataW H → Nat
  | (.string bytes, d) => bytes.length + uptoBulk d + 1
  | (_, d) => uptoBulk d + 1
 end
def uptoSmall : (H : Type) → List (DataW H) → Bool := fun _ ds => decide (uptoBulkAll ds ≤ 1048576)
def OpenSpec.upto (s : _root_.Go.ChangeSpec) : _root_.Go.OpenSpec := { _root_.Go.OpenSpec.ofChange s with cond := some uptoSmall }

/-- 'massiflaw2.HashSteps', WHERE WHAT IT READS IS OF BULK AT MOST 1048576: true; the input reads as it did. -/
def hashStepsUptoRow : OpenClaim := { program := "ytcifnfffoiiceaadoor", sum := "cc5d68a19e56bb775b6d6268edc2a2bb104ffc98824670422e25032f1cdc34e5", func := "massif/massiflaw2.HashSteps", spec := "hashSteps", named := ["massif/hash.k", "massif/hash.first"], apart := false, laid := [("massif/hash.k", laid_massif_hash_k), ("massif/hash.first", laid_massif_hash_first)], narrowed := true }
def HashStepsUptoSaid : Prop := hashStepsUptoRow.holds Tryd.pinned (OpenSpec.upto hashStepsSpec)

/-- 'massiflaw2.HashSums', WHERE WHAT IT READS IS OF BULK AT MOST 1048576: true; the input reads as it did. -/
def hashSumsUptoRow : OpenClaim := { program := "ytcifnfffoiiceaadoor", sum := "cc5d68a19e56bb775b6d6268edc2a2bb104ffc98824670422e25032f1cdc34e5", func := "massif/massiflaw2.HashSums", spec := "hashSums", named := ["massif/hash.first", "massif/hash.k"], apart := false, laid := [("massif/hash.k", laid_massif_hash_k), ("massif/hash.first", laid_massif_hash_first)], narrowed := true }
def HashSumsUptoSaid : Prop := hashSumsUptoRow.holds Tryd.pinned (OpenSpec.upto hashSumsSpec)

/-- 'massiflaw2.HashWidths', WHERE WHAT IT READS IS OF BULK AT MOST 1048576: true; the input reads as it did. -/
def hashWidthsUptoRow : OpenClaim := { program := "ytcifnfffoiiceaadoor", sum := "cc5d68a19e56bb775b6d6268edc2a2bb104ffc98824670422e25032f1cdc34e5", func := "massif/massiflaw2.HashWidths", spec := "hashWidths", named := ["massif/hash.first", "massif/hash.k"], apart := false, laid := [("massif/hash.k", laid_massif_hash_k), ("massif/hash.first", laid_massif_hash_first)], narrowed := true }
def HashWidthsUptoSaid : Prop := hashWidthsUptoRow.holds Tryd.pinned (OpenSpec.upto hashWidthsSpec)

/-- 'massiflaw2.HashPieces', WHERE WHAT IT READS IS OF BULK AT MOST 1048576: true; the input reads as it did. -/
def hashPiecesUptoRow : OpenClaim := { program := "ytcifnfffoiiceaadoor", sum := "cc5d68a19e56bb775b6d6268edc2a2bb104ffc98824670422e25032f1cdc34e5", func := "massif/massiflaw2.HashPieces", spec := "hashPieces", named := ["massif/hash.first", "massif/hash.k"], apart := false, laid := [("massif/hash.k", laid_massif_hash_k), ("massif/hash.first", laid_massif_hash_first)], narrowed := true }
def HashPiecesUptoSaid : Prop := hashPiecesUptoRow.holds Tryd.pinned (OpenSpec.upto hashPiecesSpec)

/-- 'massiflaw2.HashCuts', WHERE WHAT IT READS IS OF BULK AT MOST 1048576: true; the input reads as it did. -/
def hashCutsUptoRow : OpenClaim := { program := "ytcifnfffoiiceaadoor", sum := "cc5d68a19e56bb775b6d6268edc2a2bb104ffc98824670422e25032f1cdc34e5", func := "massif/massiflaw2.HashCuts", spec := "hashCuts", named := ["massif/hash.first", "massif/hash.k"], apart := false, laid := [("massif/hash.k", laid_massif_hash_k), ("massif/hash.first", laid_massif_hash_first)], narrowed := true }
def HashCutsUptoSaid : Prop := hashCutsUptoRow.holds Tryd.pinned (OpenSpec.upto hashCutsSpec)

/-- 'massiflaw2.HashMarks', WHERE WHAT IT READS IS OF BULK AT MOST 1048576: true; the input reads as it did. -/
def hashMarksUptoRow : OpenClaim := { program := "ytcifnfffoiiceaadoor", sum := "cc5d68a19e56bb775b6d6268edc2a2bb104ffc98824670422e25032f1cdc34e5", func := "massif/massiflaw2.HashMarks", spec := "hashMarks", named := ["massif/hash.first", "massif/hash.k"], apart := false, laid := [("massif/hash.k", laid_massif_hash_k), ("massif/hash.first", laid_massif_hash_first)], narrowed := true }
def HashMarksUptoSaid : Prop := hashMarksUptoRow.holds Tryd.pinned (OpenSpec.upto hashMarksSpec)

/-- 'massiflaw2.HashTexts', WHERE WHAT IT READS IS OF BULK AT MOST 1048576: true; the input reads as it did. -/
def hashTextsUptoRow : OpenClaim := { program := "ytcifnfffoiiceaadoor", sum := "cc5d68a19e56bb775b6d6268edc2a2bb104ffc98824670422e25032f1cdc34e5", func := "massif/massiflaw2.HashTexts", spec := "hashTexts", named := ["massif/hash.first", "massif/hash.k"], apart := false, laid := [("massif/hash.k", laid_massif_hash_k), ("massif/hash.first", laid_massif_hash_first)], narrowed := true }
def HashTextsUptoSaid : Prop := hashTextsUptoRow.holds Tryd.pinned (OpenSpec.upto hashTextsSpec)

/-- 'massiflaw2.HashDescends', WHERE WHAT IT READS IS OF BULK AT MOST 1048576: true; the input reads as it did. -/
def hashDescendsUptoRow : OpenClaim := { program := "ytcifnfffoiiceaadoor", sum := "cc5d68a19e56bb775b6d6268edc2a2bb104ffc98824670422e25032f1cdc34e5", func := "massif/massiflaw2.HashDescends", spec := "hashDescends", named := ["massif/hash.first", "massif/hash.k"], apart := false, laid := [("massif/hash.k", laid_massif_hash_k), ("massif/hash.first", laid_massif_hash_first)], narrowed := true }
def HashDescendsUptoSaid : Prop := hashDescendsUptoRow.holds Tryd.pinned (OpenSpec.upto hashDescendsSpec)

/-- 'massiflaw2.HashBlocks', WHERE WHAT IT READS IS OF BULK AT MOST 1048576: true; the input reads as it did. -/
def hashBlocksUptoRow : OpenClaim := { program := "ytcifnfffoiiceaadoor", sum := "cc5d68a19e56bb775b6d6268edc2a2bb104ffc98824670422e25032f1cdc34e5", func := "massif/massiflaw2.HashBlocks", spec := "hashBlocks", named := ["massif/hash.first", "massif/hash.k"], apart := false, laid := [("massif/hash.k", laid_massif_hash_k), ("massif/hash.first", laid_massif_hash_first)], narrowed := true }
def HashBlocksUptoSaid : Prop := hashBlocksUptoRow.holds Tryd.pinned (OpenSpec.upto hashBlocksSpec)

end Rows
end Go.Proofs.YtcifnfffoiiceaaDoor
