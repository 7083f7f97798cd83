/-
  DERIVED. GIVEN WITH THE SEED: THE CARDS: each row of YtcifnfffoiiceaaDoorRows.lean that lists a variable, with what it lists TIED to the program's text (the seventh form; the later family's looks); each row that meets fmt, with fmt's text TOLD by the authors' own Lean function (tested against real Go, not proved from fmt's source: count such statements apart). THE CARD IS WHAT COUNTS. Prove the row's statement (the work); the ties are given (YtcifnfffoiiceaaDoorTie.lean); close each card by the builder's one call (the guide's Derived/Test/ToyasCard.lean, 'card_holds'). Laid BY PROGRAM, IN A SANDBOX (cutbox-door.mjs). By AI agents, Wed Nov 11 2026. No macro, syntax, notation, axiom, sorry.
-/
import Derived.Test.YtcifnfffoiiceaaDoorRows
import GoSem.ClaimSeven
namespace Go.Proofs.YtcifnfffoiiceaaDoor
namespace Rows

/-- THE TIED CARD OF 'massiflaw2.HashSteps'. -/
def hashStepsCard : Claim7 := { stood := { row := hashStepsRow, standIns := [], harness := (true, "217afbbc5944480fe2f529ad58fd97cdac41ba5fa6352cd7679607fdd11920b3"), looks := false }, kinds := [], alts := [], laidByText := true, laidKinds := [.data, .data], laidTests := true, laidLooks := .later }
def HashStepsCardSaid : Prop := Claim7.holds Tryd.pinned (.plain (OpenSpec.ofChange hashStepsSpec)) hashStepsCard

/-- THE TIED CARD OF 'massiflaw2.HashSums'. -/
def hashSumsCard : Claim7 := { stood := { row := hashSumsRow, standIns := [], harness := (true, "217afbbc5944480fe2f529ad58fd97cdac41ba5fa6352cd7679607fdd11920b3"), looks := false }, kinds := [], alts := [], laidByText := true, laidKinds := [.data, .data], laidTests := true, laidLooks := .later }
def HashSumsCardSaid : Prop := Claim7.holds Tryd.pinned (.plain (OpenSpec.ofChange hashSumsSpec)) hashSumsCard

/-- THE TIED CARD OF 'massiflaw2.HashWidths'. -/
def hashWidthsCard : Claim7 := { stood := { row := hashWidthsRow, standIns := [], harness := (true, "217afbbc5944480fe2f529ad58fd97cdac41ba5fa6352cd7679607fdd11920b3"), looks := false }, kinds := [], alts := [], laidByText := true, laidKinds := [.data, .data], laidTests := true, laidLooks := .later }
def HashWidthsCardSaid : Prop := Claim7.holds Tryd.pinned (.plain (OpenSpec.ofChange hashWidthsSpec)) hashWidthsCard

/-- THE TIED CARD OF 'massiflaw2.HashPieces'. -/
def hashPiecesCard : Claim7 := { stood := { row := hashPiecesRow, standIns := [], harness := (true, "217afbbc5944480fe2f529ad58fd97cdac41ba5fa6352cd7679607fdd11920b3"), looks := false }, kinds := [], alts := [], laidByText := true, laidKinds := [.data, .data], laidTests := true, laidLooks := .later }
def HashPiecesCardSaid : Prop := Claim7.holds Tryd.pinned (.plain (OpenSpec.ofChange hashPiecesSpec)) hashPiecesCard

/-- THE TIED CARD OF 'massiflaw2.HashCuts'. -/
def hashCutsCard : Claim7 := { stood := { row := hashCutsRow, standIns := [], harness := (true, "217afbbc5944480fe2f529ad58fd97cdac41ba5fa6352cd7679607fdd11920b3"), looks := false }, kinds := [], alts := [], laidByText := true, laidKinds := [.data, .data], laidTests := true, laidLooks := .later }
def HashCutsCardSaid : Prop := Claim7.holds Tryd.pinned (.plain (OpenSpec.ofChange hashCutsSpec)) hashCutsCard

/-- THE TIED CARD OF 'massiflaw2.HashMarks'. -/
def hashMarksCard : Claim7 := { stood := { row := hashMarksRow, standIns := [], harness := (true, "217afbbc5944480fe2f529ad58fd97cdac41ba5fa6352cd7679607fdd11920b3"), looks := false }, kinds := [], alts := [], laidByText := true, laidKinds := [.data, .data], laidTests := true, laidLooks := .later }
def HashMarksCardSaid : Prop := Claim7.holds Tryd.pinned (.plain (OpenSpec.ofChange hashMarksSpec)) hashMarksCard

/-- THE TIED CARD OF 'massiflaw2.HashTexts'. -/
def hashTextsCard : Claim7 := { stood := { row := hashTextsRow, standIns := [], harness := (true, "217afbbc5944480fe2f529ad58fd97cdac41ba5fa6352cd7679607fdd11920b3"), looks := false }, kinds := [], alts := [], laidByText := true, laidKinds := [.data, .data], laidTests := true, laidLooks := .later }
def HashTextsCardSaid : Prop := Claim7.holds Tryd.pinned (.plain (OpenSpec.ofChange hashTextsSpec)) hashTextsCard

/-- THE TIED CARD OF 'massiflaw2.HashDescends'. -/
def hashDescendsCard : Claim7 := { stood := { row := hashDescendsRow, standIns := [], harness := (true, "217afbbc5944480fe2f529ad58fd97cdac41ba5fa6352cd7679607fdd11920b3"), looks := false }, kinds := [], alts := [], laidByText := true, laidKinds := [.data, .data], laidTests := true, laidLooks := .later }
def HashDescendsCardSaid : Prop := Claim7.holds Tryd.pinned (.plain (OpenSpec.ofChange hashDescendsSpec)) hashDescendsCard

/-- THE TIED CARD OF 'massiflaw2.HashBlocks'. -/
def hashBlocksCard : Claim7 := { stood := { row := hashBlocksRow, standIns := [], harness := (true, "217afbbc5944480fe2f529ad58fd97cdac41ba5fa6352cd7679607fdd11920b3"), looks := false }, kinds := [], alts := [], laidByText := true, laidKinds := [.data, .data], laidTests := true, laidLooks := .later }
def HashBlocksCardSaid : Prop := Claim7.holds Tryd.pinned (.plain (OpenSpec.ofChange hashBlocksSpec)) hashBlocksCard

/-- THE SECOND FORM's CARD OF 'massiflaw2.HashSteps'. -/
def hashStepsUptoCard : Claim7 := { stood := { row := hashStepsUptoRow, standIns := [], harness := (true, "217afbbc5944480fe2f529ad58fd97cdac41ba5fa6352cd7679607fdd11920b3"), looks := false }, kinds := [], alts := [], laidByText := true, laidKinds := [.data, .data], laidTests := true, laidLooks := .later }
def HashStepsUptoCardSaid : Prop := Claim7.holds Tryd.pinned (.plain (OpenSpec.upto hashStepsSpec)) hashStepsUptoCard

/-- THE SECOND FORM's CARD OF 'massiflaw2.HashSums'. -/
def hashSumsUptoCard : Claim7 := { stood := { row := hashSumsUptoRow, standIns := [], harness := (true, "217afbbc5944480fe2f529ad58fd97cdac41ba5fa6352cd7679607fdd11920b3"), looks := false }, kinds := [], alts := [], laidByText := true, laidKinds := [.data, .data], laidTests := true, laidLooks := .later }
def HashSumsUptoCardSaid : Prop := Claim7.holds Tryd.pinned (.plain (OpenSpec.upto hashSumsSpec)) hashSumsUptoCard

/-- THE SECOND FORM's CARD OF 'massiflaw2.HashWidths'. -/
def hashWidthsUptoCard : Claim7 := { stood := { row := hashWidthsUptoRow, standIns := [], harness := (true, "217afbbc5944480fe2f529ad58fd97cdac41ba5fa6352cd7679607fdd11920b3"), looks := false }, kinds := [], alts := [], laidByText := true, laidKinds := [.data, .data], laidTests := true, laidLooks := .later }
def HashWidthsUptoCardSaid : Prop := Claim7.holds Tryd.pinned (.plain (OpenSpec.upto hashWidthsSpec)) hashWidthsUptoCard

/-- THE SECOND FORM's CARD OF 'massiflaw2.HashPieces'. -/
def hashPiecesUptoCard : Claim7 := { stood := { row := hashPiecesUptoRow, standIns := [], harness := (true, "217afbbc5944480fe2f529ad58fd97cdac41ba5fa6352cd7679607fdd11920b3"), looks := false }, kinds := [], alts := [], laidByText := true, laidKinds := [.data, .data], laidTests := true, laidLooks := .later }
def HashPiecesUptoCardSaid : Prop := Claim7.holds Tryd.pinned (.plain (OpenSpec.upto hashPiecesSpec)) hashPiecesUptoCard

/-- THE SECOND FORM's CARD OF 'massiflaw2.HashCuts'. -/
def hashCutsUptoCard : Claim7 := { stood := { row := hashCutsUptoRow, standIns := [], harness := (true, "217afbbc5944480fe2f529ad58fd97cdac41ba5fa6352cd7679607fdd11920b3"), looks := false }, kinds := [], alts := [], laidByText := true, laidKinds := [.data, .data], laidTests := true, laidLooks := .later }
def HashCutsUptoCardSaid : Prop := Claim7.holds Tryd.pinned (.plain (OpenSpec.upto hashCutsSpec)) hashCutsUptoCard

/-- THE SECOND FORM's CARD OF 'massiflaw2.HashMarks'. -/
def hashMarksUptoCard : Claim7 := { stood := { row := hashMarksUptoRow, standIns := [], harness := (true, "217afbbc5944480fe2f529ad58fd97cdac41ba5fa6352cd7679607fdd11920b3"), looks := false }, kinds := [], alts := [], laidByText := true, laidKinds := [.data, .data], laidTests := true, laidLooks := .later }
def HashMarksUptoCardSaid : Prop := Claim7.holds Tryd.pinned (.plain (OpenSpec.upto hashMarksSpec)) hashMarksUptoCard

/-- THE SECOND FORM's CARD OF 'massiflaw2.HashTexts'. -/
def hashTextsUptoCard : Claim7 := { stood := { row := hashTextsUptoRow, standIns := [], harness := (true, "217afbbc5944480fe2f529ad58fd97cdac41ba5fa6352cd7679607fdd11920b3"), looks := false }, kinds := [], alts := [], laidByText := true, laidKinds := [.data, .data], laidTests := true, laidLooks := .later }
def HashTextsUptoCardSaid : Prop := Claim7.holds Tryd.pinned (.plain (OpenSpec.upto hashTextsSpec)) hashTextsUptoCard

/-- THE SECOND FORM's CARD OF 'massiflaw2.HashDescends'. -/
def hashDescendsUptoCard : Claim7 := { stood := { row := hashDescendsUptoRow, standIns := [], harness := (true, "217afbbc5944480fe2f529ad58fd97cdac41ba5fa6352cd7679607fdd11920b3"), looks := false }, kinds := [], alts := [], laidByText := true, laidKinds := [.data, .data], laidTests := true, laidLooks := .later }
def HashDescendsUptoCardSaid : Prop := Claim7.holds Tryd.pinned (.plain (OpenSpec.upto hashDescendsSpec)) hashDescendsUptoCard

/-- THE SECOND FORM's CARD OF 'massiflaw2.HashBlocks'. -/
def hashBlocksUptoCard : Claim7 := { stood := { row := hashBlocksUptoRow, standIns := [], harness := (true, "217afbbc5944480fe2f529ad58fd97cdac41ba5fa6352cd7679607fdd11920b3"), looks := false }, kinds := [], alts := [], laidByText := true, laidKinds := [.data, .data], laidTests := true, laidLooks := .later }
def HashBlocksUptoCardSaid : Prop := Claim7.holds Tryd.pinned (.plain (OpenSpec.upto hashBlocksSpec)) hashBlocksUptoCard
end Rows
end Go.Proofs.YtcifnfffoiiceaaDoor
