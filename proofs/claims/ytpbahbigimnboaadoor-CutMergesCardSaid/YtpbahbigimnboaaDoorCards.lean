/-
  DERIVED. GIVEN WITH THE SEED: THE CARDS: each row of YtpbahbigimnboaaDoorRows.lean that lists a variable, with what it lists TIED to the program's text (the seventh form; the later family's looks); each row that meets fmt, with fmt's text TOLD by the authors' own Lean function (tested against real Go, not proved from fmt's source: count such statements apart). THE CARD IS WHAT COUNTS. Prove the row's statement (the work); the ties are given (YtpbahbigimnboaaDoorTie.lean); close each card by the builder's one call (the guide's Derived/Test/ToyasCard.lean, 'card_holds'). Laid BY PROGRAM, IN A SANDBOX (cutbox-door.mjs). By AI agents, Wed Nov 11 2026. No macro, syntax, notation, axiom, sorry.
-/
import Derived.Test.YtpbahbigimnboaaDoorRows
import GoSem.ClaimSeven
namespace Go.Proofs.YtpbahbigimnboaaDoor
namespace Rows

/-- THE TIED CARD OF 'massiflaw4.CutSpans'. -/
def cutSpansCard : Claim7 := { stood := { row := cutSpansRow, standIns := [], harness := (true, "1e945d71f6132ddabdc4f2d66f144c341097acd4b23cde546fd150256bd65075"), looks := false }, kinds := [], alts := [], laidByText := true, laidKinds := [.data], laidTests := true, laidLooks := .later }
def CutSpansCardSaid : Prop := Claim7.holds Tryd.pinned (.plain (OpenSpec.ofChange cutSpansSpec)) cutSpansCard

/-- THE TIED CARD OF 'massiflaw4.CutMade'. -/
def cutMadeCard : Claim7 := { stood := { row := cutMadeRow, standIns := [], harness := (true, "1e945d71f6132ddabdc4f2d66f144c341097acd4b23cde546fd150256bd65075"), looks := false }, kinds := [], alts := [], laidByText := true, laidKinds := [.data], laidTests := true, laidLooks := .later }
def CutMadeCardSaid : Prop := Claim7.holds Tryd.pinned (.plain (OpenSpec.ofChange cutMadeSpec)) cutMadeCard

/-- THE TIED CARD OF 'massiflaw4.CutMerges'. -/
def cutMergesCard : Claim7 := { stood := { row := cutMergesRow, standIns := [], harness := (true, "1e945d71f6132ddabdc4f2d66f144c341097acd4b23cde546fd150256bd65075"), looks := false }, kinds := [], alts := [], laidByText := true, laidKinds := [.data], laidTests := true, laidLooks := .later }
def CutMergesCardSaid : Prop := Claim7.holds Tryd.pinned (.plain (OpenSpec.ofChange cutMergesSpec)) cutMergesCard

/-- THE TIED CARD OF 'massiflaw4.CutCovers'. -/
def cutCoversCard : Claim7 := { stood := { row := cutCoversRow, standIns := [], harness := (true, "1e945d71f6132ddabdc4f2d66f144c341097acd4b23cde546fd150256bd65075"), looks := false }, kinds := [], alts := [], laidByText := true, laidKinds := [.data], laidTests := true, laidLooks := .later }
def CutCoversCardSaid : Prop := Claim7.holds Tryd.pinned (.plain (OpenSpec.ofChange cutCoversSpec)) cutCoversCard

/-- THE TIED CARD OF 'massiflaw4.CutBreaks'. -/
def cutBreaksCard : Claim7 := { stood := { row := cutBreaksRow, standIns := [], harness := (true, "1e945d71f6132ddabdc4f2d66f144c341097acd4b23cde546fd150256bd65075"), looks := false }, kinds := [], alts := [], laidByText := true, laidKinds := [.data], laidTests := true, laidLooks := .later }
def CutBreaksCardSaid : Prop := Claim7.holds Tryd.pinned (.plain (OpenSpec.ofChange cutBreaksSpec)) cutBreaksCard

/-- THE TIED CARD OF 'massiflaw4.CutTops'. -/
def cutTopsCard : Claim7 := { stood := { row := cutTopsRow, standIns := [], harness := (true, "1e945d71f6132ddabdc4f2d66f144c341097acd4b23cde546fd150256bd65075"), looks := false }, kinds := [], alts := [], laidByText := true, laidKinds := [.data], laidTests := true, laidLooks := .later }
def CutTopsCardSaid : Prop := Claim7.holds Tryd.pinned (.plain (OpenSpec.ofChange cutTopsSpec)) cutTopsCard

/-- THE SECOND FORM's CARD OF 'massiflaw4.CutSpans'. -/
def cutSpansUptoCard : Claim7 := { stood := { row := cutSpansUptoRow, standIns := [], harness := (true, "1e945d71f6132ddabdc4f2d66f144c341097acd4b23cde546fd150256bd65075"), looks := false }, kinds := [], alts := [], laidByText := true, laidKinds := [.data], laidTests := true, laidLooks := .later }
def CutSpansUptoCardSaid : Prop := Claim7.holds Tryd.pinned (.plain (OpenSpec.upto cutSpansSpec)) cutSpansUptoCard

/-- THE SECOND FORM's CARD OF 'massiflaw4.CutMade'. -/
def cutMadeUptoCard : Claim7 := { stood := { row := cutMadeUptoRow, standIns := [], harness := (true, "1e945d71f6132ddabdc4f2d66f144c341097acd4b23cde546fd150256bd65075"), looks := false }, kinds := [], alts := [], laidByText := true, laidKinds := [.data], laidTests := true, laidLooks := .later }
def CutMadeUptoCardSaid : Prop := Claim7.holds Tryd.pinned (.plain (OpenSpec.upto cutMadeSpec)) cutMadeUptoCard

/-- THE SECOND FORM's CARD OF 'massiflaw4.CutMerges'. -/
def cutMergesUptoCard : Claim7 := { stood := { row := cutMergesUptoRow, standIns := [], harness := (true, "1e945d71f6132ddabdc4f2d66f144c341097acd4b23cde546fd150256bd65075"), looks := false }, kinds := [], alts := [], laidByText := true, laidKinds := [.data], laidTests := true, laidLooks := .later }
def CutMergesUptoCardSaid : Prop := Claim7.holds Tryd.pinned (.plain (OpenSpec.upto cutMergesSpec)) cutMergesUptoCard

/-- THE SECOND FORM's CARD OF 'massiflaw4.CutCovers'. -/
def cutCoversUptoCard : Claim7 := { stood := { row := cutCoversUptoRow, standIns := [], harness := (true, "1e945d71f6132ddabdc4f2d66f144c341097acd4b23cde546fd150256bd65075"), looks := false }, kinds := [], alts := [], laidByText := true, laidKinds := [.data], laidTests := true, laidLooks := .later }
def CutCoversUptoCardSaid : Prop := Claim7.holds Tryd.pinned (.plain (OpenSpec.upto cutCoversSpec)) cutCoversUptoCard

/-- THE SECOND FORM's CARD OF 'massiflaw4.CutBreaks'. -/
def cutBreaksUptoCard : Claim7 := { stood := { row := cutBreaksUptoRow, standIns := [], harness := (true, "1e945d71f6132ddabdc4f2d66f144c341097acd4b23cde546fd150256bd65075"), looks := false }, kinds := [], alts := [], laidByText := true, laidKinds := [.data], laidTests := true, laidLooks := .later }
def CutBreaksUptoCardSaid : Prop := Claim7.holds Tryd.pinned (.plain (OpenSpec.upto cutBreaksSpec)) cutBreaksUptoCard

/-- THE SECOND FORM's CARD OF 'massiflaw4.CutTops'. -/
def cutTopsUptoCard : Claim7 := { stood := { row := cutTopsUptoRow, standIns := [], harness := (true, "1e945d71f6132ddabdc4f2d66f144c341097acd4b23cde546fd150256bd65075"), looks := false }, kinds := [], alts := [], laidByText := true, laidKinds := [.data], laidTests := true, laidLooks := .later }
def CutTopsUptoCardSaid : Prop := Claim7.holds Tryd.pinned (.plain (OpenSpec.upto cutTopsSpec)) cutTopsUptoCard
end Rows
end Go.Proofs.YtpbahbigimnboaaDoor
