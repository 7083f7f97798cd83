/-
  DERIVED. GIVEN WITH THE SEED: THE CARDS: each row of YtlmihaeknmeeiaaDoorRows.lean that lists a variable, with what it lists TIED to the program's text (the seventh form; the later family's looks); each row that meets fmt, with fmt's text TOLD by the authors' own Lean function (tested against real Go, not proved from fmt's source: count such statements apart). THE CARD IS WHAT COUNTS. Prove the row's statement (the work); the ties are given (YtlmihaeknmeeiaaDoorTie.lean); close each card by the builder's one call (the guide's Derived/Test/ToyasCard.lean, 'card_holds'). Laid BY PROGRAM, IN A SANDBOX (cutbox-door.mjs). By AI agents, Wed Nov 11 2026. No macro, syntax, notation, axiom, sorry.
-/
import Derived.Test.YtlmihaeknmeeiaaDoorRows
import GoSem.ClaimSeven
namespace Go.Proofs.YtlmihaeknmeeiaaDoor
namespace Rows

/-- THE TIED CARD OF 'massiflaw1.NumBits'. -/
def numBitsCard : Claim7 := { stood := { row := numBitsRow, standIns := [], harness := (true, "12e7c62e54af8e564a76fb6890948b60d9708e04e568067806e0c2cf87be44d8"), looks := false }, kinds := [], alts := [], laidByText := true, laidKinds := [.data], laidTests := true, laidLooks := .later }
def NumBitsCardSaid : Prop := Claim7.holds Tryd.pinned (.plain (OpenSpec.ofChange numBitsSpec)) numBitsCard

/-- THE TIED CARD OF 'massiflaw1.NumCounts'. -/
def numCountsCard : Claim7 := { stood := { row := numCountsRow, standIns := [], harness := (true, "12e7c62e54af8e564a76fb6890948b60d9708e04e568067806e0c2cf87be44d8"), looks := false }, kinds := [], alts := [], laidByText := true, laidKinds := [.data], laidTests := true, laidLooks := .later }
def NumCountsCardSaid : Prop := Claim7.holds Tryd.pinned (.plain (OpenSpec.ofChange numCountsSpec)) numCountsCard

/-- THE SECOND FORM's CARD OF 'massiflaw1.NumBits'. -/
def numBitsUptoCard : Claim7 := { stood := { row := numBitsUptoRow, standIns := [], harness := (true, "12e7c62e54af8e564a76fb6890948b60d9708e04e568067806e0c2cf87be44d8"), looks := false }, kinds := [], alts := [], laidByText := true, laidKinds := [.data], laidTests := true, laidLooks := .later }
def NumBitsUptoCardSaid : Prop := Claim7.holds Tryd.pinned (.plain (OpenSpec.upto numBitsSpec)) numBitsUptoCard

/-- THE SECOND FORM's CARD OF 'massiflaw1.NumCounts'. -/
def numCountsUptoCard : Claim7 := { stood := { row := numCountsUptoRow, standIns := [], harness := (true, "12e7c62e54af8e564a76fb6890948b60d9708e04e568067806e0c2cf87be44d8"), looks := false }, kinds := [], alts := [], laidByText := true, laidKinds := [.data], laidTests := true, laidLooks := .later }
def NumCountsUptoCardSaid : Prop := Claim7.holds Tryd.pinned (.plain (OpenSpec.upto numCountsSpec)) numCountsUptoCard
end Rows
end Go.Proofs.YtlmihaeknmeeiaaDoor
