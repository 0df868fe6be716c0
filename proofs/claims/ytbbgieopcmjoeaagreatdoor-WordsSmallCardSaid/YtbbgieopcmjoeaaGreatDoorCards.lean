/-
  DERIVED. GIVEN WITH THE SEED: THE CARDS: each row of YtbbgieopcmjoeaaGreatDoorRows.lean that lists a variable, with what it lists TIED to the program's text (the seventh form; the later family's looks); each row that meets fmt, with fmt's text TOLD by the authors' own Lean function (tested against real Go, not proved from fmt's source: count such statements apart). THE CARD IS WHAT COUNTS. Prove the row's statement (the work); the ties are given (YtbbgieopcmjoeaaGreatDoorTie.lean); close each card by the builder's one call (the guide's Derived/Test/ToyasCard.lean, 'card_holds'). Laid BY PROGRAM, IN A SANDBOX (cutbox-door.mjs). By AI agents, Wed Nov 11 2026. No macro, syntax, notation, axiom, sorry.
-/
import Derived.Test.YtbbgieopcmjoeaaGreatDoorRows
import GoSem.ClaimSeven
namespace Go.Proofs.YtbbgieopcmjoeaaGreatDoor
namespace Rows

/-- THE TIED CARD OF 'lyceumlaw33.WordsTells'. -/
def wordsTellsCard : Claim7 := { stood := { row := wordsTellsRow, standIns := [], harness := (true, "8cedd1b6eebb81a2c5baa4465be1908e0328281d3548b2d0538c3fe4e9a16b75"), looks := false }, kinds := [], alts := [], laidByText := true, laidKinds := [.data, .pinned, .pinned], laidTests := true, laidLooks := .later }
def WordsTellsCardSaid : Prop := Claim7.holds Tryz.pinned (.plain (OpenSpec.ofChange wordsTellsSpec)) wordsTellsCard

/-- THE TIED CARD OF 'lyceumlaw33.WordsSmall'. -/
def wordsSmallCard : Claim7 := { stood := { row := wordsSmallRow, standIns := [], harness := (true, "8cedd1b6eebb81a2c5baa4465be1908e0328281d3548b2d0538c3fe4e9a16b75"), looks := false }, kinds := [], alts := [], laidByText := true, laidKinds := [.data, .pinned, .pinned], laidTests := true, laidLooks := .later }
def WordsSmallCardSaid : Prop := Claim7.holds Tryz.pinned (.plain (OpenSpec.ofChange wordsSmallSpec)) wordsSmallCard

/-- THE TIED CARD OF 'lyceumlaw33.WordsAdds'. -/
def wordsAddsCard : Claim7 := { stood := { row := wordsAddsRow, standIns := [], harness := (true, "8cedd1b6eebb81a2c5baa4465be1908e0328281d3548b2d0538c3fe4e9a16b75"), looks := false }, kinds := [], alts := [], laidByText := true, laidKinds := [.data, .pinned, .pinned], laidTests := true, laidLooks := .later }
def WordsAddsCardSaid : Prop := Claim7.holds Tryz.pinned (.plain (OpenSpec.ofChange wordsAddsSpec)) wordsAddsCard

/-- THE SECOND FORM's CARD OF 'lyceumlaw33.WordsTells'. -/
def wordsTellsUptoCard : Claim7 := { stood := { row := wordsTellsUptoRow, standIns := [], harness := (true, "8cedd1b6eebb81a2c5baa4465be1908e0328281d3548b2d0538c3fe4e9a16b75"), looks := false }, kinds := [], alts := [], laidByText := true, laidKinds := [.data, .pinned, .pinned], laidTests := true, laidLooks := .later }
def WordsTellsUptoCardSaid : Prop := Claim7.holds Tryz.pinned (.plain (OpenSpec.upto wordsTellsSpec)) wordsTellsUptoCard

/-- THE SECOND FORM's CARD OF 'lyceumlaw33.WordsSmall'. -/
def wordsSmallUptoCard : Claim7 := { stood := { row := wordsSmallUptoRow, standIns := [], harness := (true, "8cedd1b6eebb81a2c5baa4465be1908e0328281d3548b2d0538c3fe4e9a16b75"), looks := false }, kinds := [], alts := [], laidByText := true, laidKinds := [.data, .pinned, .pinned], laidTests := true, laidLooks := .later }
def WordsSmallUptoCardSaid : Prop := Claim7.holds Tryz.pinned (.plain (OpenSpec.upto wordsSmallSpec)) wordsSmallUptoCard

/-- THE SECOND FORM's CARD OF 'lyceumlaw33.WordsAdds'. -/
def wordsAddsUptoCard : Claim7 := { stood := { row := wordsAddsUptoRow, standIns := [], harness := (true, "8cedd1b6eebb81a2c5baa4465be1908e0328281d3548b2d0538c3fe4e9a16b75"), looks := false }, kinds := [], alts := [], laidByText := true, laidKinds := [.data, .pinned, .pinned], laidTests := true, laidLooks := .later }
def WordsAddsUptoCardSaid : Prop := Claim7.holds Tryz.pinned (.plain (OpenSpec.upto wordsAddsSpec)) wordsAddsUptoCard
end Rows
end Go.Proofs.YtbbgieopcmjoeaaGreatDoor
