/-
  DERIVED. GIVEN WITH THE SEED: THE CARDS: each row of YtbbgieopcmjoeaaDoorRows.lean that lists a variable, with what it lists TIED to the program's text (the seventh form; the later family's looks); each row that meets fmt, with fmt's text TOLD by the authors' own Lean function (tested against real Go, not proved from fmt's source: count such statements apart). THE CARD IS WHAT COUNTS. Prove the row's statement (the work); the ties are given (YtbbgieopcmjoeaaDoorTie.lean); close each card by the builder's one call (the guide's Derived/Test/ToyasCard.lean, 'card_holds'). Laid BY PROGRAM, IN A SANDBOX (cutbox-door.mjs). By AI agents, Wed Nov 11 2026. No macro, syntax, notation, axiom, sorry.
-/
import Derived.Test.YtbbgieopcmjoeaaDoorRows
import GoSem.ClaimSeven
namespace Go.Proofs.YtbbgieopcmjoeaaDoor
namespace Rows

/-- THE TIED CARD OF 'lyceumlaw33.WordsWrites'. -/
def wordsWritesCard : Claim7 := { stood := { row := wordsWritesRow, standIns := [], harness := (true, "b3489712c55e102c38ce2619def0ff7cc7cc46f1085b484fecc108d9d0b1e8d0"), looks := false }, kinds := [], alts := [], laidByText := true, laidKinds := [.data, .pinned, .pinned], laidTests := true, laidLooks := .later }
def WordsWritesCardSaid : Prop := Claim7.holds Tryd.pinned (.plain (OpenSpec.ofChange wordsWritesSpec)) wordsWritesCard

/-- THE TIED CARD OF 'lyceumlaw33.WordsTexts'. -/
def wordsTextsCard : Claim7 := { stood := { row := wordsTextsRow, standIns := [], harness := (true, "b3489712c55e102c38ce2619def0ff7cc7cc46f1085b484fecc108d9d0b1e8d0"), looks := false }, kinds := [], alts := [], laidByText := true, laidKinds := [.data, .pinned, .pinned], laidTests := true, laidLooks := .later }
def WordsTextsCardSaid : Prop := Claim7.holds Tryd.pinned (.plain (OpenSpec.ofChange wordsTextsSpec)) wordsTextsCard

/-- THE TIED CARD OF 'lyceumlaw33.WordsFound'. -/
def wordsFoundCard : Claim7 := { stood := { row := wordsFoundRow, standIns := [], harness := (true, "b3489712c55e102c38ce2619def0ff7cc7cc46f1085b484fecc108d9d0b1e8d0"), looks := false }, kinds := [], alts := [], laidByText := true, laidKinds := [.data, .pinned, .pinned], laidTests := true, laidLooks := .later }
def WordsFoundCardSaid : Prop := Claim7.holds Tryd.pinned (.plain (OpenSpec.ofChange wordsFoundSpec)) wordsFoundCard

/-- THE TIED CARD OF 'lyceumlaw33.WordsPlace'. -/
def wordsPlaceCard : Claim7 := { stood := { row := wordsPlaceRow, standIns := [], harness := (true, "b3489712c55e102c38ce2619def0ff7cc7cc46f1085b484fecc108d9d0b1e8d0"), looks := false }, kinds := [], alts := [], laidByText := true, laidKinds := [.data, .pinned, .pinned], laidTests := true, laidLooks := .later }
def WordsPlaceCardSaid : Prop := Claim7.holds Tryd.pinned (.plain (OpenSpec.ofChange wordsPlaceSpec)) wordsPlaceCard

/-- THE TIED CARD OF 'lyceumlaw33.WordsThird'. -/
def wordsThirdCard : Claim7 := { stood := { row := wordsThirdRow, standIns := [], harness := (true, "b3489712c55e102c38ce2619def0ff7cc7cc46f1085b484fecc108d9d0b1e8d0"), looks := false }, kinds := [], alts := [], laidByText := true, laidKinds := [.data, .pinned, .pinned], laidTests := true, laidLooks := .later }
def WordsThirdCardSaid : Prop := Claim7.holds Tryd.pinned (.plain (OpenSpec.ofChange wordsThirdSpec)) wordsThirdCard

/-- THE TIED CARD OF 'lyceumlaw33.WordsBack'. -/
def wordsBackCard : Claim7 := { stood := { row := wordsBackRow, standIns := [], harness := (true, "b3489712c55e102c38ce2619def0ff7cc7cc46f1085b484fecc108d9d0b1e8d0"), looks := false }, kinds := [], alts := [], laidByText := true, laidKinds := [.data, .pinned, .pinned], laidTests := true, laidLooks := .later }
def WordsBackCardSaid : Prop := Claim7.holds Tryd.pinned (.plain (OpenSpec.ofChange wordsBackSpec)) wordsBackCard

/-- THE TIED CARD OF 'lyceumlaw33.WordsBlanks'. -/
def wordsBlanksCard : Claim7 := { stood := { row := wordsBlanksRow, standIns := [], harness := (true, "b3489712c55e102c38ce2619def0ff7cc7cc46f1085b484fecc108d9d0b1e8d0"), looks := false }, kinds := [], alts := [], laidByText := true, laidKinds := [.data, .pinned, .pinned], laidTests := true, laidLooks := .later }
def WordsBlanksCardSaid : Prop := Claim7.holds Tryd.pinned (.plain (OpenSpec.ofChange wordsBlanksSpec)) wordsBlanksCard

/-- THE TIED CARD OF 'lyceumlaw33.WordsWrong'. -/
def wordsWrongCard : Claim7 := { stood := { row := wordsWrongRow, standIns := [], harness := (true, "b3489712c55e102c38ce2619def0ff7cc7cc46f1085b484fecc108d9d0b1e8d0"), looks := false }, kinds := [], alts := [], laidByText := true, laidKinds := [.data, .pinned, .pinned], laidTests := true, laidLooks := .later }
def WordsWrongCardSaid : Prop := Claim7.holds Tryd.pinned (.plain (OpenSpec.ofChange wordsWrongSpec)) wordsWrongCard

/-- THE SECOND FORM's CARD OF 'lyceumlaw33.WordsWrites'. -/
def wordsWritesUptoCard : Claim7 := { stood := { row := wordsWritesUptoRow, standIns := [], harness := (true, "b3489712c55e102c38ce2619def0ff7cc7cc46f1085b484fecc108d9d0b1e8d0"), looks := false }, kinds := [], alts := [], laidByText := true, laidKinds := [.data, .pinned, .pinned], laidTests := true, laidLooks := .later }
def WordsWritesUptoCardSaid : Prop := Claim7.holds Tryd.pinned (.plain (OpenSpec.upto wordsWritesSpec)) wordsWritesUptoCard

/-- THE SECOND FORM's CARD OF 'lyceumlaw33.WordsTexts'. -/
def wordsTextsUptoCard : Claim7 := { stood := { row := wordsTextsUptoRow, standIns := [], harness := (true, "b3489712c55e102c38ce2619def0ff7cc7cc46f1085b484fecc108d9d0b1e8d0"), looks := false }, kinds := [], alts := [], laidByText := true, laidKinds := [.data, .pinned, .pinned], laidTests := true, laidLooks := .later }
def WordsTextsUptoCardSaid : Prop := Claim7.holds Tryd.pinned (.plain (OpenSpec.upto wordsTextsSpec)) wordsTextsUptoCard

/-- THE SECOND FORM's CARD OF 'lyceumlaw33.WordsFound'. -/
def wordsFoundUptoCard : Claim7 := { stood := { row := wordsFoundUptoRow, standIns := [], harness := (true, "b3489712c55e102c38ce2619def0ff7cc7cc46f1085b484fecc108d9d0b1e8d0"), looks := false }, kinds := [], alts := [], laidByText := true, laidKinds := [.data, .pinned, .pinned], laidTests := true, laidLooks := .later }
def WordsFoundUptoCardSaid : Prop := Claim7.holds Tryd.pinned (.plain (OpenSpec.upto wordsFoundSpec)) wordsFoundUptoCard

/-- THE SECOND FORM's CARD OF 'lyceumlaw33.WordsPlace'. -/
def wordsPlaceUptoCard : Claim7 := { stood := { row := wordsPlaceUptoRow, standIns := [], harness := (true, "b3489712c55e102c38ce2619def0ff7cc7cc46f1085b484fecc108d9d0b1e8d0"), looks := false }, kinds := [], alts := [], laidByText := true, laidKinds := [.data, .pinned, .pinned], laidTests := true, laidLooks := .later }
def WordsPlaceUptoCardSaid : Prop := Claim7.holds Tryd.pinned (.plain (OpenSpec.upto wordsPlaceSpec)) wordsPlaceUptoCard

/-- THE SECOND FORM's CARD OF 'lyceumlaw33.WordsThird'. -/
def wordsThirdUptoCard : Claim7 := { stood := { row := wordsThirdUptoRow, standIns := [], harness := (true, "b3489712c55e102c38ce2619def0ff7cc7cc46f1085b484fecc108d9d0b1e8d0"), looks := false }, kinds := [], alts := [], laidByText := true, laidKinds := [.data, .pinned, .pinned], laidTests := true, laidLooks := .later }
def WordsThirdUptoCardSaid : Prop := Claim7.holds Tryd.pinned (.plain (OpenSpec.upto wordsThirdSpec)) wordsThirdUptoCard

/-- THE SECOND FORM's CARD OF 'lyceumlaw33.WordsBack'. -/
def wordsBackUptoCard : Claim7 := { stood := { row := wordsBackUptoRow, standIns := [], harness := (true, "b3489712c55e102c38ce2619def0ff7cc7cc46f1085b484fecc108d9d0b1e8d0"), looks := false }, kinds := [], alts := [], laidByText := true, laidKinds := [.data, .pinned, .pinned], laidTests := true, laidLooks := .later }
def WordsBackUptoCardSaid : Prop := Claim7.holds Tryd.pinned (.plain (OpenSpec.upto wordsBackSpec)) wordsBackUptoCard

/-- THE SECOND FORM's CARD OF 'lyceumlaw33.WordsBlanks'. -/
def wordsBlanksUptoCard : Claim7 := { stood := { row := wordsBlanksUptoRow, standIns := [], harness := (true, "b3489712c55e102c38ce2619def0ff7cc7cc46f1085b484fecc108d9d0b1e8d0"), looks := false }, kinds := [], alts := [], laidByText := true, laidKinds := [.data, .pinned, .pinned], laidTests := true, laidLooks := .later }
def WordsBlanksUptoCardSaid : Prop := Claim7.holds Tryd.pinned (.plain (OpenSpec.upto wordsBlanksSpec)) wordsBlanksUptoCard

/-- THE SECOND FORM's CARD OF 'lyceumlaw33.WordsWrong'. -/
def wordsWrongUptoCard : Claim7 := { stood := { row := wordsWrongUptoRow, standIns := [], harness := (true, "b3489712c55e102c38ce2619def0ff7cc7cc46f1085b484fecc108d9d0b1e8d0"), looks := false }, kinds := [], alts := [], laidByText := true, laidKinds := [.data, .pinned, .pinned], laidTests := true, laidLooks := .later }
def WordsWrongUptoCardSaid : Prop := Claim7.holds Tryd.pinned (.plain (OpenSpec.upto wordsWrongSpec)) wordsWrongUptoCard
end Rows
end Go.Proofs.YtbbgieopcmjoeaaDoor
