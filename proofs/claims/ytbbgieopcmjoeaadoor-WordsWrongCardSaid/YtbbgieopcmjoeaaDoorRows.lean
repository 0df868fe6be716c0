/-
  NARROWER THAN 'FOR EVERY INPUT', by the rows' own cells (each row's printed sentence says how): WordsWrites: laid · WordsTexts: laid · WordsFound: laid · WordsPlace: laid · WordsThird: laid · WordsBack: laid · WordsBlanks: laid · WordsWrong: laid.
  DERIVED. THE GIVEN ROWS OF THIS SEAT. 8 by the template 'for every input the law returns true; each argument reads behind the call as it read before'; 0 by the template 'total and deterministic' (their statements: YtbbgieopcmjoeaaDoorTotals.lean).
  GIVEN WITH THE SEED: the statements are not yours to turn. If you find one false, say at which input.
  Laid BY PROGRAM, IN A SANDBOX (cutbox-rows.mjs): the forced cells as the released guide's own fill.sh prints them over the translation 6d69442a848491e5… (all of the seat's roots in one cut). By AI agents, Wed Nov 11 2026. No macro, syntax, notation, axiom, sorry.
-/
import Derived.Test.YtbbgieopcmjoeaaDoorChecked
import GoSem.PinnedTables
import GoSem.Claim
import GoSem.ClaimJoined
import GoSem.ClaimMapViews
import Derived.JoinedTies
import Derived.KernelRfl
namespace Go.Proofs.YtbbgieopcmjoeaaDoor
/- THE CELL 'sum', in the pinned program and in every row, IS THE sha256 OF THE DUMP (.gsa) THAT YtbbgieopcmjoeaaDoorProg.lean LOADS. Nothing in Lean hashes anything: it is a label: what it is worth is what the hold of that sum in a sandbox is worth. -/
noncomputable def Tryd.pinned : Pinned := { name := "ytbbgieopcmjoeaadoor", sum := "6d69442a848491e52c6e7fa73885130ff0403b872546b3633b08b8d4c9cfc08b", checked := Tryd.checked }
namespace Rows
def none {H : Type} : Left H := { results := [], args := [] }

/- WHAT THE LISTED PACKAGE-LEVEL VARIABLES READ AS WHEN THE CALL BEGINS. Each datum BY PROGRAM (the guide's laid-datum.mjs) off the statement by which the dump's own 'gosem.cut.vars' lays the variable. In a bare row this is a premise. The card (YtbbgieopcmjoeaaDoorCards.lean) ties it to the program's text. -/
def laid_unicode_utf8_acceptRanges {H : Type} : DataW H := .agg [.agg [.lit (.int .u8 128), .lit (.int .u8 191)], .agg [.lit (.int .u8 160), .lit (.int .u8 191)], .agg [.lit (.int .u8 128), .lit (.int .u8 159)], .agg [.lit (.int .u8 144), .lit (.int .u8 191)], .agg [.lit (.int .u8 128), .lit (.int .u8 143)], .agg [.lit (.int .u8 0), .lit (.int .u8 0)], .agg [.lit (.int .u8 0), .lit (.int .u8 0)], .agg [.lit (.int .u8 0), .lit (.int .u8 0)], .agg [.lit (.int .u8 0), .lit (.int .u8 0)], .agg [.lit (.int .u8 0), .lit (.int .u8 0)], .agg [.lit (.int .u8 0), .lit (.int .u8 0)], .agg [.lit (.int .u8 0), .lit (.int .u8 0)], .agg [.lit (.int .u8 0), .lit (.int .u8 0)], .agg [.lit (.int .u8 0), .lit (.int .u8 0)], .agg [.lit (.int .u8 0), .lit (.int .u8 0)], .agg [.lit (.int .u8 0), .lit (.int .u8 0)]]
/-- One of Go's own tables, pinned by name: the form's constant. -/
def laid_unicode_CaseRanges : DataW Unit := Go.Pinned.caseRanges
/-- One of Go's own tables, pinned by name: the form's constant. -/
def laid_unicode_utf8_first : DataW Unit := Go.Pinned.utf8First

/-- 'lyceumlaw33.WordsWrites': WHATEVER THE INPUT: true; the input reads as it did. -/
def wordsWritesSpec : ChangeSpec := { name := "wordsWrites", fn := fun _ => fun
  | [d] => { results := [.lit (.bool true)], args := [d] }
  | _ => none }
def wordsWritesRow : OpenClaim := { program := "ytbbgieopcmjoeaadoor", sum := "6d69442a848491e52c6e7fa73885130ff0403b872546b3633b08b8d4c9cfc08b", func := "lyceum/lyceumlaw33.WordsWrites", spec := "wordsWrites", inPlace := ["internal/bytealg.IndexByteString", "internal/abi.NoEscape", "internal/bytealg.MakeNoZero", "internal/bytealg.abigen_runtime_cmpstring"], unfollowed := true, recurses := true, named := ["unicode/utf8.first", "unicode/utf8.acceptRanges", "unicode.CaseRanges"], apart := false, laid := [("unicode/utf8.acceptRanges", laid_unicode_utf8_acceptRanges), ("unicode.CaseRanges", laid_unicode_CaseRanges), ("unicode/utf8.first", laid_unicode_utf8_first)] }
def WordsWritesSaid : Prop := wordsWritesRow.holds Tryd.pinned (OpenSpec.ofChange wordsWritesSpec)

/-- ITS FALSE NEIGHBOUR: 'it returns false'. Refute it at one input. -/
def wordsWritesWrong : ChangeSpec := { name := "wordsWrites", fn := fun _ => fun
  | [d] => { results := [.lit (.bool false)], args := [d] }
  | _ => none }
def WordsWritesWrongFalsely : Prop := wordsWritesRow.holds Tryd.pinned (OpenSpec.ofChange wordsWritesWrong)

/-- 'lyceumlaw33.WordsTexts': WHATEVER THE INPUT: true; the input reads as it did. -/
def wordsTextsSpec : ChangeSpec := { name := "wordsTexts", fn := fun _ => fun
  | [d] => { results := [.lit (.bool true)], args := [d] }
  | _ => none }
def wordsTextsRow : OpenClaim := { program := "ytbbgieopcmjoeaadoor", sum := "6d69442a848491e52c6e7fa73885130ff0403b872546b3633b08b8d4c9cfc08b", func := "lyceum/lyceumlaw33.WordsTexts", spec := "wordsTexts", inPlace := ["internal/bytealg.IndexByteString", "internal/abi.NoEscape", "internal/bytealg.MakeNoZero", "internal/bytealg.abigen_runtime_cmpstring"], unfollowed := true, recurses := true, named := ["unicode/utf8.first", "unicode/utf8.acceptRanges", "unicode.CaseRanges"], apart := false, laid := [("unicode/utf8.acceptRanges", laid_unicode_utf8_acceptRanges), ("unicode.CaseRanges", laid_unicode_CaseRanges), ("unicode/utf8.first", laid_unicode_utf8_first)] }
def WordsTextsSaid : Prop := wordsTextsRow.holds Tryd.pinned (OpenSpec.ofChange wordsTextsSpec)

/-- ITS FALSE NEIGHBOUR: 'it returns false'. Refute it at one input. -/
def wordsTextsWrong : ChangeSpec := { name := "wordsTexts", fn := fun _ => fun
  | [d] => { results := [.lit (.bool false)], args := [d] }
  | _ => none }
def WordsTextsWrongFalsely : Prop := wordsTextsRow.holds Tryd.pinned (OpenSpec.ofChange wordsTextsWrong)

/-- 'lyceumlaw33.WordsFound': WHATEVER THE INPUT: true; the input reads as it did. -/
def wordsFoundSpec : ChangeSpec := { name := "wordsFound", fn := fun _ => fun
  | [d1, d2] => { results := [.lit (.bool true)], args := [d1, d2] }
  | _ => none }
def wordsFoundRow : OpenClaim := { program := "ytbbgieopcmjoeaadoor", sum := "6d69442a848491e52c6e7fa73885130ff0403b872546b3633b08b8d4c9cfc08b", func := "lyceum/lyceumlaw33.WordsFound", spec := "wordsFound", inPlace := ["internal/bytealg.IndexByteString", "internal/abi.NoEscape", "internal/bytealg.MakeNoZero", "internal/bytealg.abigen_runtime_cmpstring"], unfollowed := true, recurses := true, named := ["unicode/utf8.first", "unicode/utf8.acceptRanges", "unicode.CaseRanges"], apart := false, laid := [("unicode/utf8.acceptRanges", laid_unicode_utf8_acceptRanges), ("unicode.CaseRanges", laid_unicode_CaseRanges), ("unicode/utf8.first", laid_unicode_utf8_first)] }
def WordsFoundSaid : Prop := wordsFoundRow.holds Tryd.pinned (OpenSpec.ofChange wordsFoundSpec)

/-- ITS FALSE NEIGHBOUR: 'it returns false'. Refute it at one input. -/
def wordsFoundWrong : ChangeSpec := { name := "wordsFound", fn := fun _ => fun
  | [d1, d2] => { results := [.lit (.bool false)], args := [d1, d2] }
  | _ => none }
def WordsFoundWrongFalsely : Prop := wordsFoundRow.holds Tryd.pinned (OpenSpec.ofChange wordsFoundWrong)

/-- 'lyceumlaw33.WordsPlace': WHATEVER THE INPUT: true; the input reads as it did. -/
def wordsPlaceSpec : ChangeSpec := { name := "wordsPlace", fn := fun _ => fun
  | [d1, d2] => { results := [.lit (.bool true)], args := [d1, d2] }
  | _ => none }
def wordsPlaceRow : OpenClaim := { program := "ytbbgieopcmjoeaadoor", sum := "6d69442a848491e52c6e7fa73885130ff0403b872546b3633b08b8d4c9cfc08b", func := "lyceum/lyceumlaw33.WordsPlace", spec := "wordsPlace", inPlace := ["internal/bytealg.IndexByteString", "internal/abi.NoEscape", "internal/bytealg.MakeNoZero", "internal/bytealg.abigen_runtime_cmpstring"], unfollowed := true, recurses := true, named := ["unicode/utf8.first", "unicode/utf8.acceptRanges", "unicode.CaseRanges"], apart := false, laid := [("unicode/utf8.acceptRanges", laid_unicode_utf8_acceptRanges), ("unicode.CaseRanges", laid_unicode_CaseRanges), ("unicode/utf8.first", laid_unicode_utf8_first)] }
def WordsPlaceSaid : Prop := wordsPlaceRow.holds Tryd.pinned (OpenSpec.ofChange wordsPlaceSpec)

/-- ITS FALSE NEIGHBOUR: 'it returns false'. Refute it at one input. -/
def wordsPlaceWrong : ChangeSpec := { name := "wordsPlace", fn := fun _ => fun
  | [d1, d2] => { results := [.lit (.bool false)], args := [d1, d2] }
  | _ => none }
def WordsPlaceWrongFalsely : Prop := wordsPlaceRow.holds Tryd.pinned (OpenSpec.ofChange wordsPlaceWrong)

/-- 'lyceumlaw33.WordsThird': WHATEVER THE INPUT: true; the input reads as it did. -/
def wordsThirdSpec : ChangeSpec := { name := "wordsThird", fn := fun _ => fun
  | [d1, d2] => { results := [.lit (.bool true)], args := [d1, d2] }
  | _ => none }
def wordsThirdRow : OpenClaim := { program := "ytbbgieopcmjoeaadoor", sum := "6d69442a848491e52c6e7fa73885130ff0403b872546b3633b08b8d4c9cfc08b", func := "lyceum/lyceumlaw33.WordsThird", spec := "wordsThird", inPlace := ["internal/bytealg.IndexByteString", "internal/abi.NoEscape", "internal/bytealg.MakeNoZero", "internal/bytealg.abigen_runtime_cmpstring"], unfollowed := true, recurses := true, named := ["unicode/utf8.first", "unicode/utf8.acceptRanges", "unicode.CaseRanges"], apart := false, laid := [("unicode/utf8.acceptRanges", laid_unicode_utf8_acceptRanges), ("unicode.CaseRanges", laid_unicode_CaseRanges), ("unicode/utf8.first", laid_unicode_utf8_first)] }
def WordsThirdSaid : Prop := wordsThirdRow.holds Tryd.pinned (OpenSpec.ofChange wordsThirdSpec)

/-- ITS FALSE NEIGHBOUR: 'it returns false'. Refute it at one input. -/
def wordsThirdWrong : ChangeSpec := { name := "wordsThird", fn := fun _ => fun
  | [d1, d2] => { results := [.lit (.bool false)], args := [d1, d2] }
  | _ => none }
def WordsThirdWrongFalsely : Prop := wordsThirdRow.holds Tryd.pinned (OpenSpec.ofChange wordsThirdWrong)

/-- 'lyceumlaw33.WordsBack': WHATEVER THE INPUT: true; the input reads as it did. -/
def wordsBackSpec : ChangeSpec := { name := "wordsBack", fn := fun _ => fun
  | [d] => { results := [.lit (.bool true)], args := [d] }
  | _ => none }
def wordsBackRow : OpenClaim := { program := "ytbbgieopcmjoeaadoor", sum := "6d69442a848491e52c6e7fa73885130ff0403b872546b3633b08b8d4c9cfc08b", func := "lyceum/lyceumlaw33.WordsBack", spec := "wordsBack", inPlace := ["internal/bytealg.IndexByteString", "internal/abi.NoEscape", "internal/bytealg.MakeNoZero", "internal/bytealg.abigen_runtime_cmpstring", "internal/bytealg.IndexString"], unfollowed := true, recurses := true, named := ["unicode/utf8.first", "unicode/utf8.acceptRanges", "unicode.CaseRanges", "internal/bytealg.MaxLen"], apart := false, laid := [("unicode/utf8.acceptRanges", laid_unicode_utf8_acceptRanges), ("unicode.CaseRanges", laid_unicode_CaseRanges), ("unicode/utf8.first", laid_unicode_utf8_first)] }
def WordsBackSaid : Prop := wordsBackRow.holds Tryd.pinned (OpenSpec.ofChange wordsBackSpec)

/-- ITS FALSE NEIGHBOUR: 'it returns false'. Refute it at one input. -/
def wordsBackWrong : ChangeSpec := { name := "wordsBack", fn := fun _ => fun
  | [d] => { results := [.lit (.bool false)], args := [d] }
  | _ => none }
def WordsBackWrongFalsely : Prop := wordsBackRow.holds Tryd.pinned (OpenSpec.ofChange wordsBackWrong)

/-- 'lyceumlaw33.WordsBlanks': WHATEVER THE INPUT: true; the input reads as it did. -/
def wordsBlanksSpec : ChangeSpec := { name := "wordsBlanks", fn := fun _ => fun
  | [d1, d2] => { results := [.lit (.bool true)], args := [d1, d2] }
  | _ => none }
def wordsBlanksRow : OpenClaim := { program := "ytbbgieopcmjoeaadoor", sum := "6d69442a848491e52c6e7fa73885130ff0403b872546b3633b08b8d4c9cfc08b", func := "lyceum/lyceumlaw33.WordsBlanks", spec := "wordsBlanks", inPlace := ["internal/bytealg.IndexByteString", "internal/abi.NoEscape", "internal/bytealg.MakeNoZero", "internal/bytealg.abigen_runtime_cmpstring"], unfollowed := true, recurses := true, named := ["unicode/utf8.first", "unicode/utf8.acceptRanges", "unicode.CaseRanges"], apart := false, laid := [("unicode/utf8.acceptRanges", laid_unicode_utf8_acceptRanges), ("unicode.CaseRanges", laid_unicode_CaseRanges), ("unicode/utf8.first", laid_unicode_utf8_first)] }
def WordsBlanksSaid : Prop := wordsBlanksRow.holds Tryd.pinned (OpenSpec.ofChange wordsBlanksSpec)

/-- ITS FALSE NEIGHBOUR: 'it returns false'. Refute it at one input. -/
def wordsBlanksWrong : ChangeSpec := { name := "wordsBlanks", fn := fun _ => fun
  | [d1, d2] => { results := [.lit (.bool false)], args := [d1, d2] }
  | _ => none }
def WordsBlanksWrongFalsely : Prop := wordsBlanksRow.holds Tryd.pinned (OpenSpec.ofChange wordsBlanksWrong)

/-- 'lyceumlaw33.WordsWrong': WHATEVER THE INPUT: true; the input reads as it did. -/
def wordsWrongSpec : ChangeSpec := { name := "wordsWrong", fn := fun _ => fun
  | [d1, d2] => { results := [.lit (.bool true)], args := [d1, d2] }
  | _ => none }
def wordsWrongRow : OpenClaim := { program := "ytbbgieopcmjoeaadoor", sum := "6d69442a848491e52c6e7fa73885130ff0403b872546b3633b08b8d4c9cfc08b", func := "lyceum/lyceumlaw33.WordsWrong", spec := "wordsWrong", inPlace := ["internal/bytealg.IndexByteString", "internal/abi.NoEscape", "internal/bytealg.MakeNoZero", "internal/bytealg.abigen_runtime_cmpstring", "slices.overlaps[lyceum/words.Entry]"], unfollowed := true, recurses := true, named := ["unicode/utf8.first", "unicode/utf8.acceptRanges", "unicode.CaseRanges"], apart := false, laid := [("unicode/utf8.acceptRanges", laid_unicode_utf8_acceptRanges), ("unicode.CaseRanges", laid_unicode_CaseRanges), ("unicode/utf8.first", laid_unicode_utf8_first)] }
def WordsWrongSaid : Prop := wordsWrongRow.holds Tryd.pinned (OpenSpec.ofChange wordsWrongSpec)

/-- ITS FALSE NEIGHBOUR: 'it returns false'. Refute it at one input. -/
def wordsWrongWrong : ChangeSpec := { name := "wordsWrong", fn := fun _ => fun
  | [d1, d2] => { results := [.lit (.bool false)], args := [d1, d2] }
  | _ => none }
def WordsWrongWrongFalsely : Prop := wordsWrongRow.holds Tryd.pinned (OpenSpec.ofChange wordsWrongWrong)

/- THE SECOND FORM. 'bulk': how many values and letters a reading holds, each counted each time it is reached (what is shared counts as often as it is met; a slice's spare places count too). A statement '..UptoSaid' is the law's where the arguments, and the package variables that the reading takes, are together of bulk at most 1048576: NARROWER than '..Said'. Prove '..Said' where nothing that the law and all that it calls make is longer than what came in: it says more and counts as full. Else prove '..UptoSaid'. A law counts once. -/
mutual
def uptoBulk {H : Type} : DataW H → Nat
  | .lit (.string bytes) => bytes.length + 1
  | .lit _ => 1
  | .nil => 1
  | .ptr d => uptoBulk d + 1
  | .slice elems spare => uptoBulkAll elems + uptoBulkAll spare + 1
  | .agg parts => uptoBulkAll parts + 1
  | .iface _ d => uptoBulk d + 1
  | .map entries => uptoBulkEntries entries + 1
  | .held _ => 1
def uptoBulkAll {H : Type} : List (DataW H) → Nat
  | [] => 0
  | d :: r => uptoBulk d + uptoBulkAll r
def uptoBulkEntries {H : Type} : List (Lit × DataW H) → Nat
  | [] => 0
  | x :: r => uptoBulkEntry x + uptoBulkEntries r
def uptoBulkEntry {H : Type} : Lit × DataW H → Nat
  | (.string bytes, d) => bytes.length + uptoBulk d + 1
  | (_, d) => uptoBulk d + 1
 end
def uptoSmall : (H : Type) → List (DataW H) → Bool := fun _ ds => decide (uptoBulkAll ds ≤ 1048576)
def OpenSpec.upto (s : _root_.Go.ChangeSpec) : _root_.Go.OpenSpec := { _root_.Go.OpenSpec.ofChange s with cond := some uptoSmall }

/-- 'lyceumlaw33.WordsWrites', WHERE WHAT IT READS IS OF BULK AT MOST 1048576: true; the input reads as it did. -/
def wordsWritesUptoRow : OpenClaim := { program := "ytbbgieopcmjoeaadoor", sum := "6d69442a848491e52c6e7fa73885130ff0403b872546b3633b08b8d4c9cfc08b", func := "lyceum/lyceumlaw33.WordsWrites", spec := "wordsWrites", inPlace := ["internal/bytealg.IndexByteString", "internal/abi.NoEscape", "internal/bytealg.MakeNoZero", "internal/bytealg.abigen_runtime_cmpstring"], unfollowed := true, recurses := true, named := ["unicode/utf8.first", "unicode/utf8.acceptRanges", "unicode.CaseRanges"], apart := false, laid := [("unicode/utf8.acceptRanges", laid_unicode_utf8_acceptRanges), ("unicode.CaseRanges", laid_unicode_CaseRanges), ("unicode/utf8.first", laid_unicode_utf8_first)], narrowed := true }
def WordsWritesUptoSaid : Prop := wordsWritesUptoRow.holds Tryd.pinned (OpenSpec.upto wordsWritesSpec)

/-- 'lyceumlaw33.WordsTexts', WHERE WHAT IT READS IS OF BULK AT MOST 1048576: true; the input reads as it did. -/
def wordsTextsUptoRow : OpenClaim := { program := "ytbbgieopcmjoeaadoor", sum := "6d69442a848491e52c6e7fa73885130ff0403b872546b3633b08b8d4c9cfc08b", func := "lyceum/lyceumlaw33.WordsTexts", spec := "wordsTexts", inPlace := ["internal/bytealg.IndexByteString", "internal/abi.NoEscape", "internal/bytealg.MakeNoZero", "internal/bytealg.abigen_runtime_cmpstring"], unfollowed := true, recurses := true, named := ["unicode/utf8.first", "unicode/utf8.acceptRanges", "unicode.CaseRanges"], apart := false, laid := [("unicode/utf8.acceptRanges", laid_unicode_utf8_acceptRanges), ("unicode.CaseRanges", laid_unicode_CaseRanges), ("unicode/utf8.first", laid_unicode_utf8_first)], narrowed := true }
def WordsTextsUptoSaid : Prop := wordsTextsUptoRow.holds Tryd.pinned (OpenSpec.upto wordsTextsSpec)

/-- 'lyceumlaw33.WordsFound', WHERE WHAT IT READS IS OF BULK AT MOST 1048576: true; the input reads as it did. -/
def wordsFoundUptoRow : OpenClaim := { program := "ytbbgieopcmjoeaadoor", sum := "6d69442a848491e52c6e7fa73885130ff0403b872546b3633b08b8d4c9cfc08b", func := "lyceum/lyceumlaw33.WordsFound", spec := "wordsFound", inPlace := ["internal/bytealg.IndexByteString", "internal/abi.NoEscape", "internal/bytealg.MakeNoZero", "internal/bytealg.abigen_runtime_cmpstring"], unfollowed := true, recurses := true, named := ["unicode/utf8.first", "unicode/utf8.acceptRanges", "unicode.CaseRanges"], apart := false, laid := [("unicode/utf8.acceptRanges", laid_unicode_utf8_acceptRanges), ("unicode.CaseRanges", laid_unicode_CaseRanges), ("unicode/utf8.first", laid_unicode_utf8_first)], narrowed := true }
def WordsFoundUptoSaid : Prop := wordsFoundUptoRow.holds Tryd.pinned (OpenSpec.upto wordsFoundSpec)

/-- 'lyceumlaw33.WordsPlace', WHERE WHAT IT READS IS OF BULK AT MOST 1048576: true; the input reads as it did. -/
def wordsPlaceUptoRow : OpenClaim := { program := "ytbbgieopcmjoeaadoor", sum := "6d69442a848491e52c6e7fa73885130ff0403b872546b3633b08b8d4c9cfc08b", func := "lyceum/lyceumlaw33.WordsPlace", spec := "wordsPlace", inPlace := ["internal/bytealg.IndexByteString", "internal/abi.NoEscape", "internal/bytealg.MakeNoZero", "internal/bytealg.abigen_runtime_cmpstring"], unfollowed := true, recurses := true, named := ["unicode/utf8.first", "unicode/utf8.acceptRanges", "unicode.CaseRanges"], apart := false, laid := [("unicode/utf8.acceptRanges", laid_unicode_utf8_acceptRanges), ("unicode.CaseRanges", laid_unicode_CaseRanges), ("unicode/utf8.first", laid_unicode_utf8_first)], narrowed := true }
def WordsPlaceUptoSaid : Prop := wordsPlaceUptoRow.holds Tryd.pinned (OpenSpec.upto wordsPlaceSpec)

/-- 'lyceumlaw33.WordsThird', WHERE WHAT IT READS IS OF BULK AT MOST 1048576: true; the input reads as it did. -/
def wordsThirdUptoRow : OpenClaim := { program := "ytbbgieopcmjoeaadoor", sum := "6d69442a848491e52c6e7fa73885130ff0403b872546b3633b08b8d4c9cfc08b", func := "lyceum/lyceumlaw33.WordsThird", spec := "wordsThird", inPlace := ["internal/bytealg.IndexByteString", "internal/abi.NoEscape", "internal/bytealg.MakeNoZero", "internal/bytealg.abigen_runtime_cmpstring"], unfollowed := true, recurses := true, named := ["unicode/utf8.first", "unicode/utf8.acceptRanges", "unicode.CaseRanges"], apart := false, laid := [("unicode/utf8.acceptRanges", laid_unicode_utf8_acceptRanges), ("unicode.CaseRanges", laid_unicode_CaseRanges), ("unicode/utf8.first", laid_unicode_utf8_first)], narrowed := true }
def WordsThirdUptoSaid : Prop := wordsThirdUptoRow.holds Tryd.pinned (OpenSpec.upto wordsThirdSpec)

/-- 'lyceumlaw33.WordsBack', WHERE WHAT IT READS IS OF BULK AT MOST 1048576: true; the input reads as it did. -/
def wordsBackUptoRow : OpenClaim := { program := "ytbbgieopcmjoeaadoor", sum := "6d69442a848491e52c6e7fa73885130ff0403b872546b3633b08b8d4c9cfc08b", func := "lyceum/lyceumlaw33.WordsBack", spec := "wordsBack", inPlace := ["internal/bytealg.IndexByteString", "internal/abi.NoEscape", "internal/bytealg.MakeNoZero", "internal/bytealg.abigen_runtime_cmpstring", "internal/bytealg.IndexString"], unfollowed := true, recurses := true, named := ["unicode/utf8.first", "unicode/utf8.acceptRanges", "unicode.CaseRanges", "internal/bytealg.MaxLen"], apart := false, laid := [("unicode/utf8.acceptRanges", laid_unicode_utf8_acceptRanges), ("unicode.CaseRanges", laid_unicode_CaseRanges), ("unicode/utf8.first", laid_unicode_utf8_first)], narrowed := true }
def WordsBackUptoSaid : Prop := wordsBackUptoRow.holds Tryd.pinned (OpenSpec.upto wordsBackSpec)

/-- 'lyceumlaw33.WordsBlanks', WHERE WHAT IT READS IS OF BULK AT MOST 1048576: true; the input reads as it did. -/
def wordsBlanksUptoRow : OpenClaim := { program := "ytbbgieopcmjoeaadoor", sum := "6d69442a848491e52c6e7fa73885130ff0403b872546b3633b08b8d4c9cfc08b", func := "lyceum/lyceumlaw33.WordsBlanks", spec := "wordsBlanks", inPlace := ["internal/bytealg.IndexByteString", "internal/abi.NoEscape", "internal/bytealg.MakeNoZero", "internal/bytealg.abigen_runtime_cmpstring"], unfollowed := true, recurses := true, named := ["unicode/utf8.first", "unicode/utf8.acceptRanges", "unicode.CaseRanges"], apart := false, laid := [("unicode/utf8.acceptRanges", laid_unicode_utf8_acceptRanges), ("unicode.CaseRanges", laid_unicode_CaseRanges), ("unicode/utf8.first", laid_unicode_utf8_first)], narrowed := true }
def WordsBlanksUptoSaid : Prop := wordsBlanksUptoRow.holds Tryd.pinned (OpenSpec.upto wordsBlanksSpec)

/-- 'lyceumlaw33.WordsWrong', WHERE WHAT IT READS IS OF BULK AT MOST 1048576: true; the input reads as it did. -/
def wordsWrongUptoRow : OpenClaim := { program := "ytbbgieopcmjoeaadoor", sum := "6d69442a848491e52c6e7fa73885130ff0403b872546b3633b08b8d4c9cfc08b", func := "lyceum/lyceumlaw33.WordsWrong", spec := "wordsWrong", inPlace := ["internal/bytealg.IndexByteString", "internal/abi.NoEscape", "internal/bytealg.MakeNoZero", "internal/bytealg.abigen_runtime_cmpstring", "slices.overlaps[lyceum/words.Entry]"], unfollowed := true, recurses := true, named := ["unicode/utf8.first", "unicode/utf8.acceptRanges", "unicode.CaseRanges"], apart := false, laid := [("unicode/utf8.acceptRanges", laid_unicode_utf8_acceptRanges), ("unicode.CaseRanges", laid_unicode_CaseRanges), ("unicode/utf8.first", laid_unicode_utf8_first)], narrowed := true }
def WordsWrongUptoSaid : Prop := wordsWrongUptoRow.holds Tryd.pinned (OpenSpec.upto wordsWrongSpec)

end Rows
end Go.Proofs.YtbbgieopcmjoeaaDoor
