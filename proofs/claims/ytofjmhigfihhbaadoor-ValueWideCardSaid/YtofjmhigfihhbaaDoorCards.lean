/-
  DERIVED. GIVEN WITH THE SEED: THE CARDS: each row of YtofjmhigfihhbaaDoorRows.lean that lists a variable, with what it lists TIED to the program's text (the seventh form; the later family's looks); each row that meets fmt, with fmt's text TOLD by the authors' own Lean function (tested against real Go, not proved from fmt's source: count such statements apart). THE CARD IS WHAT COUNTS. Prove the row's statement (the work); the ties are given (YtofjmhigfihhbaaDoorTie.lean); close each card by the builder's one call (the guide's Derived/Test/ToyasCard.lean, 'card_holds'). Laid BY PROGRAM, IN A SANDBOX (cutbox-door.mjs). By AI agents, Wed Nov 11 2026. No macro, syntax, notation, axiom, sorry.
-/
import Derived.Test.YtofjmhigfihhbaaDoorRows
import GoSem.ClaimSeven
namespace Go.Proofs.YtofjmhigfihhbaaDoor
namespace Rows

/-- THE TIED CARD OF 'tapestrierlaw7.ValueParse'. -/
def valueParseCard : Claim7 := { stood := { row := valueParseRow, standIns := [], harness := (true, "4abde203ddeafbb55b949f71179b4b875813e4066c8af611036ac1784206beb7"), looks := true }, kinds := [], alts := [], laidByText := true, laidKinds := [.data, .data, .data, .sentinel, .sentinel], laidTests := true, laidLooks := .later }
def ValueParseCardSaid : Prop := Claim7.holds Tryd.pinned (.plain (OpenSpec.ofChange valueParseSpec)) valueParseCard

/-- THE TIED CARD OF 'tapestrierlaw7.ValueWide'. -/
def valueWideCard : Claim7 := { stood := { row := valueWideRow, standIns := [], harness := (true, "4abde203ddeafbb55b949f71179b4b875813e4066c8af611036ac1784206beb7"), looks := true }, kinds := [], alts := [], laidByText := true, laidKinds := [.data, .data, .data, .sentinel, .sentinel], laidTests := true, laidLooks := .later }
def ValueWideCardSaid : Prop := Claim7.holds Tryd.pinned (.plain (OpenSpec.ofChange valueWideSpec)) valueWideCard

/-- THE TIED CARD OF 'tapestrierlaw7.ValueLengths'. -/
def valueLengthsCard : Claim7 := { stood := { row := valueLengthsRow, standIns := [], harness := (true, "4abde203ddeafbb55b949f71179b4b875813e4066c8af611036ac1784206beb7"), looks := true }, kinds := [], alts := [], laidByText := true, laidKinds := [.data, .data, .data, .sentinel, .sentinel], laidTests := true, laidLooks := .later }
def ValueLengthsCardSaid : Prop := Claim7.holds Tryd.pinned (.plain (OpenSpec.ofChange valueLengthsSpec)) valueLengthsCard

/-- THE TIED CARD OF 'tapestrierlaw7.ValueWords'. -/
def valueWordsCard : Claim7 := { stood := { row := valueWordsRow, standIns := [], harness := (true, "4abde203ddeafbb55b949f71179b4b875813e4066c8af611036ac1784206beb7"), looks := true }, kinds := [], alts := [], laidByText := true, laidKinds := [.data, .data, .data, .sentinel, .sentinel], laidTests := true, laidLooks := .later }
def ValueWordsCardSaid : Prop := Claim7.holds Tryd.pinned (.plain (OpenSpec.ofChange valueWordsSpec)) valueWordsCard

/-- THE TIED CARD OF 'tapestrierlaw7.ValueSets'. -/
def valueSetsCard : Claim7 := { stood := { row := valueSetsRow, standIns := [], harness := (true, "4abde203ddeafbb55b949f71179b4b875813e4066c8af611036ac1784206beb7"), looks := true }, kinds := [], alts := [], laidByText := true, laidKinds := [.data, .data, .data, .sentinel, .sentinel], laidTests := true, laidLooks := .later }
def ValueSetsCardSaid : Prop := Claim7.holds Tryd.pinned (.plain (OpenSpec.ofChange valueSetsSpec)) valueSetsCard

/-- THE TIED CARD OF 'tapestrierlaw7.ValueOne'. -/
def valueOneCard : Claim7 := { stood := { row := valueOneRow, standIns := [], harness := (true, "4abde203ddeafbb55b949f71179b4b875813e4066c8af611036ac1784206beb7"), looks := true }, kinds := [], alts := [], laidByText := true, laidKinds := [.data, .data, .data, .sentinel, .sentinel], laidTests := true, laidLooks := .later }
def ValueOneCardSaid : Prop := Claim7.holds Tryd.pinned (.plain (OpenSpec.ofChange valueOneSpec)) valueOneCard

/-- THE SECOND FORM's CARD OF 'tapestrierlaw7.ValueParse'. -/
def valueParseUptoCard : Claim7 := { stood := { row := valueParseUptoRow, standIns := [], harness := (true, "4abde203ddeafbb55b949f71179b4b875813e4066c8af611036ac1784206beb7"), looks := true }, kinds := [], alts := [], laidByText := true, laidKinds := [.data, .data, .data, .sentinel, .sentinel], laidTests := true, laidLooks := .later }
def ValueParseUptoCardSaid : Prop := Claim7.holds Tryd.pinned (.plain (OpenSpec.upto valueParseSpec)) valueParseUptoCard

/-- THE SECOND FORM's CARD OF 'tapestrierlaw7.ValueWide'. -/
def valueWideUptoCard : Claim7 := { stood := { row := valueWideUptoRow, standIns := [], harness := (true, "4abde203ddeafbb55b949f71179b4b875813e4066c8af611036ac1784206beb7"), looks := true }, kinds := [], alts := [], laidByText := true, laidKinds := [.data, .data, .data, .sentinel, .sentinel], laidTests := true, laidLooks := .later }
def ValueWideUptoCardSaid : Prop := Claim7.holds Tryd.pinned (.plain (OpenSpec.upto valueWideSpec)) valueWideUptoCard

/-- THE SECOND FORM's CARD OF 'tapestrierlaw7.ValueLengths'. -/
def valueLengthsUptoCard : Claim7 := { stood := { row := valueLengthsUptoRow, standIns := [], harness := (true, "4abde203ddeafbb55b949f71179b4b875813e4066c8af611036ac1784206beb7"), looks := true }, kinds := [], alts := [], laidByText := true, laidKinds := [.data, .data, .data, .sentinel, .sentinel], laidTests := true, laidLooks := .later }
def ValueLengthsUptoCardSaid : Prop := Claim7.holds Tryd.pinned (.plain (OpenSpec.upto valueLengthsSpec)) valueLengthsUptoCard

/-- THE SECOND FORM's CARD OF 'tapestrierlaw7.ValueWords'. -/
def valueWordsUptoCard : Claim7 := { stood := { row := valueWordsUptoRow, standIns := [], harness := (true, "4abde203ddeafbb55b949f71179b4b875813e4066c8af611036ac1784206beb7"), looks := true }, kinds := [], alts := [], laidByText := true, laidKinds := [.data, .data, .data, .sentinel, .sentinel], laidTests := true, laidLooks := .later }
def ValueWordsUptoCardSaid : Prop := Claim7.holds Tryd.pinned (.plain (OpenSpec.upto valueWordsSpec)) valueWordsUptoCard

/-- THE SECOND FORM's CARD OF 'tapestrierlaw7.ValueSets'. -/
def valueSetsUptoCard : Claim7 := { stood := { row := valueSetsUptoRow, standIns := [], harness := (true, "4abde203ddeafbb55b949f71179b4b875813e4066c8af611036ac1784206beb7"), looks := true }, kinds := [], alts := [], laidByText := true, laidKinds := [.data, .data, .data, .sentinel, .sentinel], laidTests := true, laidLooks := .later }
def ValueSetsUptoCardSaid : Prop := Claim7.holds Tryd.pinned (.plain (OpenSpec.upto valueSetsSpec)) valueSetsUptoCard

/-- THE SECOND FORM's CARD OF 'tapestrierlaw7.ValueOne'. -/
def valueOneUptoCard : Claim7 := { stood := { row := valueOneUptoRow, standIns := [], harness := (true, "4abde203ddeafbb55b949f71179b4b875813e4066c8af611036ac1784206beb7"), looks := true }, kinds := [], alts := [], laidByText := true, laidKinds := [.data, .data, .data, .sentinel, .sentinel], laidTests := true, laidLooks := .later }
def ValueOneUptoCardSaid : Prop := Claim7.holds Tryd.pinned (.plain (OpenSpec.upto valueOneSpec)) valueOneUptoCard
end Rows
end Go.Proofs.YtofjmhigfihhbaaDoor
