/-
  DERIVED. GIVEN WITH THE SEED: THE CARDS: each row of YtdenafhfngnlfaaDoorRows.lean that lists a variable, with what it lists TIED to the program's text (the seventh form; the later family's looks); each row that meets fmt, with fmt's text TOLD by the authors' own Lean function (tested against real Go, not proved from fmt's source: count such statements apart). THE CARD IS WHAT COUNTS. Prove the row's statement (the work); the ties are given (YtdenafhfngnlfaaDoorTie.lean); close each card by the builder's one call (the guide's Derived/Test/ToyasCard.lean, 'card_holds'). Laid BY PROGRAM, IN A SANDBOX (cutbox-door.mjs). By AI agents, Wed Nov 11 2026. No macro, syntax, notation, axiom, sorry.
-/
import Derived.Test.YtdenafhfngnlfaaDoorRows
import GoSem.ClaimSeven
namespace Go.Proofs.YtdenafhfngnlfaaDoor
namespace Rows

/-- THE TIED CARD OF 'tapestrierlaw4.TokNames'. -/
def tokNamesCard : Claim7 := { stood := { row := tokNamesRow, standIns := [], harness := (true, "8451fcc41f0a988f4a47d5908dbf8863eaf800755a5aa5c184bbbeb4b2303117"), looks := false }, kinds := [], alts := [], laidByText := true, laidKinds := [.data, .pinned], laidTests := true, laidLooks := .later }
def TokNamesCardSaid : Prop := Claim7.holds Tryd.pinned (.plain (OpenSpec.ofChange tokNamesSpec)) tokNamesCard

/-- THE TIED CARD OF 'tapestrierlaw4.TokStrings'. -/
def tokStringsCard : Claim7 := { stood := { row := tokStringsRow, standIns := [], harness := (true, "8451fcc41f0a988f4a47d5908dbf8863eaf800755a5aa5c184bbbeb4b2303117"), looks := false }, kinds := [], alts := [], laidByText := true, laidKinds := [.data, .pinned], laidTests := true, laidLooks := .later }
def TokStringsCardSaid : Prop := Claim7.holds Tryd.pinned (.plain (OpenSpec.ofChange tokStringsSpec)) tokStringsCard

/-- THE TIED CARD OF 'tapestrierlaw4.TokNumbers'. -/
def tokNumbersCard : Claim7 := { stood := { row := tokNumbersRow, standIns := [], harness := (true, "8451fcc41f0a988f4a47d5908dbf8863eaf800755a5aa5c184bbbeb4b2303117"), looks := false }, kinds := [], alts := [], laidByText := true, laidKinds := [.data, .pinned], laidTests := true, laidLooks := .later }
def TokNumbersCardSaid : Prop := Claim7.holds Tryd.pinned (.plain (OpenSpec.ofChange tokNumbersSpec)) tokNumbersCard

/-- THE TIED CARD OF 'tapestrierlaw4.TokComments'. -/
def tokCommentsCard : Claim7 := { stood := { row := tokCommentsRow, standIns := [], harness := (true, "8451fcc41f0a988f4a47d5908dbf8863eaf800755a5aa5c184bbbeb4b2303117"), looks := false }, kinds := [], alts := [], laidByText := true, laidKinds := [.data, .pinned], laidTests := true, laidLooks := .later }
def TokCommentsCardSaid : Prop := Claim7.holds Tryd.pinned (.plain (OpenSpec.ofChange tokCommentsSpec)) tokCommentsCard

/-- THE TIED CARD OF 'tapestrierlaw4.TokEscapes'. -/
def tokEscapesCard : Claim7 := { stood := { row := tokEscapesRow, standIns := [], harness := (true, "8451fcc41f0a988f4a47d5908dbf8863eaf800755a5aa5c184bbbeb4b2303117"), looks := false }, kinds := [], alts := [], laidByText := true, laidKinds := [.data, .pinned], laidTests := true, laidLooks := .later }
def TokEscapesCardSaid : Prop := Claim7.holds Tryd.pinned (.plain (OpenSpec.ofChange tokEscapesSpec)) tokEscapesCard

/-- THE TIED CARD OF 'tapestrierlaw4.TokSigns'. -/
def tokSignsCard : Claim7 := { stood := { row := tokSignsRow, standIns := [], harness := (true, "8451fcc41f0a988f4a47d5908dbf8863eaf800755a5aa5c184bbbeb4b2303117"), looks := false }, kinds := [], alts := [], laidByText := true, laidKinds := [.data, .pinned], laidTests := true, laidLooks := .later }
def TokSignsCardSaid : Prop := Claim7.holds Tryd.pinned (.plain (OpenSpec.ofChange tokSignsSpec)) tokSignsCard

/-- THE TIED CARD OF 'tapestrierlaw4.TokParts'. -/
def tokPartsCard : Claim7 := { stood := { row := tokPartsRow, standIns := [], harness := (true, "8451fcc41f0a988f4a47d5908dbf8863eaf800755a5aa5c184bbbeb4b2303117"), looks := false }, kinds := [], alts := [], laidByText := true, laidKinds := [.data, .pinned], laidTests := true, laidLooks := .later }
def TokPartsCardSaid : Prop := Claim7.holds Tryd.pinned (.plain (OpenSpec.ofChange tokPartsSpec)) tokPartsCard

/-- THE TIED CARD OF 'tapestrierlaw4.TokWhite'. -/
def tokWhiteCard : Claim7 := { stood := { row := tokWhiteRow, standIns := [], harness := (true, "8451fcc41f0a988f4a47d5908dbf8863eaf800755a5aa5c184bbbeb4b2303117"), looks := false }, kinds := [], alts := [], laidByText := true, laidKinds := [.data, .pinned], laidTests := true, laidLooks := .later }
def TokWhiteCardSaid : Prop := Claim7.holds Tryd.pinned (.plain (OpenSpec.ofChange tokWhiteSpec)) tokWhiteCard

/-- THE SECOND FORM's CARD OF 'tapestrierlaw4.TokNames'. -/
def tokNamesUptoCard : Claim7 := { stood := { row := tokNamesUptoRow, standIns := [], harness := (true, "8451fcc41f0a988f4a47d5908dbf8863eaf800755a5aa5c184bbbeb4b2303117"), looks := false }, kinds := [], alts := [], laidByText := true, laidKinds := [.data, .pinned], laidTests := true, laidLooks := .later }
def TokNamesUptoCardSaid : Prop := Claim7.holds Tryd.pinned (.plain (OpenSpec.upto tokNamesSpec)) tokNamesUptoCard

/-- THE SECOND FORM's CARD OF 'tapestrierlaw4.TokStrings'. -/
def tokStringsUptoCard : Claim7 := { stood := { row := tokStringsUptoRow, standIns := [], harness := (true, "8451fcc41f0a988f4a47d5908dbf8863eaf800755a5aa5c184bbbeb4b2303117"), looks := false }, kinds := [], alts := [], laidByText := true, laidKinds := [.data, .pinned], laidTests := true, laidLooks := .later }
def TokStringsUptoCardSaid : Prop := Claim7.holds Tryd.pinned (.plain (OpenSpec.upto tokStringsSpec)) tokStringsUptoCard

/-- THE SECOND FORM's CARD OF 'tapestrierlaw4.TokNumbers'. -/
def tokNumbersUptoCard : Claim7 := { stood := { row := tokNumbersUptoRow, standIns := [], harness := (true, "8451fcc41f0a988f4a47d5908dbf8863eaf800755a5aa5c184bbbeb4b2303117"), looks := false }, kinds := [], alts := [], laidByText := true, laidKinds := [.data, .pinned], laidTests := true, laidLooks := .later }
def TokNumbersUptoCardSaid : Prop := Claim7.holds Tryd.pinned (.plain (OpenSpec.upto tokNumbersSpec)) tokNumbersUptoCard

/-- THE SECOND FORM's CARD OF 'tapestrierlaw4.TokComments'. -/
def tokCommentsUptoCard : Claim7 := { stood := { row := tokCommentsUptoRow, standIns := [], harness := (true, "8451fcc41f0a988f4a47d5908dbf8863eaf800755a5aa5c184bbbeb4b2303117"), looks := false }, kinds := [], alts := [], laidByText := true, laidKinds := [.data, .pinned], laidTests := true, laidLooks := .later }
def TokCommentsUptoCardSaid : Prop := Claim7.holds Tryd.pinned (.plain (OpenSpec.upto tokCommentsSpec)) tokCommentsUptoCard

/-- THE SECOND FORM's CARD OF 'tapestrierlaw4.TokEscapes'. -/
def tokEscapesUptoCard : Claim7 := { stood := { row := tokEscapesUptoRow, standIns := [], harness := (true, "8451fcc41f0a988f4a47d5908dbf8863eaf800755a5aa5c184bbbeb4b2303117"), looks := false }, kinds := [], alts := [], laidByText := true, laidKinds := [.data, .pinned], laidTests := true, laidLooks := .later }
def TokEscapesUptoCardSaid : Prop := Claim7.holds Tryd.pinned (.plain (OpenSpec.upto tokEscapesSpec)) tokEscapesUptoCard

/-- THE SECOND FORM's CARD OF 'tapestrierlaw4.TokSigns'. -/
def tokSignsUptoCard : Claim7 := { stood := { row := tokSignsUptoRow, standIns := [], harness := (true, "8451fcc41f0a988f4a47d5908dbf8863eaf800755a5aa5c184bbbeb4b2303117"), looks := false }, kinds := [], alts := [], laidByText := true, laidKinds := [.data, .pinned], laidTests := true, laidLooks := .later }
def TokSignsUptoCardSaid : Prop := Claim7.holds Tryd.pinned (.plain (OpenSpec.upto tokSignsSpec)) tokSignsUptoCard

/-- THE SECOND FORM's CARD OF 'tapestrierlaw4.TokParts'. -/
def tokPartsUptoCard : Claim7 := { stood := { row := tokPartsUptoRow, standIns := [], harness := (true, "8451fcc41f0a988f4a47d5908dbf8863eaf800755a5aa5c184bbbeb4b2303117"), looks := false }, kinds := [], alts := [], laidByText := true, laidKinds := [.data, .pinned], laidTests := true, laidLooks := .later }
def TokPartsUptoCardSaid : Prop := Claim7.holds Tryd.pinned (.plain (OpenSpec.upto tokPartsSpec)) tokPartsUptoCard

/-- THE SECOND FORM's CARD OF 'tapestrierlaw4.TokWhite'. -/
def tokWhiteUptoCard : Claim7 := { stood := { row := tokWhiteUptoRow, standIns := [], harness := (true, "8451fcc41f0a988f4a47d5908dbf8863eaf800755a5aa5c184bbbeb4b2303117"), looks := false }, kinds := [], alts := [], laidByText := true, laidKinds := [.data, .pinned], laidTests := true, laidLooks := .later }
def TokWhiteUptoCardSaid : Prop := Claim7.holds Tryd.pinned (.plain (OpenSpec.upto tokWhiteSpec)) tokWhiteUptoCard
end Rows
end Go.Proofs.YtdenafhfngnlfaaDoor
