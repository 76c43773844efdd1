/-
  DERIVED. GIVEN WITH THE SEED: THE CARDS: each row of YtnddjcpnaeekcaaDoorRows.lean that lists a variable, with what it lists TIED to the program's text (the seventh form; the later family's looks); each row that meets fmt, with fmt's text TOLD by the authors' own Lean function (tested against real Go, not proved from fmt's source: count such statements apart). THE CARD IS WHAT COUNTS. Prove the row's statement (the work); the ties are given (YtnddjcpnaeekcaaDoorTie.lean); close each card by the builder's one call (the guide's Derived/Test/ToyasCard.lean, 'card_holds'). Laid BY PROGRAM, IN A SANDBOX (cutbox-door.mjs). By AI agents, Wed Nov 11 2026. No macro, syntax, notation, axiom, sorry.
-/
import Derived.Test.YtnddjcpnaeekcaaDoorRows
import GoSem.ClaimSeven
namespace Go.Proofs.YtnddjcpnaeekcaaDoor
namespace Rows

/-- THE TIED CARD OF 'tapestrierlaw3.NumReads'. -/
def numReadsCard : Claim7 := { stood := { row := numReadsRow, standIns := [], harness := (true, "e39a93ac8bc008730899170376c441043be9ab35c05fba04839ee03495337585"), looks := false }, kinds := [], alts := [], laidByText := true, laidKinds := [.data, .data, .data], laidTests := true, laidLooks := .later }
def NumReadsCardSaid : Prop := Claim7.holds Tryd.pinned (.plain (OpenSpec.ofChange numReadsSpec)) numReadsCard

/-- THE TIED CARD OF 'tapestrierlaw3.NumTexts'. -/
def numTextsCard : Claim7 := { stood := { row := numTextsRow, standIns := [], harness := (true, "e39a93ac8bc008730899170376c441043be9ab35c05fba04839ee03495337585"), looks := false }, kinds := [], alts := [], laidByText := true, laidKinds := [.data, .data, .data], laidTests := true, laidLooks := .later }
def NumTextsCardSaid : Prop := Claim7.holds Tryd.pinned (.plain (OpenSpec.ofChange numTextsSpec)) numTextsCard

/-- THE TIED CARD OF 'tapestrierlaw3.NumParts'. -/
def numPartsCard : Claim7 := { stood := { row := numPartsRow, standIns := [], harness := (true, "e39a93ac8bc008730899170376c441043be9ab35c05fba04839ee03495337585"), looks := false }, kinds := [], alts := [], laidByText := true, laidKinds := [.data, .data, .data], laidTests := true, laidLooks := .later }
def NumPartsCardSaid : Prop := Claim7.holds Tryd.pinned (.plain (OpenSpec.ofChange numPartsSpec)) numPartsCard

/-- THE TIED CARD OF 'tapestrierlaw3.NumLong'. -/
def numLongCard : Claim7 := { stood := { row := numLongRow, standIns := [], harness := (true, "e39a93ac8bc008730899170376c441043be9ab35c05fba04839ee03495337585"), looks := false }, kinds := [], alts := [], laidByText := true, laidKinds := [.data, .data, .data], laidTests := true, laidLooks := .later }
def NumLongCardSaid : Prop := Claim7.holds Tryd.pinned (.plain (OpenSpec.ofChange numLongSpec)) numLongCard

/-- THE TIED CARD OF 'tapestrierlaw3.NumSigns'. -/
def numSignsCard : Claim7 := { stood := { row := numSignsRow, standIns := [], harness := (true, "e39a93ac8bc008730899170376c441043be9ab35c05fba04839ee03495337585"), looks := false }, kinds := [], alts := [], laidByText := true, laidKinds := [.data, .data, .data], laidTests := true, laidLooks := .later }
def NumSignsCardSaid : Prop := Claim7.holds Tryd.pinned (.plain (OpenSpec.ofChange numSignsSpec)) numSignsCard

/-- THE TIED CARD OF 'tapestrierlaw3.NumSums'. -/
def numSumsCard : Claim7 := { stood := { row := numSumsRow, standIns := [], harness := (true, "e39a93ac8bc008730899170376c441043be9ab35c05fba04839ee03495337585"), looks := false }, kinds := [], alts := [], laidByText := true, laidKinds := [.data, .data, .data], laidTests := true, laidLooks := .later }
def NumSumsCardSaid : Prop := Claim7.holds Tryd.pinned (.plain (OpenSpec.ofChange numSumsSpec)) numSumsCard

/-- THE TIED CARD OF 'tapestrierlaw3.NumOnes'. -/
def numOnesCard : Claim7 := { stood := { row := numOnesRow, standIns := [], harness := (true, "e39a93ac8bc008730899170376c441043be9ab35c05fba04839ee03495337585"), looks := false }, kinds := [], alts := [], laidByText := true, laidKinds := [.data, .data, .data], laidTests := true, laidLooks := .later }
def NumOnesCardSaid : Prop := Claim7.holds Tryd.pinned (.plain (OpenSpec.ofChange numOnesSpec)) numOnesCard

/-- THE TIED CARD OF 'tapestrierlaw3.NumRises'. -/
def numRisesCard : Claim7 := { stood := { row := numRisesRow, standIns := [], harness := (true, "e39a93ac8bc008730899170376c441043be9ab35c05fba04839ee03495337585"), looks := false }, kinds := [], alts := [], laidByText := true, laidKinds := [.data, .data, .data], laidTests := true, laidLooks := .later }
def NumRisesCardSaid : Prop := Claim7.holds Tryd.pinned (.plain (OpenSpec.ofChange numRisesSpec)) numRisesCard

/-- THE SECOND FORM's CARD OF 'tapestrierlaw3.NumReads'. -/
def numReadsUptoCard : Claim7 := { stood := { row := numReadsUptoRow, standIns := [], harness := (true, "e39a93ac8bc008730899170376c441043be9ab35c05fba04839ee03495337585"), looks := false }, kinds := [], alts := [], laidByText := true, laidKinds := [.data, .data, .data], laidTests := true, laidLooks := .later }
def NumReadsUptoCardSaid : Prop := Claim7.holds Tryd.pinned (.plain (OpenSpec.upto numReadsSpec)) numReadsUptoCard

/-- THE SECOND FORM's CARD OF 'tapestrierlaw3.NumTexts'. -/
def numTextsUptoCard : Claim7 := { stood := { row := numTextsUptoRow, standIns := [], harness := (true, "e39a93ac8bc008730899170376c441043be9ab35c05fba04839ee03495337585"), looks := false }, kinds := [], alts := [], laidByText := true, laidKinds := [.data, .data, .data], laidTests := true, laidLooks := .later }
def NumTextsUptoCardSaid : Prop := Claim7.holds Tryd.pinned (.plain (OpenSpec.upto numTextsSpec)) numTextsUptoCard

/-- THE SECOND FORM's CARD OF 'tapestrierlaw3.NumParts'. -/
def numPartsUptoCard : Claim7 := { stood := { row := numPartsUptoRow, standIns := [], harness := (true, "e39a93ac8bc008730899170376c441043be9ab35c05fba04839ee03495337585"), looks := false }, kinds := [], alts := [], laidByText := true, laidKinds := [.data, .data, .data], laidTests := true, laidLooks := .later }
def NumPartsUptoCardSaid : Prop := Claim7.holds Tryd.pinned (.plain (OpenSpec.upto numPartsSpec)) numPartsUptoCard

/-- THE SECOND FORM's CARD OF 'tapestrierlaw3.NumLong'. -/
def numLongUptoCard : Claim7 := { stood := { row := numLongUptoRow, standIns := [], harness := (true, "e39a93ac8bc008730899170376c441043be9ab35c05fba04839ee03495337585"), looks := false }, kinds := [], alts := [], laidByText := true, laidKinds := [.data, .data, .data], laidTests := true, laidLooks := .later }
def NumLongUptoCardSaid : Prop := Claim7.holds Tryd.pinned (.plain (OpenSpec.upto numLongSpec)) numLongUptoCard

/-- THE SECOND FORM's CARD OF 'tapestrierlaw3.NumSigns'. -/
def numSignsUptoCard : Claim7 := { stood := { row := numSignsUptoRow, standIns := [], harness := (true, "e39a93ac8bc008730899170376c441043be9ab35c05fba04839ee03495337585"), looks := false }, kinds := [], alts := [], laidByText := true, laidKinds := [.data, .data, .data], laidTests := true, laidLooks := .later }
def NumSignsUptoCardSaid : Prop := Claim7.holds Tryd.pinned (.plain (OpenSpec.upto numSignsSpec)) numSignsUptoCard

/-- THE SECOND FORM's CARD OF 'tapestrierlaw3.NumSums'. -/
def numSumsUptoCard : Claim7 := { stood := { row := numSumsUptoRow, standIns := [], harness := (true, "e39a93ac8bc008730899170376c441043be9ab35c05fba04839ee03495337585"), looks := false }, kinds := [], alts := [], laidByText := true, laidKinds := [.data, .data, .data], laidTests := true, laidLooks := .later }
def NumSumsUptoCardSaid : Prop := Claim7.holds Tryd.pinned (.plain (OpenSpec.upto numSumsSpec)) numSumsUptoCard

/-- THE SECOND FORM's CARD OF 'tapestrierlaw3.NumOnes'. -/
def numOnesUptoCard : Claim7 := { stood := { row := numOnesUptoRow, standIns := [], harness := (true, "e39a93ac8bc008730899170376c441043be9ab35c05fba04839ee03495337585"), looks := false }, kinds := [], alts := [], laidByText := true, laidKinds := [.data, .data, .data], laidTests := true, laidLooks := .later }
def NumOnesUptoCardSaid : Prop := Claim7.holds Tryd.pinned (.plain (OpenSpec.upto numOnesSpec)) numOnesUptoCard

/-- THE SECOND FORM's CARD OF 'tapestrierlaw3.NumRises'. -/
def numRisesUptoCard : Claim7 := { stood := { row := numRisesUptoRow, standIns := [], harness := (true, "e39a93ac8bc008730899170376c441043be9ab35c05fba04839ee03495337585"), looks := false }, kinds := [], alts := [], laidByText := true, laidKinds := [.data, .data, .data], laidTests := true, laidLooks := .later }
def NumRisesUptoCardSaid : Prop := Claim7.holds Tryd.pinned (.plain (OpenSpec.upto numRisesSpec)) numRisesUptoCard
end Rows
end Go.Proofs.YtnddjcpnaeekcaaDoor
