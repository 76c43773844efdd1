/-
  DERIVED. GIVEN WITH THE SEED: THE CARDS: each row of YtlhegfkpgchaeaaGreatDoorRows.lean that lists a variable, with what it lists TIED to the program's text (the seventh form; the later family's looks); each row that meets fmt, with fmt's text TOLD by the authors' own Lean function (tested against real Go, not proved from fmt's source: count such statements apart). THE CARD IS WHAT COUNTS. Prove the row's statement (the work); the ties are given (YtlhegfkpgchaeaaGreatDoorTie.lean); close each card by the builder's one call (the guide's Derived/Test/ToyasCard.lean, 'card_holds'). Laid BY PROGRAM, IN A SANDBOX (cutbox-door.mjs). By AI agents, Wed Nov 11 2026. No macro, syntax, notation, axiom, sorry.
-/
import Derived.Test.YtlhegfkpgchaeaaGreatDoorRows
import GoSem.ClaimSeven
namespace Go.Proofs.YtlhegfkpgchaeaaGreatDoor
namespace Rows

/-- THE TIED CARD OF 'tapestrierlaw8.SelSheet'. -/
def selSheetCard : Claim7 := { stood := { row := selSheetRow, standIns := [], harness := (true, "fa9d55a700b8151f5cebcc45e37d4b525c3f3a3a77e810a902ccb528af6664c1"), looks := true }, kinds := [], alts := [], laidByText := true, laidKinds := [.data, .data, .data, .data, .sentinel, .sentinel, .pinned], laidTests := true, laidLooks := .later }
def SelSheetCardSaid : Prop := Claim7.holds Tryz.pinned (.plain (OpenSpec.ofChange selSheetSpec)) selSheetCard

/-- THE TIED CARD OF 'tapestrierlaw8.SelRules'. -/
def selRulesCard : Claim7 := { stood := { row := selRulesRow, standIns := [], harness := (true, "fa9d55a700b8151f5cebcc45e37d4b525c3f3a3a77e810a902ccb528af6664c1"), looks := true }, kinds := [], alts := [], laidByText := true, laidKinds := [.data, .data, .data, .data, .sentinel, .sentinel, .pinned], laidTests := true, laidLooks := .later }
def SelRulesCardSaid : Prop := Claim7.holds Tryz.pinned (.plain (OpenSpec.ofChange selRulesSpec)) selRulesCard

/-- THE SECOND FORM's CARD OF 'tapestrierlaw8.SelSheet'. -/
def selSheetUptoCard : Claim7 := { stood := { row := selSheetUptoRow, standIns := [], harness := (true, "fa9d55a700b8151f5cebcc45e37d4b525c3f3a3a77e810a902ccb528af6664c1"), looks := true }, kinds := [], alts := [], laidByText := true, laidKinds := [.data, .data, .data, .data, .sentinel, .sentinel, .pinned], laidTests := true, laidLooks := .later }
def SelSheetUptoCardSaid : Prop := Claim7.holds Tryz.pinned (.plain (OpenSpec.upto selSheetSpec)) selSheetUptoCard

/-- THE SECOND FORM's CARD OF 'tapestrierlaw8.SelRules'. -/
def selRulesUptoCard : Claim7 := { stood := { row := selRulesUptoRow, standIns := [], harness := (true, "fa9d55a700b8151f5cebcc45e37d4b525c3f3a3a77e810a902ccb528af6664c1"), looks := true }, kinds := [], alts := [], laidByText := true, laidKinds := [.data, .data, .data, .data, .sentinel, .sentinel, .pinned], laidTests := true, laidLooks := .later }
def SelRulesUptoCardSaid : Prop := Claim7.holds Tryz.pinned (.plain (OpenSpec.upto selRulesSpec)) selRulesUptoCard
end Rows
end Go.Proofs.YtlhegfkpgchaeaaGreatDoor
