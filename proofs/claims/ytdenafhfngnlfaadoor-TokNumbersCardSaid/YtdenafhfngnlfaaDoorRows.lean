/-
  NARROWER THAN 'FOR EVERY INPUT', by the rows' own cells (each row's printed sentence says how): TokNames: laid · TokStrings: laid · TokNumbers: laid · TokComments: laid · TokEscapes: laid · TokSigns: laid · TokParts: laid · TokWhite: laid.
  DERIVED. THE GIVEN ROWS OF THIS SEAT. 8 by the template 'for every input the law returns true; each argument reads behind the call as it read before'; 0 by the template 'total and deterministic' (their statements: YtdenafhfngnlfaaDoorTotals.lean).
  GIVEN WITH THE SEED: the statements are not yours to turn. If you find one false, say at which input.
  Laid BY PROGRAM, IN A SANDBOX (cutbox-rows.mjs): the forced cells as the released guide's own fill.sh prints them over the translation 5ea339476ee064e8… (all of the seat's roots in one cut). By AI agents, Wed Nov 11 2026. No macro, syntax, notation, axiom, sorry.
-/
import Derived.Test.YtdenafhfngnlfaaDoorChecked
import GoSem.PinnedTables
import GoSem.Claim
import GoSem.ClaimJoined
import GoSem.ClaimMapViews
import Derived.JoinedTies
import Derived.KernelRfl
namespace Go.Proofs.YtdenafhfngnlfaaDoor
/- THE CELL 'sum', in the pinned program and in every row, IS THE sha256 OF THE DUMP (.gsa) THAT YtdenafhfngnlfaaDoorProg.lean LOADS. Nothing in Lean hashes anything: it is a label: what it is worth is what the hold of that sum in a sandbox is worth. -/
noncomputable def Tryd.pinned : Pinned := { name := "ytdenafhfngnlfaadoor", sum := "5ea339476ee064e8ccc06a5b4855e65fc356b1b78bdb194e93c555e0b51b9ad3", checked := Tryd.checked }
namespace Rows
def none {H : Type} : Left H := { results := [], args := [] }

/- WHAT THE LISTED PACKAGE-LEVEL VARIABLES READ AS WHEN THE CALL BEGINS. Each datum BY PROGRAM (the guide's laid-datum.mjs) off the statement by which the dump's own 'gosem.cut.vars' lays the variable. In a bare row this is a premise. The card (YtdenafhfngnlfaaDoorCards.lean) ties it to the program's text. -/
def laid_unicode_utf8_acceptRanges {H : Type} : DataW H := .agg [.agg [.lit (.int .u8 128), .lit (.int .u8 191)], .agg [.lit (.int .u8 160), .lit (.int .u8 191)], .agg [.lit (.int .u8 128), .lit (.int .u8 159)], .agg [.lit (.int .u8 144), .lit (.int .u8 191)], .agg [.lit (.int .u8 128), .lit (.int .u8 143)], .agg [.lit (.int .u8 0), .lit (.int .u8 0)], .agg [.lit (.int .u8 0), .lit (.int .u8 0)], .agg [.lit (.int .u8 0), .lit (.int .u8 0)], .agg [.lit (.int .u8 0), .lit (.int .u8 0)], .agg [.lit (.int .u8 0), .lit (.int .u8 0)], .agg [.lit (.int .u8 0), .lit (.int .u8 0)], .agg [.lit (.int .u8 0), .lit (.int .u8 0)], .agg [.lit (.int .u8 0), .lit (.int .u8 0)], .agg [.lit (.int .u8 0), .lit (.int .u8 0)], .agg [.lit (.int .u8 0), .lit (.int .u8 0)], .agg [.lit (.int .u8 0), .lit (.int .u8 0)]]
/-- One of Go's own tables, pinned by name: the form's constant. -/
def laid_unicode_utf8_first : DataW Unit := Go.Pinned.utf8First

/-- 'tapestrierlaw4.TokNames': WHATEVER THE INPUT: true; the input reads as it did. -/
def tokNamesSpec : ChangeSpec := { name := "tokNames", fn := fun _ => fun
  | [d1, d2] => { results := [.lit (.bool true)], args := [d1, d2] }
  | _ => none }
def tokNamesRow : OpenClaim := { program := "ytdenafhfngnlfaadoor", sum := "5ea339476ee064e8ccc06a5b4855e65fc356b1b78bdb194e93c555e0b51b9ad3", func := "tapestrier/tapestrierlaw4.TokNames", spec := "tokNames", inPlace := ["internal/bytealg.IndexByteString", "internal/bytealg.IndexString"], unfollowed := true, recurses := true, named := ["unicode/utf8.first", "unicode/utf8.acceptRanges", "internal/bytealg.MaxLen"], apart := false, laid := [("unicode/utf8.acceptRanges", laid_unicode_utf8_acceptRanges), ("unicode/utf8.first", laid_unicode_utf8_first)] }
def TokNamesSaid : Prop := tokNamesRow.holds Tryd.pinned (OpenSpec.ofChange tokNamesSpec)

/-- ITS FALSE NEIGHBOUR: 'it returns false'. Refute it at one input. -/
def tokNamesWrong : ChangeSpec := { name := "tokNames", fn := fun _ => fun
  | [d1, d2] => { results := [.lit (.bool false)], args := [d1, d2] }
  | _ => none }
def TokNamesWrongFalsely : Prop := tokNamesRow.holds Tryd.pinned (OpenSpec.ofChange tokNamesWrong)

/-- 'tapestrierlaw4.TokStrings': WHATEVER THE INPUT: true; the input reads as it did. -/
def tokStringsSpec : ChangeSpec := { name := "tokStrings", fn := fun _ => fun
  | [d1, d2, d3] => { results := [.lit (.bool true)], args := [d1, d2, d3] }
  | _ => none }
def tokStringsRow : OpenClaim := { program := "ytdenafhfngnlfaadoor", sum := "5ea339476ee064e8ccc06a5b4855e65fc356b1b78bdb194e93c555e0b51b9ad3", func := "tapestrier/tapestrierlaw4.TokStrings", spec := "tokStrings", inPlace := ["internal/bytealg.IndexByteString", "internal/bytealg.IndexString"], unfollowed := true, recurses := true, named := ["unicode/utf8.first", "unicode/utf8.acceptRanges", "internal/bytealg.MaxLen"], apart := false, laid := [("unicode/utf8.acceptRanges", laid_unicode_utf8_acceptRanges), ("unicode/utf8.first", laid_unicode_utf8_first)] }
def TokStringsSaid : Prop := tokStringsRow.holds Tryd.pinned (OpenSpec.ofChange tokStringsSpec)

/-- ITS FALSE NEIGHBOUR: 'it returns false'. Refute it at one input. -/
def tokStringsWrong : ChangeSpec := { name := "tokStrings", fn := fun _ => fun
  | [d1, d2, d3] => { results := [.lit (.bool false)], args := [d1, d2, d3] }
  | _ => none }
def TokStringsWrongFalsely : Prop := tokStringsRow.holds Tryd.pinned (OpenSpec.ofChange tokStringsWrong)

/-- 'tapestrierlaw4.TokNumbers': WHATEVER THE INPUT: true; the input reads as it did. -/
def tokNumbersSpec : ChangeSpec := { name := "tokNumbers", fn := fun _ => fun
  | [d1, d2, d3, d4] => { results := [.lit (.bool true)], args := [d1, d2, d3, d4] }
  | _ => none }
def tokNumbersRow : OpenClaim := { program := "ytdenafhfngnlfaadoor", sum := "5ea339476ee064e8ccc06a5b4855e65fc356b1b78bdb194e93c555e0b51b9ad3", func := "tapestrier/tapestrierlaw4.TokNumbers", spec := "tokNumbers", inPlace := ["internal/bytealg.IndexByteString", "internal/bytealg.IndexString"], unfollowed := true, recurses := true, named := ["unicode/utf8.first", "unicode/utf8.acceptRanges", "internal/bytealg.MaxLen"], apart := false, laid := [("unicode/utf8.acceptRanges", laid_unicode_utf8_acceptRanges), ("unicode/utf8.first", laid_unicode_utf8_first)] }
def TokNumbersSaid : Prop := tokNumbersRow.holds Tryd.pinned (OpenSpec.ofChange tokNumbersSpec)

/-- ITS FALSE NEIGHBOUR: 'it returns false'. Refute it at one input. -/
def tokNumbersWrong : ChangeSpec := { name := "tokNumbers", fn := fun _ => fun
  | [d1, d2, d3, d4] => { results := [.lit (.bool false)], args := [d1, d2, d3, d4] }
  | _ => none }
def TokNumbersWrongFalsely : Prop := tokNumbersRow.holds Tryd.pinned (OpenSpec.ofChange tokNumbersWrong)

/-- 'tapestrierlaw4.TokComments': WHATEVER THE INPUT: true; the input reads as it did. -/
def tokCommentsSpec : ChangeSpec := { name := "tokComments", fn := fun _ => fun
  | [d1, d2, d3] => { results := [.lit (.bool true)], args := [d1, d2, d3] }
  | _ => none }
def tokCommentsRow : OpenClaim := { program := "ytdenafhfngnlfaadoor", sum := "5ea339476ee064e8ccc06a5b4855e65fc356b1b78bdb194e93c555e0b51b9ad3", func := "tapestrier/tapestrierlaw4.TokComments", spec := "tokComments", inPlace := ["internal/bytealg.IndexByteString", "internal/bytealg.IndexString"], unfollowed := true, recurses := true, named := ["unicode/utf8.first", "unicode/utf8.acceptRanges", "internal/bytealg.MaxLen"], apart := false, laid := [("unicode/utf8.acceptRanges", laid_unicode_utf8_acceptRanges), ("unicode/utf8.first", laid_unicode_utf8_first)] }
def TokCommentsSaid : Prop := tokCommentsRow.holds Tryd.pinned (OpenSpec.ofChange tokCommentsSpec)

/-- ITS FALSE NEIGHBOUR: 'it returns false'. Refute it at one input. -/
def tokCommentsWrong : ChangeSpec := { name := "tokComments", fn := fun _ => fun
  | [d1, d2, d3] => { results := [.lit (.bool false)], args := [d1, d2, d3] }
  | _ => none }
def TokCommentsWrongFalsely : Prop := tokCommentsRow.holds Tryd.pinned (OpenSpec.ofChange tokCommentsWrong)

/-- 'tapestrierlaw4.TokEscapes': WHATEVER THE INPUT: true; the input reads as it did. -/
def tokEscapesSpec : ChangeSpec := { name := "tokEscapes", fn := fun _ => fun
  | [d1, d2] => { results := [.lit (.bool true)], args := [d1, d2] }
  | _ => none }
def tokEscapesRow : OpenClaim := { program := "ytdenafhfngnlfaadoor", sum := "5ea339476ee064e8ccc06a5b4855e65fc356b1b78bdb194e93c555e0b51b9ad3", func := "tapestrier/tapestrierlaw4.TokEscapes", spec := "tokEscapes", inPlace := ["internal/bytealg.IndexByteString", "internal/bytealg.IndexString"], unfollowed := true, recurses := true, named := ["unicode/utf8.first", "unicode/utf8.acceptRanges", "internal/bytealg.MaxLen"], apart := false, laid := [("unicode/utf8.acceptRanges", laid_unicode_utf8_acceptRanges), ("unicode/utf8.first", laid_unicode_utf8_first)] }
def TokEscapesSaid : Prop := tokEscapesRow.holds Tryd.pinned (OpenSpec.ofChange tokEscapesSpec)

/-- ITS FALSE NEIGHBOUR: 'it returns false'. Refute it at one input. -/
def tokEscapesWrong : ChangeSpec := { name := "tokEscapes", fn := fun _ => fun
  | [d1, d2] => { results := [.lit (.bool false)], args := [d1, d2] }
  | _ => none }
def TokEscapesWrongFalsely : Prop := tokEscapesRow.holds Tryd.pinned (OpenSpec.ofChange tokEscapesWrong)

/-- 'tapestrierlaw4.TokSigns': WHATEVER THE INPUT: true; the input reads as it did. -/
def tokSignsSpec : ChangeSpec := { name := "tokSigns", fn := fun _ => fun
  | [d] => { results := [.lit (.bool true)], args := [d] }
  | _ => none }
def tokSignsRow : OpenClaim := { program := "ytdenafhfngnlfaadoor", sum := "5ea339476ee064e8ccc06a5b4855e65fc356b1b78bdb194e93c555e0b51b9ad3", func := "tapestrier/tapestrierlaw4.TokSigns", spec := "tokSigns", inPlace := ["internal/bytealg.IndexByteString", "internal/bytealg.IndexString"], unfollowed := true, recurses := true, named := ["unicode/utf8.first", "unicode/utf8.acceptRanges", "internal/bytealg.MaxLen"], apart := false, laid := [("unicode/utf8.acceptRanges", laid_unicode_utf8_acceptRanges), ("unicode/utf8.first", laid_unicode_utf8_first)] }
def TokSignsSaid : Prop := tokSignsRow.holds Tryd.pinned (OpenSpec.ofChange tokSignsSpec)

/-- ITS FALSE NEIGHBOUR: 'it returns false'. Refute it at one input. -/
def tokSignsWrong : ChangeSpec := { name := "tokSigns", fn := fun _ => fun
  | [d] => { results := [.lit (.bool false)], args := [d] }
  | _ => none }
def TokSignsWrongFalsely : Prop := tokSignsRow.holds Tryd.pinned (OpenSpec.ofChange tokSignsWrong)

/-- 'tapestrierlaw4.TokParts': WHATEVER THE INPUT: true; the input reads as it did. -/
def tokPartsSpec : ChangeSpec := { name := "tokParts", fn := fun _ => fun
  | [d1, d2] => { results := [.lit (.bool true)], args := [d1, d2] }
  | _ => none }
def tokPartsRow : OpenClaim := { program := "ytdenafhfngnlfaadoor", sum := "5ea339476ee064e8ccc06a5b4855e65fc356b1b78bdb194e93c555e0b51b9ad3", func := "tapestrier/tapestrierlaw4.TokParts", spec := "tokParts", inPlace := ["internal/bytealg.IndexByteString", "internal/bytealg.IndexString"], unfollowed := true, recurses := true, named := ["unicode/utf8.first", "unicode/utf8.acceptRanges", "internal/bytealg.MaxLen"], apart := false, laid := [("unicode/utf8.acceptRanges", laid_unicode_utf8_acceptRanges), ("unicode/utf8.first", laid_unicode_utf8_first)] }
def TokPartsSaid : Prop := tokPartsRow.holds Tryd.pinned (OpenSpec.ofChange tokPartsSpec)

/-- ITS FALSE NEIGHBOUR: 'it returns false'. Refute it at one input. -/
def tokPartsWrong : ChangeSpec := { name := "tokParts", fn := fun _ => fun
  | [d1, d2] => { results := [.lit (.bool false)], args := [d1, d2] }
  | _ => none }
def TokPartsWrongFalsely : Prop := tokPartsRow.holds Tryd.pinned (OpenSpec.ofChange tokPartsWrong)

/-- 'tapestrierlaw4.TokWhite': WHATEVER THE INPUT: true; the input reads as it did. -/
def tokWhiteSpec : ChangeSpec := { name := "tokWhite", fn := fun _ => fun
  | [d] => { results := [.lit (.bool true)], args := [d] }
  | _ => none }
def tokWhiteRow : OpenClaim := { program := "ytdenafhfngnlfaadoor", sum := "5ea339476ee064e8ccc06a5b4855e65fc356b1b78bdb194e93c555e0b51b9ad3", func := "tapestrier/tapestrierlaw4.TokWhite", spec := "tokWhite", inPlace := ["internal/bytealg.IndexByteString", "internal/bytealg.IndexString"], unfollowed := true, recurses := true, named := ["unicode/utf8.first", "unicode/utf8.acceptRanges", "internal/bytealg.MaxLen"], apart := false, laid := [("unicode/utf8.acceptRanges", laid_unicode_utf8_acceptRanges), ("unicode/utf8.first", laid_unicode_utf8_first)] }
def TokWhiteSaid : Prop := tokWhiteRow.holds Tryd.pinned (OpenSpec.ofChange tokWhiteSpec)

/-- ITS FALSE NEIGHBOUR: 'it returns false'. Refute it at one input. -/
def tokWhiteWrong : ChangeSpec := { name := "tokWhite", fn := fun _ => fun
  | [d] => { results := [.lit (.bool false)], args := [d] }
  | _ => none }
def TokWhiteWrongFalsely : Prop := tokWhiteRow.holds Tryd.pinned (OpenSpec.ofChange tokWhiteWrong)

/- THE SECOND FORM. 'bulk': how many values and letters a reading holds, each counted each time it is reached (what is shared counts as often as it is met; a slice's spare places count too). A statement '..UptoSaid' is the law's where the arguments, and the package variables that the reading takes, are together of bulk at most 1048576: NARROWER than '..Said'. Prove '..Said' where nothing that the law and all that it calls make is longer than what came in: it says more and counts as full. Else prove '..UptoSaid'. A law counts once. -/
mutual
def uptoBulk {H : Type} : DataW H → Nat
  | .lit (.string bytes) => bytes.length + 1
  | .lit _ => 1
  | .nil => 1
  | .ptr d => uptoBulk d + 1
  | .slice elems spare => uptoBulkAll elems + uptoBulkAll spare + 1
  | .agg parts => uptoBulkAll parts + 1
  | .iface _ d => uptoBulk d + 1
  | .map entries => uptoBulkEntries entries + 1
  | .held _ => 1
def uptoBulkAll {H : Type} : List (DataW H) → Nat
  | [] => 0
  | d :: r => uptoBulk d + uptoBulkAll r
def uptoBulkEntries {H : Type} : List (Lit × DataW H) → Nat
  | [] => 0
  | x :: r => uptoBulkEntry x + uptoBulkEntries r
def uptoBulkEntry {H : Type} : Lit × DataW H → Nat
  | (.string bytes, d) => bytes.length + uptoBulk d + 1
  | (_, d) => uptoBulk d + 1
 end
def uptoSmall : (H : Type) → List (DataW H) → Bool := fun _ ds => decide (uptoBulkAll ds ≤ 1048576)
def OpenSpec.upto (s : _root_.Go.ChangeSpec) : _root_.Go.OpenSpec := { _root_.Go.OpenSpec.ofChange s with cond := some uptoSmall }

/-- 'tapestrierlaw4.TokNames', WHERE WHAT IT READS IS OF BULK AT MOST 1048576: true; the input reads as it did. -/
def tokNamesUptoRow : OpenClaim := { program := "ytdenafhfngnlfaadoor", sum := "5ea339476ee064e8ccc06a5b4855e65fc356b1b78bdb194e93c555e0b51b9ad3", func := "tapestrier/tapestrierlaw4.TokNames", spec := "tokNames", inPlace := ["internal/bytealg.IndexByteString", "internal/bytealg.IndexString"], unfollowed := true, recurses := true, named := ["unicode/utf8.first", "unicode/utf8.acceptRanges", "internal/bytealg.MaxLen"], apart := false, laid := [("unicode/utf8.acceptRanges", laid_unicode_utf8_acceptRanges), ("unicode/utf8.first", laid_unicode_utf8_first)], narrowed := true }
def TokNamesUptoSaid : Prop := tokNamesUptoRow.holds Tryd.pinned (OpenSpec.upto tokNamesSpec)

/-- 'tapestrierlaw4.TokStrings', WHERE WHAT IT READS IS OF BULK AT MOST 1048576: true; the input reads as it did. -/
def tokStringsUptoRow : OpenClaim := { program := "ytdenafhfngnlfaadoor", sum := "5ea339476ee064e8ccc06a5b4855e65fc356b1b78bdb194e93c555e0b51b9ad3", func := "tapestrier/tapestrierlaw4.TokStrings", spec := "tokStrings", inPlace := ["internal/bytealg.IndexByteString", "internal/bytealg.IndexString"], unfollowed := true, recurses := true, named := ["unicode/utf8.first", "unicode/utf8.acceptRanges", "internal/bytealg.MaxLen"], apart := false, laid := [("unicode/utf8.acceptRanges", laid_unicode_utf8_acceptRanges), ("unicode/utf8.first", laid_unicode_utf8_first)], narrowed := true }
def TokStringsUptoSaid : Prop := tokStringsUptoRow.holds Tryd.pinned (OpenSpec.upto tokStringsSpec)

/-- 'tapestrierlaw4.TokNumbers', WHERE WHAT IT READS IS OF BULK AT MOST 1048576: true; the input reads as it did. -/
def tokNumbersUptoRow : OpenClaim := { program := "ytdenafhfngnlfaadoor", sum := "5ea339476ee064e8ccc06a5b4855e65fc356b1b78bdb194e93c555e0b51b9ad3", func := "tapestrier/tapestrierlaw4.TokNumbers", spec := "tokNumbers", inPlace := ["internal/bytealg.IndexByteString", "internal/bytealg.IndexString"], unfollowed := true, recurses := true, named := ["unicode/utf8.first", "unicode/utf8.acceptRanges", "internal/bytealg.MaxLen"], apart := false, laid := [("unicode/utf8.acceptRanges", laid_unicode_utf8_acceptRanges), ("unicode/utf8.first", laid_unicode_utf8_first)], narrowed := true }
def TokNumbersUptoSaid : Prop := tokNumbersUptoRow.holds Tryd.pinned (OpenSpec.upto tokNumbersSpec)

/-- 'tapestrierlaw4.TokComments', WHERE WHAT IT READS IS OF BULK AT MOST 1048576: true; the input reads as it did. -/
def tokCommentsUptoRow : OpenClaim := { program := "ytdenafhfngnlfaadoor", sum := "5ea339476ee064e8ccc06a5b4855e65fc356b1b78bdb194e93c555e0b51b9ad3", func := "tapestrier/tapestrierlaw4.TokComments", spec := "tokComments", inPlace := ["internal/bytealg.IndexByteString", "internal/bytealg.IndexString"], unfollowed := true, recurses := true, named := ["unicode/utf8.first", "unicode/utf8.acceptRanges", "internal/bytealg.MaxLen"], apart := false, laid := [("unicode/utf8.acceptRanges", laid_unicode_utf8_acceptRanges), ("unicode/utf8.first", laid_unicode_utf8_first)], narrowed := true }
def TokCommentsUptoSaid : Prop := tokCommentsUptoRow.holds Tryd.pinned (OpenSpec.upto tokCommentsSpec)

/-- 'tapestrierlaw4.TokEscapes', WHERE WHAT IT READS IS OF BULK AT MOST 1048576: true; the input reads as it did. -/
def tokEscapesUptoRow : OpenClaim := { program := "ytdenafhfngnlfaadoor", sum := "5ea339476ee064e8ccc06a5b4855e65fc356b1b78bdb194e93c555e0b51b9ad3", func := "tapestrier/tapestrierlaw4.TokEscapes", spec := "tokEscapes", inPlace := ["internal/bytealg.IndexByteString", "internal/bytealg.IndexString"], unfollowed := true, recurses := true, named := ["unicode/utf8.first", "unicode/utf8.acceptRanges", "internal/bytealg.MaxLen"], apart := false, laid := [("unicode/utf8.acceptRanges", laid_unicode_utf8_acceptRanges), ("unicode/utf8.first", laid_unicode_utf8_first)], narrowed := true }
def TokEscapesUptoSaid : Prop := tokEscapesUptoRow.holds Tryd.pinned (OpenSpec.upto tokEscapesSpec)

/-- 'tapestrierlaw4.TokSigns', WHERE WHAT IT READS IS OF BULK AT MOST 1048576: true; the input reads as it did. -/
def tokSignsUptoRow : OpenClaim := { program := "ytdenafhfngnlfaadoor", sum := "5ea339476ee064e8ccc06a5b4855e65fc356b1b78bdb194e93c555e0b51b9ad3", func := "tapestrier/tapestrierlaw4.TokSigns", spec := "tokSigns", inPlace := ["internal/bytealg.IndexByteString", "internal/bytealg.IndexString"], unfollowed := true, recurses := true, named := ["unicode/utf8.first", "unicode/utf8.acceptRanges", "internal/bytealg.MaxLen"], apart := false, laid := [("unicode/utf8.acceptRanges", laid_unicode_utf8_acceptRanges), ("unicode/utf8.first", laid_unicode_utf8_first)], narrowed := true }
def TokSignsUptoSaid : Prop := tokSignsUptoRow.holds Tryd.pinned (OpenSpec.upto tokSignsSpec)

/-- 'tapestrierlaw4.TokParts', WHERE WHAT IT READS IS OF BULK AT MOST 1048576: true; the input reads as it did. -/
def tokPartsUptoRow : OpenClaim := { program := "ytdenafhfngnlfaadoor", sum := "5ea339476ee064e8ccc06a5b4855e65fc356b1b78bdb194e93c555e0b51b9ad3", func := "tapestrier/tapestrierlaw4.TokParts", spec := "tokParts", inPlace := ["internal/bytealg.IndexByteString", "internal/bytealg.IndexString"], unfollowed := true, recurses := true, named := ["unicode/utf8.first", "unicode/utf8.acceptRanges", "internal/bytealg.MaxLen"], apart := false, laid := [("unicode/utf8.acceptRanges", laid_unicode_utf8_acceptRanges), ("unicode/utf8.first", laid_unicode_utf8_first)], narrowed := true }
def TokPartsUptoSaid : Prop := tokPartsUptoRow.holds Tryd.pinned (OpenSpec.upto tokPartsSpec)

/-- 'tapestrierlaw4.TokWhite', WHERE WHAT IT READS IS OF BULK AT MOST 1048576: true; the input reads as it did. -/
def tokWhiteUptoRow : OpenClaim := { program := "ytdenafhfngnlfaadoor", sum := "5ea339476ee064e8ccc06a5b4855e65fc356b1b78bdb194e93c555e0b51b9ad3", func := "tapestrier/tapestrierlaw4.TokWhite", spec := "tokWhite", inPlace := ["internal/bytealg.IndexByteString", "internal/bytealg.IndexString"], unfollowed := true, recurses := true, named := ["unicode/utf8.first", "unicode/utf8.acceptRanges", "internal/bytealg.MaxLen"], apart := false, laid := [("unicode/utf8.acceptRanges", laid_unicode_utf8_acceptRanges), ("unicode/utf8.first", laid_unicode_utf8_first)], narrowed := true }
def TokWhiteUptoSaid : Prop := tokWhiteUptoRow.holds Tryd.pinned (OpenSpec.upto tokWhiteSpec)

end Rows
end Go.Proofs.YtdenafhfngnlfaaDoor
