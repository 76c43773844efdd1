/-
  NARROWER THAN 'FOR EVERY INPUT', by the rows' own cells (each row's printed sentence says how): TokNames: laid · TokStrings: laid · TokNumbers: laid · TokComments: laid · TokEscapes: laid · TokSigns: laid · TokParts: laid · TokWhite: laid · TokReads: laid · TokPoints: laid · TokKinds: laid.
  DERIVED. THE GIVEN ROWS OF THIS SEAT. 11 by the template 'for every input the law returns true; each argument reads behind the call as it read before'; 0 by the template 'total and deterministic' (their statements: YtpkgnaajcibgnaaDoorTotals.lean).
  GIVEN WITH THE SEED: the statements are not yours to turn. If you find one false, say at which input.
  Laid BY PROGRAM, IN A SANDBOX (cutbox-rows.mjs): the forced cells as the released guide's own fill.sh prints them over the translation f5f14a736e147798… (all of the seat's roots in one cut). By AI agents, Wed Nov 11 2026. No macro, syntax, notation, axiom, sorry.
-/
import Derived.Test.YtpkgnaajcibgnaaDoorChecked
import GoSem.PinnedTables
import GoSem.Claim
import GoSem.ClaimJoined
import GoSem.ClaimMapViews
import Derived.JoinedTies
import Derived.KernelRfl
namespace Go.Proofs.YtpkgnaajcibgnaaDoor
/- THE CELL 'sum', in the pinned program and in every row, IS THE sha256 OF THE DUMP (.gsa) THAT YtpkgnaajcibgnaaDoorProg.lean LOADS. Nothing in Lean hashes anything: it is a label: what it is worth is what the hold of that sum in a sandbox is worth. -/
noncomputable def Tryd.pinned : Pinned := { name := "ytpkgnaajcibgnaadoor", sum := "f5f14a736e14779878db0036480a74139bde7f95ec792d75fac9a60de57b21ec", checked := Tryd.checked }
namespace Rows
def none {H : Type} : Left H := { results := [], args := [] }

/- WHAT THE LISTED PACKAGE-LEVEL VARIABLES READ AS WHEN THE CALL BEGINS. Each datum BY PROGRAM (the guide's laid-datum.mjs) off the statement by which the dump's own 'gosem.cut.vars' lays the variable. In a bare row this is a premise. The card (YtpkgnaajcibgnaaDoorCards.lean) ties it to the program's text. -/
def laid_unicode_utf8_acceptRanges {H : Type} : DataW H := .agg [.agg [.lit (.int .u8 128), .lit (.int .u8 191)], .agg [.lit (.int .u8 160), .lit (.int .u8 191)], .agg [.lit (.int .u8 128), .lit (.int .u8 159)], .agg [.lit (.int .u8 144), .lit (.int .u8 191)], .agg [.lit (.int .u8 128), .lit (.int .u8 143)], .agg [.lit (.int .u8 0), .lit (.int .u8 0)], .agg [.lit (.int .u8 0), .lit (.int .u8 0)], .agg [.lit (.int .u8 0), .lit (.int .u8 0)], .agg [.lit (.int .u8 0), .lit (.int .u8 0)], .agg [.lit (.int .u8 0), .lit (.int .u8 0)], .agg [.lit (.int .u8 0), .lit (.int .u8 0)], .agg [.lit (.int .u8 0), .lit (.int .u8 0)], .agg [.lit (.int .u8 0), .lit (.int .u8 0)], .agg [.lit (.int .u8 0), .lit (.int .u8 0)], .agg [.lit (.int .u8 0), .lit (.int .u8 0)], .agg [.lit (.int .u8 0), .lit (.int .u8 0)]]
/-- One of Go's own tables, pinned by name: the form's constant. -/
def laid_unicode_utf8_first : DataW Unit := Go.Pinned.utf8First
def laid_math_bits_deBruijn32tab {H : Type} : DataW H := .agg [.lit (.int .u8 0), .lit (.int .u8 1), .lit (.int .u8 28), .lit (.int .u8 2), .lit (.int .u8 29), .lit (.int .u8 14), .lit (.int .u8 24), .lit (.int .u8 3), .lit (.int .u8 30), .lit (.int .u8 22), .lit (.int .u8 20), .lit (.int .u8 15), .lit (.int .u8 25), .lit (.int .u8 17), .lit (.int .u8 4), .lit (.int .u8 8), .lit (.int .u8 31), .lit (.int .u8 27), .lit (.int .u8 13), .lit (.int .u8 23), .lit (.int .u8 21), .lit (.int .u8 19), .lit (.int .u8 16), .lit (.int .u8 7), .lit (.int .u8 26), .lit (.int .u8 12), .lit (.int .u8 18), .lit (.int .u8 6), .lit (.int .u8 11), .lit (.int .u8 5), .lit (.int .u8 10), .lit (.int .u8 9)]
def laid_math_bits_deBruijn64tab {H : Type} : DataW H := .agg [.lit (.int .u8 0), .lit (.int .u8 1), .lit (.int .u8 56), .lit (.int .u8 2), .lit (.int .u8 57), .lit (.int .u8 49), .lit (.int .u8 28), .lit (.int .u8 3), .lit (.int .u8 61), .lit (.int .u8 58), .lit (.int .u8 42), .lit (.int .u8 50), .lit (.int .u8 38), .lit (.int .u8 29), .lit (.int .u8 17), .lit (.int .u8 4), .lit (.int .u8 62), .lit (.int .u8 47), .lit (.int .u8 59), .lit (.int .u8 36), .lit (.int .u8 45), .lit (.int .u8 43), .lit (.int .u8 51), .lit (.int .u8 22), .lit (.int .u8 53), .lit (.int .u8 39), .lit (.int .u8 33), .lit (.int .u8 30), .lit (.int .u8 24), .lit (.int .u8 18), .lit (.int .u8 12), .lit (.int .u8 5), .lit (.int .u8 63), .lit (.int .u8 55), .lit (.int .u8 48), .lit (.int .u8 27), .lit (.int .u8 60), .lit (.int .u8 41), .lit (.int .u8 37), .lit (.int .u8 16), .lit (.int .u8 46), .lit (.int .u8 35), .lit (.int .u8 44), .lit (.int .u8 21), .lit (.int .u8 52), .lit (.int .u8 32), .lit (.int .u8 23), .lit (.int .u8 11), .lit (.int .u8 54), .lit (.int .u8 26), .lit (.int .u8 40), .lit (.int .u8 15), .lit (.int .u8 34), .lit (.int .u8 20), .lit (.int .u8 31), .lit (.int .u8 10), .lit (.int .u8 25), .lit (.int .u8 14), .lit (.int .u8 19), .lit (.int .u8 9), .lit (.int .u8 13), .lit (.int .u8 8), .lit (.int .u8 7), .lit (.int .u8 6)]
def laid_internal_strconv_uint64pow10 {H : Type} : DataW H := .agg [.lit (.int .u64 1), .lit (.int .u64 10), .lit (.int .u64 100), .lit (.int .u64 1000), .lit (.int .u64 10000), .lit (.int .u64 100000), .lit (.int .u64 1000000), .lit (.int .u64 10000000), .lit (.int .u64 100000000), .lit (.int .u64 1000000000), .lit (.int .u64 10000000000), .lit (.int .u64 100000000000), .lit (.int .u64 1000000000000), .lit (.int .u64 10000000000000), .lit (.int .u64 100000000000000), .lit (.int .u64 1000000000000000), .lit (.int .u64 10000000000000000), .lit (.int .u64 100000000000000000), .lit (.int .u64 1000000000000000000), .lit (.int .u64 10000000000000000000)]

/-- 'tapestrierlaw4.TokNames': WHATEVER THE INPUT: true; the input reads as it did. -/
def tokNamesSpec : ChangeSpec := { name := "tokNames", fn := fun _ => fun
  | [d1, d2] => { results := [.lit (.bool true)], args := [d1, d2] }
  | _ => none }
def tokNamesRow : OpenClaim := { program := "ytpkgnaajcibgnaadoor", sum := "f5f14a736e14779878db0036480a74139bde7f95ec792d75fac9a60de57b21ec", func := "tapestrier/tapestrierlaw4.TokNames", spec := "tokNames", inPlace := ["internal/bytealg.IndexByteString", "internal/bytealg.IndexString"], unfollowed := true, recurses := true, named := ["unicode/utf8.first", "unicode/utf8.acceptRanges", "internal/bytealg.MaxLen"], apart := false, laid := [("unicode/utf8.acceptRanges", laid_unicode_utf8_acceptRanges), ("unicode/utf8.first", laid_unicode_utf8_first)] }
def TokNamesSaid : Prop := tokNamesRow.holds Tryd.pinned (OpenSpec.ofChange tokNamesSpec)

/-- ITS FALSE NEIGHBOUR: 'it returns false'. Refute it at one input. -/
def tokNamesWrong : ChangeSpec := { name := "tokNames", fn := fun _ => fun
  | [d1, d2] => { results := [.lit (.bool false)], args := [d1, d2] }
  | _ => none }
def TokNamesWrongFalsely : Prop := tokNamesRow.holds Tryd.pinned (OpenSpec.ofChange tokNamesWrong)

/-- 'tapestrierlaw4.TokStrings': WHATEVER THE INPUT: true; the input reads as it did. -/
def tokStringsSpec : ChangeSpec := { name := "tokStrings", fn := fun _ => fun
  | [d1, d2, d3] => { results := [.lit (.bool true)], args := [d1, d2, d3] }
  | _ => none }
def tokStringsRow : OpenClaim := { program := "ytpkgnaajcibgnaadoor", sum := "f5f14a736e14779878db0036480a74139bde7f95ec792d75fac9a60de57b21ec", func := "tapestrier/tapestrierlaw4.TokStrings", spec := "tokStrings", inPlace := ["internal/bytealg.IndexByteString", "internal/bytealg.IndexString"], unfollowed := true, recurses := true, named := ["unicode/utf8.first", "unicode/utf8.acceptRanges", "internal/bytealg.MaxLen"], apart := false, laid := [("unicode/utf8.acceptRanges", laid_unicode_utf8_acceptRanges), ("unicode/utf8.first", laid_unicode_utf8_first)] }
def TokStringsSaid : Prop := tokStringsRow.holds Tryd.pinned (OpenSpec.ofChange tokStringsSpec)

/-- ITS FALSE NEIGHBOUR: 'it returns false'. Refute it at one input. -/
def tokStringsWrong : ChangeSpec := { name := "tokStrings", fn := fun _ => fun
  | [d1, d2, d3] => { results := [.lit (.bool false)], args := [d1, d2, d3] }
  | _ => none }
def TokStringsWrongFalsely : Prop := tokStringsRow.holds Tryd.pinned (OpenSpec.ofChange tokStringsWrong)

/-- 'tapestrierlaw4.TokNumbers': WHATEVER THE INPUT: true; the input reads as it did. -/
def tokNumbersSpec : ChangeSpec := { name := "tokNumbers", fn := fun _ => fun
  | [d1, d2, d3, d4] => { results := [.lit (.bool true)], args := [d1, d2, d3, d4] }
  | _ => none }
def tokNumbersRow : OpenClaim := { program := "ytpkgnaajcibgnaadoor", sum := "f5f14a736e14779878db0036480a74139bde7f95ec792d75fac9a60de57b21ec", func := "tapestrier/tapestrierlaw4.TokNumbers", spec := "tokNumbers", inPlace := ["internal/bytealg.IndexByteString", "internal/bytealg.IndexString"], unfollowed := true, recurses := true, named := ["unicode/utf8.first", "unicode/utf8.acceptRanges", "internal/bytealg.MaxLen"], apart := false, laid := [("unicode/utf8.acceptRanges", laid_unicode_utf8_acceptRanges), ("unicode/utf8.first", laid_unicode_utf8_first)] }
def TokNumbersSaid : Prop := tokNumbersRow.holds Tryd.pinned (OpenSpec.ofChange tokNumbersSpec)

/-- ITS FALSE NEIGHBOUR: 'it returns false'. Refute it at one input. -/
def tokNumbersWrong : ChangeSpec := { name := "tokNumbers", fn := fun _ => fun
  | [d1, d2, d3, d4] => { results := [.lit (.bool false)], args := [d1, d2, d3, d4] }
  | _ => none }
def TokNumbersWrongFalsely : Prop := tokNumbersRow.holds Tryd.pinned (OpenSpec.ofChange tokNumbersWrong)

/-- 'tapestrierlaw4.TokComments': WHATEVER THE INPUT: true; the input reads as it did. -/
def tokCommentsSpec : ChangeSpec := { name := "tokComments", fn := fun _ => fun
  | [d1, d2, d3] => { results := [.lit (.bool true)], args := [d1, d2, d3] }
  | _ => none }
def tokCommentsRow : OpenClaim := { program := "ytpkgnaajcibgnaadoor", sum := "f5f14a736e14779878db0036480a74139bde7f95ec792d75fac9a60de57b21ec", func := "tapestrier/tapestrierlaw4.TokComments", spec := "tokComments", inPlace := ["internal/bytealg.IndexByteString", "internal/bytealg.IndexString"], unfollowed := true, recurses := true, named := ["unicode/utf8.first", "unicode/utf8.acceptRanges", "internal/bytealg.MaxLen"], apart := false, laid := [("unicode/utf8.acceptRanges", laid_unicode_utf8_acceptRanges), ("unicode/utf8.first", laid_unicode_utf8_first)] }
def TokCommentsSaid : Prop := tokCommentsRow.holds Tryd.pinned (OpenSpec.ofChange tokCommentsSpec)

/-- ITS FALSE NEIGHBOUR: 'it returns false'. Refute it at one input. -/
def tokCommentsWrong : ChangeSpec := { name := "tokComments", fn := fun _ => fun
  | [d1, d2, d3] => { results := [.lit (.bool false)], args := [d1, d2, d3] }
  | _ => none }
def TokCommentsWrongFalsely : Prop := tokCommentsRow.holds Tryd.pinned (OpenSpec.ofChange tokCommentsWrong)

/-- 'tapestrierlaw4.TokEscapes': WHATEVER THE INPUT: true; the input reads as it did. -/
def tokEscapesSpec : ChangeSpec := { name := "tokEscapes", fn := fun _ => fun
  | [d1, d2] => { results := [.lit (.bool true)], args := [d1, d2] }
  | _ => none }
def tokEscapesRow : OpenClaim := { program := "ytpkgnaajcibgnaadoor", sum := "f5f14a736e14779878db0036480a74139bde7f95ec792d75fac9a60de57b21ec", func := "tapestrier/tapestrierlaw4.TokEscapes", spec := "tokEscapes", inPlace := ["internal/bytealg.IndexByteString", "internal/bytealg.IndexString"], unfollowed := true, recurses := true, named := ["unicode/utf8.first", "unicode/utf8.acceptRanges", "internal/bytealg.MaxLen"], apart := false, laid := [("unicode/utf8.acceptRanges", laid_unicode_utf8_acceptRanges), ("unicode/utf8.first", laid_unicode_utf8_first)] }
def TokEscapesSaid : Prop := tokEscapesRow.holds Tryd.pinned (OpenSpec.ofChange tokEscapesSpec)

/-- ITS FALSE NEIGHBOUR: 'it returns false'. Refute it at one input. -/
def tokEscapesWrong : ChangeSpec := { name := "tokEscapes", fn := fun _ => fun
  | [d1, d2] => { results := [.lit (.bool false)], args := [d1, d2] }
  | _ => none }
def TokEscapesWrongFalsely : Prop := tokEscapesRow.holds Tryd.pinned (OpenSpec.ofChange tokEscapesWrong)

/-- 'tapestrierlaw4.TokSigns': WHATEVER THE INPUT: true; the input reads as it did. -/
def tokSignsSpec : ChangeSpec := { name := "tokSigns", fn := fun _ => fun
  | [d] => { results := [.lit (.bool true)], args := [d] }
  | _ => none }
def tokSignsRow : OpenClaim := { program := "ytpkgnaajcibgnaadoor", sum := "f5f14a736e14779878db0036480a74139bde7f95ec792d75fac9a60de57b21ec", func := "tapestrier/tapestrierlaw4.TokSigns", spec := "tokSigns", inPlace := ["internal/bytealg.IndexByteString", "internal/bytealg.IndexString"], unfollowed := true, recurses := true, named := ["unicode/utf8.first", "unicode/utf8.acceptRanges", "internal/bytealg.MaxLen"], apart := false, laid := [("unicode/utf8.acceptRanges", laid_unicode_utf8_acceptRanges), ("unicode/utf8.first", laid_unicode_utf8_first)] }
def TokSignsSaid : Prop := tokSignsRow.holds Tryd.pinned (OpenSpec.ofChange tokSignsSpec)

/-- ITS FALSE NEIGHBOUR: 'it returns false'. Refute it at one input. -/
def tokSignsWrong : ChangeSpec := { name := "tokSigns", fn := fun _ => fun
  | [d] => { results := [.lit (.bool false)], args := [d] }
  | _ => none }
def TokSignsWrongFalsely : Prop := tokSignsRow.holds Tryd.pinned (OpenSpec.ofChange tokSignsWrong)

/-- 'tapestrierlaw4.TokParts': WHATEVER THE INPUT: true; the input reads as it did. -/
def tokPartsSpec : ChangeSpec := { name := "tokParts", fn := fun _ => fun
  | [d1, d2] => { results := [.lit (.bool true)], args := [d1, d2] }
  | _ => none }
def tokPartsRow : OpenClaim := { program := "ytpkgnaajcibgnaadoor", sum := "f5f14a736e14779878db0036480a74139bde7f95ec792d75fac9a60de57b21ec", func := "tapestrier/tapestrierlaw4.TokParts", spec := "tokParts", inPlace := ["internal/bytealg.IndexByteString", "internal/bytealg.IndexString"], unfollowed := true, recurses := true, named := ["unicode/utf8.first", "unicode/utf8.acceptRanges", "internal/bytealg.MaxLen"], apart := false, laid := [("unicode/utf8.acceptRanges", laid_unicode_utf8_acceptRanges), ("unicode/utf8.first", laid_unicode_utf8_first)] }
def TokPartsSaid : Prop := tokPartsRow.holds Tryd.pinned (OpenSpec.ofChange tokPartsSpec)

/-- ITS FALSE NEIGHBOUR: 'it returns false'. Refute it at one input. -/
def tokPartsWrong : ChangeSpec := { name := "tokParts", fn := fun _ => fun
  | [d1, d2] => { results := [.lit (.bool false)], args := [d1, d2] }
  | _ => none }
def TokPartsWrongFalsely : Prop := tokPartsRow.holds Tryd.pinned (OpenSpec.ofChange tokPartsWrong)

/-- 'tapestrierlaw4.TokWhite': WHATEVER THE INPUT: true; the input reads as it did. -/
def tokWhiteSpec : ChangeSpec := { name := "tokWhite", fn := fun _ => fun
  | [d] => { results := [.lit (.bool true)], args := [d] }
  | _ => none }
def tokWhiteRow : OpenClaim := { program := "ytpkgnaajcibgnaadoor", sum := "f5f14a736e14779878db0036480a74139bde7f95ec792d75fac9a60de57b21ec", func := "tapestrier/tapestrierlaw4.TokWhite", spec := "tokWhite", inPlace := ["internal/bytealg.IndexByteString", "internal/bytealg.IndexString"], unfollowed := true, recurses := true, named := ["unicode/utf8.first", "unicode/utf8.acceptRanges", "internal/bytealg.MaxLen"], apart := false, laid := [("unicode/utf8.acceptRanges", laid_unicode_utf8_acceptRanges), ("unicode/utf8.first", laid_unicode_utf8_first)] }
def TokWhiteSaid : Prop := tokWhiteRow.holds Tryd.pinned (OpenSpec.ofChange tokWhiteSpec)

/-- ITS FALSE NEIGHBOUR: 'it returns false'. Refute it at one input. -/
def tokWhiteWrong : ChangeSpec := { name := "tokWhite", fn := fun _ => fun
  | [d] => { results := [.lit (.bool false)], args := [d] }
  | _ => none }
def TokWhiteWrongFalsely : Prop := tokWhiteRow.holds Tryd.pinned (OpenSpec.ofChange tokWhiteWrong)

/-- 'tapestrierlaw4.TokReads': WHATEVER THE INPUT: true; the input reads as it did. -/
def tokReadsSpec : ChangeSpec := { name := "tokReads", fn := fun _ => fun
  | [d] => { results := [.lit (.bool true)], args := [d] }
  | _ => none }
def tokReadsRow : OpenClaim := { program := "ytpkgnaajcibgnaadoor", sum := "f5f14a736e14779878db0036480a74139bde7f95ec792d75fac9a60de57b21ec", func := "tapestrier/tapestrierlaw4.TokReads", spec := "tokReads", inPlace := ["internal/bytealg.IndexByteString", "internal/bytealg.IndexString", "internal/abi.NoEscape"], unfollowed := true, recurses := true, named := ["unicode/utf8.first", "unicode/utf8.acceptRanges", "internal/bytealg.MaxLen", "internal/strconv.uint64pow10", "math/bits.deBruijn32tab", "math/bits.deBruijn64tab"], apart := false, laid := [("math/bits.deBruijn32tab", laid_math_bits_deBruijn32tab), ("math/bits.deBruijn64tab", laid_math_bits_deBruijn64tab), ("internal/strconv.uint64pow10", laid_internal_strconv_uint64pow10), ("unicode/utf8.acceptRanges", laid_unicode_utf8_acceptRanges), ("unicode/utf8.first", laid_unicode_utf8_first)] }
def TokReadsSaid : Prop := tokReadsRow.holds Tryd.pinned (OpenSpec.ofChange tokReadsSpec)

/-- ITS FALSE NEIGHBOUR: 'it returns false'. Refute it at one input. -/
def tokReadsWrong : ChangeSpec := { name := "tokReads", fn := fun _ => fun
  | [d] => { results := [.lit (.bool false)], args := [d] }
  | _ => none }
def TokReadsWrongFalsely : Prop := tokReadsRow.holds Tryd.pinned (OpenSpec.ofChange tokReadsWrong)

/-- 'tapestrierlaw4.TokPoints': WHATEVER THE INPUT: true; the input reads as it did. -/
def tokPointsSpec : ChangeSpec := { name := "tokPoints", fn := fun _ => fun
  | [d] => { results := [.lit (.bool true)], args := [d] }
  | _ => none }
def tokPointsRow : OpenClaim := { program := "ytpkgnaajcibgnaadoor", sum := "f5f14a736e14779878db0036480a74139bde7f95ec792d75fac9a60de57b21ec", func := "tapestrier/tapestrierlaw4.TokPoints", spec := "tokPoints", inPlace := ["internal/bytealg.IndexByteString", "internal/bytealg.IndexString", "internal/abi.NoEscape"], unfollowed := true, recurses := true, named := ["unicode/utf8.first", "unicode/utf8.acceptRanges", "internal/bytealg.MaxLen", "internal/strconv.uint64pow10", "math/bits.deBruijn32tab", "math/bits.deBruijn64tab"], apart := false, laid := [("math/bits.deBruijn32tab", laid_math_bits_deBruijn32tab), ("math/bits.deBruijn64tab", laid_math_bits_deBruijn64tab), ("internal/strconv.uint64pow10", laid_internal_strconv_uint64pow10), ("unicode/utf8.acceptRanges", laid_unicode_utf8_acceptRanges), ("unicode/utf8.first", laid_unicode_utf8_first)] }
def TokPointsSaid : Prop := tokPointsRow.holds Tryd.pinned (OpenSpec.ofChange tokPointsSpec)

/-- ITS FALSE NEIGHBOUR: 'it returns false'. Refute it at one input. -/
def tokPointsWrong : ChangeSpec := { name := "tokPoints", fn := fun _ => fun
  | [d] => { results := [.lit (.bool false)], args := [d] }
  | _ => none }
def TokPointsWrongFalsely : Prop := tokPointsRow.holds Tryd.pinned (OpenSpec.ofChange tokPointsWrong)

/-- 'tapestrierlaw4.TokKinds': WHATEVER THE INPUT: true; the input reads as it did. -/
def tokKindsSpec : ChangeSpec := { name := "tokKinds", fn := fun _ => fun
  | [d] => { results := [.lit (.bool true)], args := [d] }
  | _ => none }
def tokKindsRow : OpenClaim := { program := "ytpkgnaajcibgnaadoor", sum := "f5f14a736e14779878db0036480a74139bde7f95ec792d75fac9a60de57b21ec", func := "tapestrier/tapestrierlaw4.TokKinds", spec := "tokKinds", inPlace := ["internal/bytealg.IndexByteString", "internal/bytealg.IndexString", "internal/abi.NoEscape"], unfollowed := true, recurses := true, named := ["unicode/utf8.first", "unicode/utf8.acceptRanges", "internal/bytealg.MaxLen", "internal/strconv.uint64pow10", "math/bits.deBruijn32tab", "math/bits.deBruijn64tab"], apart := false, laid := [("math/bits.deBruijn32tab", laid_math_bits_deBruijn32tab), ("math/bits.deBruijn64tab", laid_math_bits_deBruijn64tab), ("internal/strconv.uint64pow10", laid_internal_strconv_uint64pow10), ("unicode/utf8.acceptRanges", laid_unicode_utf8_acceptRanges), ("unicode/utf8.first", laid_unicode_utf8_first)] }
def TokKindsSaid : Prop := tokKindsRow.holds Tryd.pinned (OpenSpec.ofChange tokKindsSpec)

/-- ITS FALSE NEIGHBOUR: 'it returns false'. Refute it at one input. -/
def tokKindsWrong : ChangeSpec := { name := "tokKinds", fn := fun _ => fun
  | [d] => { results := [.lit (.bool false)], args := [d] }
  | _ => none }
def TokKindsWrongFalsely : Prop := tokKindsRow.holds Tryd.pinned (OpenSpec.ofChange tokKindsWrong)

/- THE SECOND FORM. 'bulk': how many values and letters a reading holds, each counted each time it is reached (what is shared counts as often as it is met; a slice's spare places count too). A statement '..UptoSaid' is the law's where the arguments, and the package variables that the reading takes, are together of bulk at most 1048576: NARROWER than '..Said'. Prove '..Said' where nothing that the law and all that it calls make is longer than what came in: it says more and counts as full. Else prove '..UptoSaid'. A law counts once. -/
mutual
def uptoBulk {H : Type} : DataW H → Nat
  | .lit (.string bytes) => bytes.length + 1
  | .lit _ => 1
  | .nil => 1
  | .ptr d => uptoBulk d + 1
  | .slice elems spare => uptoBulkAll elems + uptoBulkAll spare + 1
  | .agg parts => uptoBulkAll parts + 1
  | .iface _ d => uptoBulk d + 1
  | .map entries => uptoBulkEntries entries + 1
  | .held _ => 1
def uptoBulkAll {H : Type} : List (DataW H) → Nat
  | [] => 0
  | d :: r => uptoBulk d + uptoBulkAll r
def uptoBulkEntries {H : Type} : List (Lit × DataW H) → Nat
  | [] => 0
  | x :: r => uptoBulkEntry x + uptoBulkEntries r
def uptoBulkEntry {H : Type} : Lit × DataW H → Nat
  | (.string bytes, d) => bytes.length + uptoBulk d + 1
  | (_, d) => uptoBulk d + 1
 end
def uptoSmall : (H : Type) → List (DataW H) → Bool := fun _ ds => decide (uptoBulkAll ds ≤ 1048576)
def OpenSpec.upto (s : _root_.Go.ChangeSpec) : _root_.Go.OpenSpec := { _root_.Go.OpenSpec.ofChange s with cond := some uptoSmall }

/-- 'tapestrierlaw4.TokNames', WHERE WHAT IT READS IS OF BULK AT MOST 1048576: true; the input reads as it did. -/
def tokNamesUptoRow : OpenClaim := { program := "ytpkgnaajcibgnaadoor", sum := "f5f14a736e14779878db0036480a74139bde7f95ec792d75fac9a60de57b21ec", func := "tapestrier/tapestrierlaw4.TokNames", spec := "tokNames", inPlace := ["internal/bytealg.IndexByteString", "internal/bytealg.IndexString"], unfollowed := true, recurses := true, named := ["unicode/utf8.first", "unicode/utf8.acceptRanges", "internal/bytealg.MaxLen"], apart := false, laid := [("unicode/utf8.acceptRanges", laid_unicode_utf8_acceptRanges), ("unicode/utf8.first", laid_unicode_utf8_first)], narrowed := true }
def TokNamesUptoSaid : Prop := tokNamesUptoRow.holds Tryd.pinned (OpenSpec.upto tokNamesSpec)

/-- 'tapestrierlaw4.TokStrings', WHERE WHAT IT READS IS OF BULK AT MOST 1048576: true; the input reads as it did. -/
def tokStringsUptoRow : OpenClaim := { program := "ytpkgnaajcibgnaadoor", sum := "f5f14a736e14779878db0036480a74139bde7f95ec792d75fac9a60de57b21ec", func := "tapestrier/tapestrierlaw4.TokStrings", spec := "tokStrings", inPlace := ["internal/bytealg.IndexByteString", "internal/bytealg.IndexString"], unfollowed := true, recurses := true, named := ["unicode/utf8.first", "unicode/utf8.acceptRanges", "internal/bytealg.MaxLen"], apart := false, laid := [("unicode/utf8.acceptRanges", laid_unicode_utf8_acceptRanges), ("unicode/utf8.first", laid_unicode_utf8_first)], narrowed := true }
def TokStringsUptoSaid : Prop := tokStringsUptoRow.holds Tryd.pinned (OpenSpec.upto tokStringsSpec)

/-- 'tapestrierlaw4.TokNumbers', WHERE WHAT IT READS IS OF BULK AT MOST 1048576: true; the input reads as it did. -/
def tokNumbersUptoRow : OpenClaim := { program := "ytpkgnaajcibgnaadoor", sum := "f5f14a736e14779878db0036480a74139bde7f95ec792d75fac9a60de57b21ec", func := "tapestrier/tapestrierlaw4.TokNumbers", spec := "tokNumbers", inPlace := ["internal/bytealg.IndexByteString", "internal/bytealg.IndexString"], unfollowed := true, recurses := true, named := ["unicode/utf8.first", "unicode/utf8.acceptRanges", "internal/bytealg.MaxLen"], apart := false, laid := [("unicode/utf8.acceptRanges", laid_unicode_utf8_acceptRanges), ("unicode/utf8.first", laid_unicode_utf8_first)], narrowed := true }
def TokNumbersUptoSaid : Prop := tokNumbersUptoRow.holds Tryd.pinned (OpenSpec.upto tokNumbersSpec)

/-- 'tapestrierlaw4.TokComments', WHERE WHAT IT READS IS OF BULK AT MOST 1048576: true; the input reads as it did. -/
def tokCommentsUptoRow : OpenClaim := { program := "ytpkgnaajcibgnaadoor", sum := "f5f14a736e14779878db0036480a74139bde7f95ec792d75fac9a60de57b21ec", func := "tapestrier/tapestrierlaw4.TokComments", spec := "tokComments", inPlace := ["internal/bytealg.IndexByteString", "internal/bytealg.IndexString"], unfollowed := true, recurses := true, named := ["unicode/utf8.first", "unicode/utf8.acceptRanges", "internal/bytealg.MaxLen"], apart := false, laid := [("unicode/utf8.acceptRanges", laid_unicode_utf8_acceptRanges), ("unicode/utf8.first", laid_unicode_utf8_first)], narrowed := true }
def TokCommentsUptoSaid : Prop := tokCommentsUptoRow.holds Tryd.pinned (OpenSpec.upto tokCommentsSpec)

/-- 'tapestrierlaw4.TokEscapes', WHERE WHAT IT READS IS OF BULK AT MOST 1048576: true; the input reads as it did. -/
def tokEscapesUptoRow : OpenClaim := { program := "ytpkgnaajcibgnaadoor", sum := "f5f14a736e14779878db0036480a74139bde7f95ec792d75fac9a60de57b21ec", func := "tapestrier/tapestrierlaw4.TokEscapes", spec := "tokEscapes", inPlace := ["internal/bytealg.IndexByteString", "internal/bytealg.IndexString"], unfollowed := true, recurses := true, named := ["unicode/utf8.first", "unicode/utf8.acceptRanges", "internal/bytealg.MaxLen"], apart := false, laid := [("unicode/utf8.acceptRanges", laid_unicode_utf8_acceptRanges), ("unicode/utf8.first", laid_unicode_utf8_first)], narrowed := true }
def TokEscapesUptoSaid : Prop := tokEscapesUptoRow.holds Tryd.pinned (OpenSpec.upto tokEscapesSpec)

/-- 'tapestrierlaw4.TokSigns', WHERE WHAT IT READS IS OF BULK AT MOST 1048576: true; the input reads as it did. -/
def tokSignsUptoRow : OpenClaim := { program := "ytpkgnaajcibgnaadoor", sum := "f5f14a736e14779878db0036480a74139bde7f95ec792d75fac9a60de57b21ec", func := "tapestrier/tapestrierlaw4.TokSigns", spec := "tokSigns", inPlace := ["internal/bytealg.IndexByteString", "internal/bytealg.IndexString"], unfollowed := true, recurses := true, named := ["unicode/utf8.first", "unicode/utf8.acceptRanges", "internal/bytealg.MaxLen"], apart := false, laid := [("unicode/utf8.acceptRanges", laid_unicode_utf8_acceptRanges), ("unicode/utf8.first", laid_unicode_utf8_first)], narrowed := true }
def TokSignsUptoSaid : Prop := tokSignsUptoRow.holds Tryd.pinned (OpenSpec.upto tokSignsSpec)

/-- 'tapestrierlaw4.TokParts', WHERE WHAT IT READS IS OF BULK AT MOST 1048576: true; the input reads as it did. -/
def tokPartsUptoRow : OpenClaim := { program := "ytpkgnaajcibgnaadoor", sum := "f5f14a736e14779878db0036480a74139bde7f95ec792d75fac9a60de57b21ec", func := "tapestrier/tapestrierlaw4.TokParts", spec := "tokParts", inPlace := ["internal/bytealg.IndexByteString", "internal/bytealg.IndexString"], unfollowed := true, recurses := true, named := ["unicode/utf8.first", "unicode/utf8.acceptRanges", "internal/bytealg.MaxLen"], apart := false, laid := [("unicode/utf8.acceptRanges", laid_unicode_utf8_acceptRanges), ("unicode/utf8.first", laid_unicode_utf8_first)], narrowed := true }
def TokPartsUptoSaid : Prop := tokPartsUptoRow.holds Tryd.pinned (OpenSpec.upto tokPartsSpec)

/-- 'tapestrierlaw4.TokWhite', WHERE WHAT IT READS IS OF BULK AT MOST 1048576: true; the input reads as it did. -/
def tokWhiteUptoRow : OpenClaim := { program := "ytpkgnaajcibgnaadoor", sum := "f5f14a736e14779878db0036480a74139bde7f95ec792d75fac9a60de57b21ec", func := "tapestrier/tapestrierlaw4.TokWhite", spec := "tokWhite", inPlace := ["internal/bytealg.IndexByteString", "internal/bytealg.IndexString"], unfollowed := true, recurses := true, named := ["unicode/utf8.first", "unicode/utf8.acceptRanges", "internal/bytealg.MaxLen"], apart := false, laid := [("unicode/utf8.acceptRanges", laid_unicode_utf8_acceptRanges), ("unicode/utf8.first", laid_unicode_utf8_first)], narrowed := true }
def TokWhiteUptoSaid : Prop := tokWhiteUptoRow.holds Tryd.pinned (OpenSpec.upto tokWhiteSpec)

/-- 'tapestrierlaw4.TokReads', WHERE WHAT IT READS IS OF BULK AT MOST 1048576: true; the input reads as it did. -/
def tokReadsUptoRow : OpenClaim := { program := "ytpkgnaajcibgnaadoor", sum := "f5f14a736e14779878db0036480a74139bde7f95ec792d75fac9a60de57b21ec", func := "tapestrier/tapestrierlaw4.TokReads", spec := "tokReads", inPlace := ["internal/bytealg.IndexByteString", "internal/bytealg.IndexString", "internal/abi.NoEscape"], unfollowed := true, recurses := true, named := ["unicode/utf8.first", "unicode/utf8.acceptRanges", "internal/bytealg.MaxLen", "internal/strconv.uint64pow10", "math/bits.deBruijn32tab", "math/bits.deBruijn64tab"], apart := false, laid := [("math/bits.deBruijn32tab", laid_math_bits_deBruijn32tab), ("math/bits.deBruijn64tab", laid_math_bits_deBruijn64tab), ("internal/strconv.uint64pow10", laid_internal_strconv_uint64pow10), ("unicode/utf8.acceptRanges", laid_unicode_utf8_acceptRanges), ("unicode/utf8.first", laid_unicode_utf8_first)], narrowed := true }
def TokReadsUptoSaid : Prop := tokReadsUptoRow.holds Tryd.pinned (OpenSpec.upto tokReadsSpec)

/-- 'tapestrierlaw4.TokPoints', WHERE WHAT IT READS IS OF BULK AT MOST 1048576: true; the input reads as it did. -/
def tokPointsUptoRow : OpenClaim := { program := "ytpkgnaajcibgnaadoor", sum := "f5f14a736e14779878db0036480a74139bde7f95ec792d75fac9a60de57b21ec", func := "tapestrier/tapestrierlaw4.TokPoints", spec := "tokPoints", inPlace := ["internal/bytealg.IndexByteString", "internal/bytealg.IndexString", "internal/abi.NoEscape"], unfollowed := true, recurses := true, named := ["unicode/utf8.first", "unicode/utf8.acceptRanges", "internal/bytealg.MaxLen", "internal/strconv.uint64pow10", "math/bits.deBruijn32tab", "math/bits.deBruijn64tab"], apart := false, laid := [("math/bits.deBruijn32tab", laid_math_bits_deBruijn32tab), ("math/bits.deBruijn64tab", laid_math_bits_deBruijn64tab), ("internal/strconv.uint64pow10", laid_internal_strconv_uint64pow10), ("unicode/utf8.acceptRanges", laid_unicode_utf8_acceptRanges), ("unicode/utf8.first", laid_unicode_utf8_first)], narrowed := true }
def TokPointsUptoSaid : Prop := tokPointsUptoRow.holds Tryd.pinned (OpenSpec.upto tokPointsSpec)

/-- 'tapestrierlaw4.TokKinds', WHERE WHAT IT READS IS OF BULK AT MOST 1048576: true; the input reads as it did. -/
def tokKindsUptoRow : OpenClaim := { program := "ytpkgnaajcibgnaadoor", sum := "f5f14a736e14779878db0036480a74139bde7f95ec792d75fac9a60de57b21ec", func := "tapestrier/tapestrierlaw4.TokKinds", spec := "tokKinds", inPlace := ["internal/bytealg.IndexByteString", "internal/bytealg.IndexString", "internal/abi.NoEscape"], unfollowed := true, recurses := true, named := ["unicode/utf8.first", "unicode/utf8.acceptRanges", "internal/bytealg.MaxLen", "internal/strconv.uint64pow10", "math/bits.deBruijn32tab", "math/bits.deBruijn64tab"], apart := false, laid := [("math/bits.deBruijn32tab", laid_math_bits_deBruijn32tab), ("math/bits.deBruijn64tab", laid_math_bits_deBruijn64tab), ("internal/strconv.uint64pow10", laid_internal_strconv_uint64pow10), ("unicode/utf8.acceptRanges", laid_unicode_utf8_acceptRanges), ("unicode/utf8.first", laid_unicode_utf8_first)], narrowed := true }
def TokKindsUptoSaid : Prop := tokKindsUptoRow.holds Tryd.pinned (OpenSpec.upto tokKindsSpec)

end Rows
end Go.Proofs.YtpkgnaajcibgnaaDoor
