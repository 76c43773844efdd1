/-
  No cell of these rows narrows 'for every input' (looked for: loops, veiled, ifaces, maps, wideKeys, modest, calm, conditions, laid).
  DERIVED. THE GIVEN ROWS OF THIS SEAT. 10 by the template 'for every input the law returns true; each argument reads behind the call as it read before'; 0 by the template 'total and deterministic' (their statements: YtdfiegleaknleaaTotals.lean).
  GIVEN WITH THE SEED: the statements are not yours to turn. If you find one false, say at which input.
  Laid BY PROGRAM, IN A SANDBOX (cutbox-rows.mjs): the forced cells as the released guide's own fill.sh prints them over the translation 55beea633cde0690… (all of the seat's roots in one cut). By AI agents, Wed Nov 11 2026. No macro, syntax, notation, axiom, sorry.
-/
import Derived.Test.YtdfiegleaknleaaChecked
import GoSem.Claim
import GoSem.ClaimJoined
import GoSem.ClaimMapViews
import Derived.JoinedTies
import Derived.KernelRfl
namespace Go.Proofs.Ytdfiegleaknleaa
/- THE CELL 'sum', in the pinned program and in every row, IS THE sha256 OF THE DUMP (.gsa) THAT YtdfiegleaknleaaProg.lean LOADS. Nothing in Lean hashes anything: it is a label: what it is worth is what the hold of that sum in a sandbox is worth. -/
noncomputable def Try.pinned : Pinned := { name := "ytdfiegleaknleaa", sum := "55beea633cde0690d0b232afd14c5400c97294a7d3d290cf7c7a45bedab1b070", checked := Try.checked }
namespace Rows
def none {H : Type} : Left H := { results := [], args := [] }

/-- 'tapestrierlaw8.SelParse': WHATEVER THE INPUT: true; the input reads as it did. -/
def selParseSpec : ChangeSpec := { name := "selParse", fn := fun _ => fun
  | [d] => { results := [.lit (.bool true)], args := [d] }
  | _ => none }
def selParseRow : OpenClaim := { program := "ytdfiegleaknleaa", sum := "55beea633cde0690d0b232afd14c5400c97294a7d3d290cf7c7a45bedab1b070", func := "tapestrier/tapestrierlaw8.SelParse", spec := "selParse", recurses := true, apart := false }
def SelParseSaid : Prop := selParseRow.holds Try.pinned (OpenSpec.ofChange selParseSpec)

/-- ITS FALSE NEIGHBOUR: 'it returns false'. Refute it at one input. -/
def selParseWrong : ChangeSpec := { name := "selParse", fn := fun _ => fun
  | [d] => { results := [.lit (.bool false)], args := [d] }
  | _ => none }
def SelParseWrongFalsely : Prop := selParseRow.holds Try.pinned (OpenSpec.ofChange selParseWrong)

/-- 'tapestrierlaw8.SelBytes': WHATEVER THE INPUT: true; the input reads as it did. -/
def selBytesSpec : ChangeSpec := { name := "selBytes", fn := fun _ => fun
  | [d] => { results := [.lit (.bool true)], args := [d] }
  | _ => none }
def selBytesRow : OpenClaim := { program := "ytdfiegleaknleaa", sum := "55beea633cde0690d0b232afd14c5400c97294a7d3d290cf7c7a45bedab1b070", func := "tapestrier/tapestrierlaw8.SelBytes", spec := "selBytes", recurses := true, apart := false }
def SelBytesSaid : Prop := selBytesRow.holds Try.pinned (OpenSpec.ofChange selBytesSpec)

/-- ITS FALSE NEIGHBOUR: 'it returns false'. Refute it at one input. -/
def selBytesWrong : ChangeSpec := { name := "selBytes", fn := fun _ => fun
  | [d] => { results := [.lit (.bool false)], args := [d] }
  | _ => none }
def SelBytesWrongFalsely : Prop := selBytesRow.holds Try.pinned (OpenSpec.ofChange selBytesWrong)

/-- 'tapestrierlaw8.SelDeep': WHATEVER THE INPUT: true; the input reads as it did. -/
def selDeepSpec : ChangeSpec := { name := "selDeep", fn := fun _ => fun
  | [d1, d2] => { results := [.lit (.bool true)], args := [d1, d2] }
  | _ => none }
def selDeepRow : OpenClaim := { program := "ytdfiegleaknleaa", sum := "55beea633cde0690d0b232afd14c5400c97294a7d3d290cf7c7a45bedab1b070", func := "tapestrier/tapestrierlaw8.SelDeep", spec := "selDeep", recurses := true, apart := false }
def SelDeepSaid : Prop := selDeepRow.holds Try.pinned (OpenSpec.ofChange selDeepSpec)

/-- ITS FALSE NEIGHBOUR: 'it returns false'. Refute it at one input. -/
def selDeepWrong : ChangeSpec := { name := "selDeep", fn := fun _ => fun
  | [d1, d2] => { results := [.lit (.bool false)], args := [d1, d2] }
  | _ => none }
def SelDeepWrongFalsely : Prop := selDeepRow.holds Try.pinned (OpenSpec.ofChange selDeepWrong)

/-- 'tapestrierlaw8.SelAttrs': WHATEVER THE INPUT: true; the input reads as it did. -/
def selAttrsSpec : ChangeSpec := { name := "selAttrs", fn := fun _ => fun
  | [d1, d2, d3, d4, d5] => { results := [.lit (.bool true)], args := [d1, d2, d3, d4, d5] }
  | _ => none }
def selAttrsRow : OpenClaim := { program := "ytdfiegleaknleaa", sum := "55beea633cde0690d0b232afd14c5400c97294a7d3d290cf7c7a45bedab1b070", func := "tapestrier/tapestrierlaw8.SelAttrs", spec := "selAttrs", recurses := true, apart := false }
def SelAttrsSaid : Prop := selAttrsRow.holds Try.pinned (OpenSpec.ofChange selAttrsSpec)

/-- ITS FALSE NEIGHBOUR: 'it returns false'. Refute it at one input. -/
def selAttrsWrong : ChangeSpec := { name := "selAttrs", fn := fun _ => fun
  | [d1, d2, d3, d4, d5] => { results := [.lit (.bool false)], args := [d1, d2, d3, d4, d5] }
  | _ => none }
def SelAttrsWrongFalsely : Prop := selAttrsRow.holds Try.pinned (OpenSpec.ofChange selAttrsWrong)

/-- 'tapestrierlaw8.SelNth': WHATEVER THE INPUT: true; the input reads as it did. -/
def selNthSpec : ChangeSpec := { name := "selNth", fn := fun _ => fun
  | [d1, d2] => { results := [.lit (.bool true)], args := [d1, d2] }
  | _ => none }
def selNthRow : OpenClaim := { program := "ytdfiegleaknleaa", sum := "55beea633cde0690d0b232afd14c5400c97294a7d3d290cf7c7a45bedab1b070", func := "tapestrier/tapestrierlaw8.SelNth", spec := "selNth", recurses := true, apart := false }
def SelNthSaid : Prop := selNthRow.holds Try.pinned (OpenSpec.ofChange selNthSpec)

/-- ITS FALSE NEIGHBOUR: 'it returns false'. Refute it at one input. -/
def selNthWrong : ChangeSpec := { name := "selNth", fn := fun _ => fun
  | [d1, d2] => { results := [.lit (.bool false)], args := [d1, d2] }
  | _ => none }
def SelNthWrongFalsely : Prop := selNthRow.holds Try.pinned (OpenSpec.ofChange selNthWrong)

/-- 'tapestrierlaw8.SelCombs': WHATEVER THE INPUT: true; the input reads as it did. -/
def selCombsSpec : ChangeSpec := { name := "selCombs", fn := fun _ => fun
  | [d1, d2, d3] => { results := [.lit (.bool true)], args := [d1, d2, d3] }
  | _ => none }
def selCombsRow : OpenClaim := { program := "ytdfiegleaknleaa", sum := "55beea633cde0690d0b232afd14c5400c97294a7d3d290cf7c7a45bedab1b070", func := "tapestrier/tapestrierlaw8.SelCombs", spec := "selCombs", recurses := true, apart := false }
def SelCombsSaid : Prop := selCombsRow.holds Try.pinned (OpenSpec.ofChange selCombsSpec)

/-- ITS FALSE NEIGHBOUR: 'it returns false'. Refute it at one input. -/
def selCombsWrong : ChangeSpec := { name := "selCombs", fn := fun _ => fun
  | [d1, d2, d3] => { results := [.lit (.bool false)], args := [d1, d2, d3] }
  | _ => none }
def SelCombsWrongFalsely : Prop := selCombsRow.holds Try.pinned (OpenSpec.ofChange selCombsWrong)

/-- 'tapestrierlaw8.SelNone': WHATEVER THE INPUT: true; the input reads as it did. -/
def selNoneSpec : ChangeSpec := { name := "selNone", fn := fun _ => fun
  | [d] => { results := [.lit (.bool true)], args := [d] }
  | _ => none }
def selNoneRow : OpenClaim := { program := "ytdfiegleaknleaa", sum := "55beea633cde0690d0b232afd14c5400c97294a7d3d290cf7c7a45bedab1b070", func := "tapestrier/tapestrierlaw8.SelNone", spec := "selNone", recurses := true, apart := false }
def SelNoneSaid : Prop := selNoneRow.holds Try.pinned (OpenSpec.ofChange selNoneSpec)

/-- ITS FALSE NEIGHBOUR: 'it returns false'. Refute it at one input. -/
def selNoneWrong : ChangeSpec := { name := "selNone", fn := fun _ => fun
  | [d] => { results := [.lit (.bool false)], args := [d] }
  | _ => none }
def SelNoneWrongFalsely : Prop := selNoneRow.holds Try.pinned (OpenSpec.ofChange selNoneWrong)

/-- 'tapestrierlaw8.SelSome': WHATEVER THE INPUT: true; the input reads as it did. -/
def selSomeSpec : ChangeSpec := { name := "selSome", fn := fun _ => fun
  | [d] => { results := [.lit (.bool true)], args := [d] }
  | _ => none }
def selSomeRow : OpenClaim := { program := "ytdfiegleaknleaa", sum := "55beea633cde0690d0b232afd14c5400c97294a7d3d290cf7c7a45bedab1b070", func := "tapestrier/tapestrierlaw8.SelSome", spec := "selSome", recurses := true, apart := false }
def SelSomeSaid : Prop := selSomeRow.holds Try.pinned (OpenSpec.ofChange selSomeSpec)

/-- ITS FALSE NEIGHBOUR: 'it returns false'. Refute it at one input. -/
def selSomeWrong : ChangeSpec := { name := "selSome", fn := fun _ => fun
  | [d] => { results := [.lit (.bool false)], args := [d] }
  | _ => none }
def SelSomeWrongFalsely : Prop := selSomeRow.holds Try.pinned (OpenSpec.ofChange selSomeWrong)

/-- 'tapestrierlaw8.SelLong': WHATEVER THE INPUT: true; the input reads as it did. -/
def selLongSpec : ChangeSpec := { name := "selLong", fn := fun _ => fun
  | [d] => { results := [.lit (.bool true)], args := [d] }
  | _ => none }
def selLongRow : OpenClaim := { program := "ytdfiegleaknleaa", sum := "55beea633cde0690d0b232afd14c5400c97294a7d3d290cf7c7a45bedab1b070", func := "tapestrier/tapestrierlaw8.SelLong", spec := "selLong", recurses := true, apart := false }
def SelLongSaid : Prop := selLongRow.holds Try.pinned (OpenSpec.ofChange selLongSpec)

/-- ITS FALSE NEIGHBOUR: 'it returns false'. Refute it at one input. -/
def selLongWrong : ChangeSpec := { name := "selLong", fn := fun _ => fun
  | [d] => { results := [.lit (.bool false)], args := [d] }
  | _ => none }
def SelLongWrongFalsely : Prop := selLongRow.holds Try.pinned (OpenSpec.ofChange selLongWrong)

/-- 'tapestrierlaw8.SelLower': WHATEVER THE INPUT: true; the input reads as it did. -/
def selLowerSpec : ChangeSpec := { name := "selLower", fn := fun _ => fun
  | [d] => { results := [.lit (.bool true)], args := [d] }
  | _ => none }
def selLowerRow : OpenClaim := { program := "ytdfiegleaknleaa", sum := "55beea633cde0690d0b232afd14c5400c97294a7d3d290cf7c7a45bedab1b070", func := "tapestrier/tapestrierlaw8.SelLower", spec := "selLower", recurses := true, apart := false }
def SelLowerSaid : Prop := selLowerRow.holds Try.pinned (OpenSpec.ofChange selLowerSpec)

/-- ITS FALSE NEIGHBOUR: 'it returns false'. Refute it at one input. -/
def selLowerWrong : ChangeSpec := { name := "selLower", fn := fun _ => fun
  | [d] => { results := [.lit (.bool false)], args := [d] }
  | _ => none }
def SelLowerWrongFalsely : Prop := selLowerRow.holds Try.pinned (OpenSpec.ofChange selLowerWrong)

/- THE SECOND FORM. 'bulk': how many values and letters a reading holds, each counted each time it is reached (what is shared counts as often as it is met; a slice's spare places count too). A statement '..UptoSaid' is the law's where the arguments, and the package variables that the reading takes, are together of bulk at most 1048576: NARROWER than '..Said'. Prove '..Said' where nothing that the law and all that it calls make is longer than what came in: it says more and counts as full. Else prove '..UptoSaid'. A law counts once. -/
mutual
def uptoBulk {H : Type} : DataW H → Nat
  | .lit (.string bytes) => bytes.length + 1
  | .lit _ => 1
  | .nil => 1
  | .ptr d => uptoBulk d + 1
  | .slice elems spare => uptoBulkAll elems + uptoBulkAll spare + 1
  | .agg parts => uptoBulkAll parts + 1
  | .iface _ d => uptoBulk d + 1
  | .map entries => uptoBulkEntries entries + 1
  | .held _ => 1
def uptoBulkAll {H : Type} : List (DataW H) → Nat
  | [] => 0
  | d :: r => uptoBulk d + uptoBulkAll r
def uptoBulkEntries {H : Type} : List (Lit × DataW H) → Nat
  | [] => 0
  | x :: r => uptoBulkEntry x + uptoBulkEntries r
def uptoBulkEntry {H : Type} : Lit × DataW H → Nat
  | (.string bytes, d) => bytes.length + uptoBulk d + 1
  | (_, d) => uptoBulk d + 1
 end
def uptoSmall : (H : Type) → List (DataW H) → Bool := fun _ ds => decide (uptoBulkAll ds ≤ 1048576)
def OpenSpec.upto (s : _root_.Go.ChangeSpec) : _root_.Go.OpenSpec := { _root_.Go.OpenSpec.ofChange s with cond := some uptoSmall }

/-- 'tapestrierlaw8.SelParse', WHERE WHAT IT READS IS OF BULK AT MOST 1048576: true; the input reads as it did. -/
def selParseUptoRow : OpenClaim := { program := "ytdfiegleaknleaa", sum := "55beea633cde0690d0b232afd14c5400c97294a7d3d290cf7c7a45bedab1b070", func := "tapestrier/tapestrierlaw8.SelParse", spec := "selParse", recurses := true, apart := false, narrowed := true }
def SelParseUptoSaid : Prop := selParseUptoRow.holds Try.pinned (OpenSpec.upto selParseSpec)

/-- 'tapestrierlaw8.SelBytes', WHERE WHAT IT READS IS OF BULK AT MOST 1048576: true; the input reads as it did. -/
def selBytesUptoRow : OpenClaim := { program := "ytdfiegleaknleaa", sum := "55beea633cde0690d0b232afd14c5400c97294a7d3d290cf7c7a45bedab1b070", func := "tapestrier/tapestrierlaw8.SelBytes", spec := "selBytes", recurses := true, apart := false, narrowed := true }
def SelBytesUptoSaid : Prop := selBytesUptoRow.holds Try.pinned (OpenSpec.upto selBytesSpec)

/-- 'tapestrierlaw8.SelDeep', WHERE WHAT IT READS IS OF BULK AT MOST 1048576: true; the input reads as it did. -/
def selDeepUptoRow : OpenClaim := { program := "ytdfiegleaknleaa", sum := "55beea633cde0690d0b232afd14c5400c97294a7d3d290cf7c7a45bedab1b070", func := "tapestrier/tapestrierlaw8.SelDeep", spec := "selDeep", recurses := true, apart := false, narrowed := true }
def SelDeepUptoSaid : Prop := selDeepUptoRow.holds Try.pinned (OpenSpec.upto selDeepSpec)

/-- 'tapestrierlaw8.SelAttrs', WHERE WHAT IT READS IS OF BULK AT MOST 1048576: true; the input reads as it did. -/
def selAttrsUptoRow : OpenClaim := { program := "ytdfiegleaknleaa", sum := "55beea633cde0690d0b232afd14c5400c97294a7d3d290cf7c7a45bedab1b070", func := "tapestrier/tapestrierlaw8.SelAttrs", spec := "selAttrs", recurses := true, apart := false, narrowed := true }
def SelAttrsUptoSaid : Prop := selAttrsUptoRow.holds Try.pinned (OpenSpec.upto selAttrsSpec)

/-- 'tapestrierlaw8.SelNth', WHERE WHAT IT READS IS OF BULK AT MOST 1048576: true; the input reads as it did. -/
def selNthUptoRow : OpenClaim := { program := "ytdfiegleaknleaa", sum := "55beea633cde0690d0b232afd14c5400c97294a7d3d290cf7c7a45bedab1b070", func := "tapestrier/tapestrierlaw8.SelNth", spec := "selNth", recurses := true, apart := false, narrowed := true }
def SelNthUptoSaid : Prop := selNthUptoRow.holds Try.pinned (OpenSpec.upto selNthSpec)

/-- 'tapestrierlaw8.SelCombs', WHERE WHAT IT READS IS OF BULK AT MOST 1048576: true; the input reads as it did. -/
def selCombsUptoRow : OpenClaim := { program := "ytdfiegleaknleaa", sum := "55beea633cde0690d0b232afd14c5400c97294a7d3d290cf7c7a45bedab1b070", func := "tapestrier/tapestrierlaw8.SelCombs", spec := "selCombs", recurses := true, apart := false, narrowed := true }
def SelCombsUptoSaid : Prop := selCombsUptoRow.holds Try.pinned (OpenSpec.upto selCombsSpec)

/-- 'tapestrierlaw8.SelNone', WHERE WHAT IT READS IS OF BULK AT MOST 1048576: true; the input reads as it did. -/
def selNoneUptoRow : OpenClaim := { program := "ytdfiegleaknleaa", sum := "55beea633cde0690d0b232afd14c5400c97294a7d3d290cf7c7a45bedab1b070", func := "tapestrier/tapestrierlaw8.SelNone", spec := "selNone", recurses := true, apart := false, narrowed := true }
def SelNoneUptoSaid : Prop := selNoneUptoRow.holds Try.pinned (OpenSpec.upto selNoneSpec)

/-- 'tapestrierlaw8.SelSome', WHERE WHAT IT READS IS OF BULK AT MOST 1048576: true; the input reads as it did. -/
def selSomeUptoRow : OpenClaim := { program := "ytdfiegleaknleaa", sum := "55beea633cde0690d0b232afd14c5400c97294a7d3d290cf7c7a45bedab1b070", func := "tapestrier/tapestrierlaw8.SelSome", spec := "selSome", recurses := true, apart := false, narrowed := true }
def SelSomeUptoSaid : Prop := selSomeUptoRow.holds Try.pinned (OpenSpec.upto selSomeSpec)

/-- 'tapestrierlaw8.SelLong', WHERE WHAT IT READS IS OF BULK AT MOST 1048576: true; the input reads as it did. -/
def selLongUptoRow : OpenClaim := { program := "ytdfiegleaknleaa", sum := "55beea633cde0690d0b232afd14c5400c97294a7d3d290cf7c7a45bedab1b070", func := "tapestrier/tapestrierlaw8.SelLong", spec := "selLong", recurses := true, apart := false, narrowed := true }
def SelLongUptoSaid : Prop := selLongUptoRow.holds Try.pinned (OpenSpec.upto selLongSpec)

/-- 'tapestrierlaw8.SelLower', WHERE WHAT IT READS IS OF BULK AT MOST 1048576: true; the input reads as it did. -/
def selLowerUptoRow : OpenClaim := { program := "ytdfiegleaknleaa", sum := "55beea633cde0690d0b232afd14c5400c97294a7d3d290cf7c7a45bedab1b070", func := "tapestrier/tapestrierlaw8.SelLower", spec := "selLower", recurses := true, apart := false, narrowed := true }
def SelLowerUptoSaid : Prop := selLowerUptoRow.holds Try.pinned (OpenSpec.upto selLowerSpec)

end Rows
end Go.Proofs.Ytdfiegleaknleaa
