/- Regions that draw their order: the tree of orders, reckoned out of the text. -/
import Derived.Test.YtdfiegleaknleaaAwV
import Derived.Test.YtdfiegleaknleaaXrD
namespace Go.Proofs.Ytdfiegleaknleaa.Aw
open Go Go.RowKit Go.Lib
set_option linter.unusedVariables false
set_option linter.unusedSimpArgs false
def kindU (q : Nat) (o : Oper) : Nat := match o.op with
  | .load .. => 1
  | .buildSlice .. => 2
  | .alloc .. => 2
  | .call c => (match c.callee with
    | .builtin .len => 0
    | .value _ => q
    | _ => 3)
  | .move .. | .assign .. | .pick .. | .nilCheck .. | .binOp .. | .unOp .. | .fieldAddr .. | .field .. | .indexAddr .. | .index .. | .extract .. | .build .. | .slice .. => 0
  | _ => 3
def ordsL : List Edge → List Nat
  | [] => []
  | a :: l => a.on :: ordsL l
def predsU (o : Oper) : List Nat := match o.guard with
  | some (j, _) => j :: ordsL o.after.toList
  | none => ordsL o.after.toList
def rowsU (q : Nat) : List Oper → Nat → List (Nat × Nat × List Nat)
  | [], _ => []
  | o :: l, i => (i, kindU q o, predsU o) :: rowsU q l (i + 1)
def memU : List Nat → Nat → Bool
  | [], _ => false
  | x :: l, i => bif Nat.beq x i then true else memU l i
def allIn (done : List Nat) : List Nat → Bool
  | [] => true
  | x :: l => bif memU done x then allIn done l else false
/-- The first plain operation that is ready. -/
def plainU (done : List Nat) : List (Nat × Nat × List Nat) → Option (Nat × Nat)
  | [] => none
  | (i, q, ps) :: l => bif memU done i then plainU done l else bif Nat.ble q 1 then (bif allIn done ps then some (i, q) else plainU done l) else plainU done l
/-- Those of another kind that are ready. -/
def loudU (done : List Nat) : List (Nat × Nat × List Nat) → List (Nat × Nat)
  | [] => []
  | (i, q, ps) :: l => bif memU done i then loudU done l else bif Nat.ble q 1 then loudU done l else (bif allIn done ps then (i, q) :: loudU done l else loudU done l)
def treeU (rows : List (Nat × Nat × List Nat)) : Nat → List Nat → Tr
  | 0, _ => .done
  | f + 1, done => match plainU done rows with
    | some (i, q) => .one i q (treeU rows f (i :: done))
    | none => match loudU done rows with
      | [(i, q)] => .one i q (treeU rows f (i :: done))
      | [(i, q), (j, q')] => .two i q (treeU rows f (i :: done)) j q' (treeU rows f (j :: done))
      | _ => .done
def loudsU : List (Nat × Nat × List Nat) → List Nat
  | [] => []
  | (i, q, _) :: l => bif Nat.beq q 3 then i :: loudsU l else loudsU l
theorem step_auto (q : Nat) {id : Nat} {ops : Array Oper} {Q : X → List D → Hp → Nat → Prop} {E : List D} {H : Hp} {n : Nat}
    (hs : (Region.noSelect ops && (treeU (rowsU q ops.toList 0) ops.toList.length []).size == ops.size && (treeU (rowsU q ops.toList 0) ops.toList.length []).even && okU ops (loudsU (rowsU q ops.toList 0)) (treeU (rowsU q ops.toList 0) ops.toList.length []) (Array.replicate ops.size false)) = true)
    (h : drawV P tab ops.toList (treeU (rowsU q ops.toList 0) ops.toList.length []) (Q .normal) E H n) : Step P (.region id ops true) Q E H n :=
  step_draws tab_ok mix _ _ hs h
end Go.Proofs.Ytdfiegleaknleaa.Aw
