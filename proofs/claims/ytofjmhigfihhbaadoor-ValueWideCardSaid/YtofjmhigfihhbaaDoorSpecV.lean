/- What package value's functions answer, as functions of lists of bytes. -/
import Derived.Test.YtofjmhigfihhbaaDoorLower
namespace Go.Proofs.YtofjmhigfihhbaaDoor.Giv
open Go.RowKit Go.Proofs.YtofjmhigfihhbaaDoor.Low
/-- The words of each property, in small letters, and their numbers. -/
def keyV (p : Int) (l : List UInt8) : Option (Int × Int) :=
  if p = 0 then
    if l = [98, 108, 97, 99, 107] then some (6, 0) else if l = [119, 104, 105, 116, 101] then some (6, 16777215) else if l = [114, 101, 100] then some (6, 16711680)
    else if l = [103, 114, 101, 101, 110] then some (6, 32768) else if l = [98, 108, 117, 101] then some (6, 255) else none
  else if p = 2 then
    if l = [108, 101, 102, 116] then some (1, 0) else if l = [114, 105, 103, 104, 116] then some (1, 1) else if l = [99, 101, 110, 116, 101, 114] then some (1, 2) else none
  else if p = 3 then
    if l = [110, 111, 110, 101] then some (1, 0) else if l = [98, 108, 111, 99, 107] then some (1, 1) else if l = [105, 110, 108, 105, 110, 101] then some (1, 2) else none
  else if p = 4 ∨ p = 7 then
    if l = [97, 117, 116, 111] then some (1, 0) else none
  else none
def wordV (p : Int) (l : List UInt8) : Int × Int × Bool :=
  if l = [105, 110, 104, 101, 114, 105, 116] then (7, 0, true) else if l = [105, 110, 105, 116, 105, 97, 108] then (8, 0, true) else if l = [117, 110, 115, 101, 116] then (9, 0, true)
  else match keyV p l with | some (k, n) => (k, n, true) | none => (0, 0, false)
/-- A digit of the base sixteen. -/
def hexV (c : UInt8) : Option Int :=
  if 48 ≤ c.toNat ∧ c.toNat ≤ 57 then some (c.toNat - 48) else if 97 ≤ c.toNat ∧ c.toNat ≤ 102 then some (c.toNat - 87) else if 65 ≤ c.toNat ∧ c.toNat ≤ 70 then some (c.toNat - 55) else none
def hexL : List UInt8 → Int → Option Int
  | [], n => some n
  | c :: l, n => match hexV c with | some d => hexL l (n * 16 + d) | none => none
def colorV (l : List UInt8) : Int × Int × Bool :=
  let m := match l with | [a, b, c] => [a, a, b, b, c, c] | _ => l
  if m.length = 6 then (match hexL m 0 with | some n => (6, n, true) | none => (0, 0, false)) else (0, 0, false)
def nameV : List (List UInt8) := [[99, 111, 108, 111, 114], [102, 111, 110, 116, 45, 115, 105, 122, 101], [116, 101, 120, 116, 45, 97, 108, 105, 103, 110], [100, 105, 115, 112, 108, 97, 121], [119, 105, 100, 116, 104], [109, 97, 114, 103, 105, 110], [111, 112, 97, 99, 105, 116, 121], [122, 45, 105, 110, 100, 101, 120]]
def propV (l : List UInt8) : Int × Bool := match nameV.findIdx? (· == l) with | some i => (i, true) | none => (0, false)
end Go.Proofs.YtofjmhigfihhbaaDoor.Giv
