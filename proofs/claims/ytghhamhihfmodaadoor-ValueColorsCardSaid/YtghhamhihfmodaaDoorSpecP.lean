/- What value.Parse answers for one token, as a function. -/
import Derived.Test.YtghhamhihfmodaaDoorSpecV
namespace Go.Proofs.YtghhamhihfmodaaDoor.Giv
open Go.RowKit Go.Proofs.YtghhamhihfmodaaDoor.Low
def numV (p n : Int) (wh : Bool) : Int × Int × Bool := if p = 5 ∧ n = 0 then (2, 0, true) else if p = 6 then (5, (if 1000 < (if 0 < n then n else 0) then 1000 else (if 0 < n then n else 0)), true) else if p = 7 ∧ wh = true then (5, n, true) else (0, 0, false)
def lengthV (kind : Int) (l : List UInt8) (n : Int) : Int × Int × Bool := if kind = 8 ∧ l = [112, 120] then (2, n, true) else if kind = 8 ∧ l = [101, 109] then (3, n, true) else if kind = 7 then (4, n, true) else (0, 0, false)
def parseV (p kind : Int) (t : ByteArray) (n : Int) (wh : Bool) : Int × Int × Bool :=
  if 0 ≤ p ∧ p < 8 then
    if kind = 1 then wordV p (lowB t).data.toList
    else if kind = 3 ∧ p = 0 then colorV t.data.toList
    else if kind = 6 then numV p n wh
    else if p = 5 ∨ ((p = 1 ∨ p = 4) ∧ 0 ≤ n) then lengthV kind (lowB t).data.toList n
    else (0, 0, false)
  else (0, 0, false)
end Go.Proofs.YtghhamhihfmodaaDoor.Giv
