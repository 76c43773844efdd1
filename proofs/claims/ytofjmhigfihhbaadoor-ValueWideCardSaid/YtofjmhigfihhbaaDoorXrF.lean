/- The reference's Num. -/
import Derived.Test.YtofjmhigfihhbaaDoorXrE
namespace Go.Proofs.YtofjmhigfihhbaaDoor.Aw
open Go Go.RowKit Go.Lib
set_option linter.unusedVariables false
set_option linter.unusedSimpArgs false
set_option maxRecDepth 100000
def wholeRun : List UInt8 → Int → Nat → List UInt8 × Int × Nat
  | [], n, k => ([], n, k)
  | b :: r, n, k => if digit b.toNat then wholeRun r (if n * 10 + b.toNat - 48 > 2147483647 then 2147483647 else n * 10 + b.toNat - 48) (k + 1) else (b :: r, n, k)
def fracRun : List UInt8 → Int → Int → Nat → List UInt8 × Int × Nat
  | [], n, u, k => ([], n, k)
  | b :: r, n, u, k => if digit b.toNat then fracRun r (n + u * (b.toNat - 48)) (u.tdiv 10) (k + 1) else (b :: r, n, k)
def numTail (below : Bool) (n : Int) (bad : Bool) : Int × Bool := if bad then (0, false) else (cap (if below then 0 - n else n), true)
def numPoint (below : Bool) (r : List UInt8) (n : Int) (whole : Nat) : Int × Bool :=
  match r with
  | [] => numTail below (n * 1000) (decide (whole = 0))
  | b :: r => if b.toNat = 46 then (match fracRun r (n * 1000) 100 0 with
    | (r, n, k) => numTail below n (!r.isEmpty || decide (k = 0)))
    else (0, false)
def numSign (bs : List UInt8) : Bool × Nat := match bs with
  | [] => (false, 0)
  | b :: _ => if b.toNat = 45 then (true, 1) else if b.toNat = 43 then (false, 1) else (false, 0)
def numV (bs : List UInt8) : Int × Bool := match wholeRun (bs.drop (numSign bs).2) 0 0 with
  | (r, n, k) => numPoint (numSign bs).1 r n k
theorem drop_cons {bs : List UInt8} {i : Nat} {b : UInt8} {r : List UInt8} (h : bs.drop i = b :: r) : bs[i]? = some b ∧ bs.drop (i + 1) = r ∧ i < bs.length := by
  have h1 : bs[i]? = some b := by
    have := congrArg (·[0]?) h
    simpa using this
  refine ⟨h1, ?_, ?_⟩
  · have := congrArg List.tail h
    simpa [List.tail_drop] using this
  · exact (List.getElem?_eq_some_iff.1 h1).1
theorem drop_nil {bs : List UInt8} {i : Nat} (h : bs.drop i = []) : bs.length ≤ i := by
  simpa using h
structure NumI (bs : List UInt8) (s : Nat × Int × Nat) : Prop where
  i : s.1 ≤ bs.length
  n0 : 0 ≤ s.2.1
  n1 : s.2.1 ≤ 2147483647
  k : s.2.2 ≤ s.1
  run : wholeRun (bs.drop s.1) s.2.1 s.2.2 = wholeRun (bs.drop (numSign bs).2) 0 0
structure NumJ (bs : List UInt8) (s : Nat × Int × Nat) : Prop where
  i : s.1 ≤ bs.length
  n0 : 0 ≤ s.2.1
  n1 : s.2.1 ≤ 2147483647
  k : s.2.2 ≤ s.1
  run : wholeRun (bs.drop (numSign bs).2) 0 0 = (bs.drop s.1, s.2.1, s.2.2)
structure NumK (bs r : List UInt8) (n : Int) (s : Nat × Int × Int × Nat) : Prop where
  i : s.1 ≤ bs.length
  n0 : 0 ≤ s.2.1
  u0 : 0 ≤ s.2.2.1
  u1 : s.2.2.1 ≤ 100
  n1 : s.2.1 + 10 * s.2.2.1 ≤ 2147483648000
  k : s.2.2.2 ≤ s.1
  run : fracRun (bs.drop s.1) s.2.1 s.2.2.1 s.2.2.2 = fracRun r (n * 1000) 100 0
theorem Fin.num {x y : Int} {b c : Bool} {H : Hp} {n n0 : Nat} (e : (x, b) = (y, c)) : Fin (.tup [int x, bool b]) H n 0 n0 (fun d H => H = [] ∧ d = .tup [int y, bool c]) := by
  cases e
  exact Fin.scal ⟨trivial, trivial, trivial⟩ ⟨rfl, rfl⟩
theorem numSign_le (bs : List UInt8) : (numSign bs).2 ≤ bs.length := by
  unfold numSign
  cases bs with
  | nil => simp
  | cons b r => dsimp only; (repeat' split) <;> simp
theorem digit_le {c : Int} (h : digit c = true) : 48 ≤ c ∧ c ≤ 57 := by simpa [digit] using h
end Go.Proofs.YtofjmhigfihhbaaDoor.Aw
