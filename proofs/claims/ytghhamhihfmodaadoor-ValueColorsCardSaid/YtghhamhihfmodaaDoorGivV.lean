/- Contracts of package value's functions that no print takes, in the print's own form. -/
import Derived.Test.YtghhamhihfmodaaDoorSpecV
import Derived.Test.YtghhamhihfmodaaDoorWordB
import Derived.Test.YtghhamhihfmodaaDoorNam
import Derived.Test.YtghhamhihfmodaaDoorColor
namespace Go.Proofs.YtghhamhihfmodaaDoor.Giv
open Go.RowKit Go.Proofs.YtghhamhihfmodaaDoor.Low
def text_Lower.f (a0 : ByteArray) : Option ByteArray := if a0.size ≤ 140737488355328 then some (lowB a0) else none
theorem text_Lower.calls (a0 : ByteArray) (r : ByteArray) (w : World) (h : text_Lower.f a0 = some r) :
    Calls Tryd.prog 37 #[.string a0] w fun e w' => e = .returned (.string r) ∧ Below w.heap.size w w' := by
  unfold text_Lower.f at h
  split at h
  · cases h; exact lower a0 w (by assumption)
  · cases h
def tapestrierref1_Lower.f (a0 : ByteArray) : Option ByteArray := if a0.size ≤ 140737488355328 then some (lowB a0) else none
theorem tapestrierref1_Lower.calls (a0 : ByteArray) (r : ByteArray) (w : World) (h : tapestrierref1_Lower.f a0 = some r) :
    Calls Tryd.prog 15 #[.string a0] w fun e w' => e = .returned (.string r) ∧ Below w.heap.size w w' := by
  unfold tapestrierref1_Lower.f at h
  split at h
  · cases h; exact lowerR a0 w (by assumption)
  · cases h
def value_word.f (a0 : Int) (a1 : ByteArray) : Option (Int × Int × Bool) := if a1.size ≤ 140737488355328 then some (wordV a0 (lowB a1).data.toList) else none
theorem value_word.calls (a0 : Int) (a1 : ByteArray) (r1 : Int) (r2 : Int) (r3 : Bool) (w : World) (h : value_word.f a0 a1 = some (r1, r2, r3)) :
    Calls Tryd.prog 28 #[.int .i64 a0, .string a1] w fun e w' => e = .returned (.tuple #[.agg #[.int .i64 r1, .int .i64 r2], .bool r3]) ∧ Below w.heap.size w w' := by
  unfold value_word.f at h
  split at h
  · have e := Option.some.inj h
    have := Word.word a0 a1 w (by assumption)
    unfold Word.WordPost at this
    rw [e] at this
    exact this
  · cases h
def value_color.f (a0 : ByteArray) : Option (Int × Int × Bool) := if a0.size ≤ 140737488355328 then some (colorV a0.data.toList) else none
theorem value_color.calls (a0 : ByteArray) (r1 : Int) (r2 : Int) (r3 : Bool) (w : World) (h : value_color.f a0 = some (r1, r2, r3)) :
    Calls Tryd.prog 29 #[.string a0] w fun e w' => e = .returned (.tuple #[.agg #[.int .i64 r1, .int .i64 r2], .bool r3]) ∧ Below w.heap.size w w' := by
  unfold value_color.f at h
  split at h
  · have e := Option.some.inj h
    have := Color.color a0 w (by assumption)
    unfold Color.ColorPost at this
    rw [e] at this
    exact this
  · cases h
theorem propOf_eq (s : ByteArray) : Nam.propOf s = propV s.data.toList := by
  by_cases h0 : s = Nam.n0
  · subst h0; decide +kernel
  by_cases h1 : s = Nam.n1
  · subst h1; decide +kernel
  by_cases h2 : s = Nam.n2
  · subst h2; decide +kernel
  by_cases h3 : s = Nam.n3
  · subst h3; decide +kernel
  by_cases h4 : s = Nam.n4
  · subst h4; decide +kernel
  by_cases h5 : s = Nam.n5
  · subst h5; decide +kernel
  by_cases h6 : s = Nam.n6
  · subst h6; decide +kernel
  by_cases h7 : s = Nam.n7
  · subst h7; decide +kernel
  have e : ∀ n : ByteArray, s ≠ n → (n.data.toList == s.data.toList) = false := by
    intro n h; rw [beq_eq_false_iff_ne]; intro e; exact h (Go.WideShapes.bytes_inj (e.symm))
  have E : nameV = [Nam.n0.data.toList, Nam.n1.data.toList, Nam.n2.data.toList, Nam.n3.data.toList, Nam.n4.data.toList, Nam.n5.data.toList, Nam.n6.data.toList, Nam.n7.data.toList] := rfl
  have hz : propV s.data.toList = (0, false) := by
    unfold propV
    rw [E]
    simp only [List.findIdx?_cons, List.findIdx?_nil, e _ h0, e _ h1, e _ h2, e _ h3, e _ h4, e _ h5, e _ h6, e _ h7, Option.map_none, Bool.false_eq_true, if_false]
  rw [hz]
  unfold Nam.propOf
  rw [if_neg h0, if_neg h1, if_neg h2, if_neg h3, if_neg h4, if_neg h5, if_neg h6, if_neg h7]
theorem nameOf_eq (p : Int) : Nam.nameOf p = (if 0 ≤ p ∧ p < 8 then str (nameV.getD p.toNat []) else str []) := by
  unfold Nam.nameOf
  repeat' split
  all_goals first | (subst_vars; rfl) | omega | rfl
def value_Prop.f (a0 : ByteArray) : Option (Int × Bool) := some (propV a0.data.toList)
theorem value_Prop.calls (a0 : ByteArray) (r1 : Int) (r2 : Bool) (w : World) (h : value_Prop.f a0 = some (r1, r2)) :
    Calls Tryd.prog 19 #[.string a0] w fun e w' => e = .returned (.tuple #[.int .i64 r1, .bool r2]) ∧ Below w.heap.size w w' := by
  unfold value_Prop.f at h
  have e := Option.some.inj h
  have := Nam.prop a0 w
  rw [propOf_eq, e] at this
  exact this
def value_Name.f (a0 : Int) : Option ByteArray := some (if 0 ≤ a0 ∧ a0 < 8 then str (nameV.getD a0.toNat []) else str [])
theorem value_Name.calls (a0 : Int) (r : ByteArray) (w : World) (h : value_Name.f a0 = some r) :
    Calls Tryd.prog 21 #[.int .i64 a0] w fun e w' => e = .returned (.string r) ∧ Below w.heap.size w w' := by
  unfold value_Name.f at h
  cases h
  have := Nam.name a0 w
  rw [nameOf_eq] at this
  exact this
end Go.Proofs.YtghhamhihfmodaaDoor.Giv
