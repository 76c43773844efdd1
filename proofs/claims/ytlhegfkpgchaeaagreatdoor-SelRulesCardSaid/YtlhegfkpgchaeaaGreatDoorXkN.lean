/- What num.Of answers, over lists of bytes, is what the reference's Num answers. -/
import Derived.Test.YtlhegfkpgchaeaaGreatDoorXrI
import Derived.Lib.IndexLaws
import Derived.Lib.Strings
namespace Go.Proofs.YtlhegfkpgchaeaaGreatDoor.Aw
open Go Go.RowKit Go.Lib
set_option linter.unusedVariables false
set_option linter.unusedSimpArgs false
set_option maxRecDepth 100000
def dgB (c : UInt8) : Bool := digit c.toNat
def dvB (c : UInt8) : Int := (c.toNat : Int) - 48
def stepF (n : Int) (c : UInt8) : Int := if 1099511627776 < n * 10 + dvB c then 1099511627776 else n * 10 + dvB c
def foldF (l : List UInt8) : Int := l.foldl stepF 0
def stepRn (n : Int) (c : UInt8) : Int := if n * 10 + c.toNat - 48 > 2147483647 then 2147483647 else n * 10 + c.toNat - 48
def foldR (l : List UInt8) : Int := l.foldl stepRn 0
def splitDot : List UInt8 → List UInt8 × Option (List UInt8)
 | [] => ([], none)
 | c :: l => if c.toNat = 46 then ([], some l) else (c :: (splitDot l).1, (splitDot l).2)
def dL (p : List UInt8) (i : Nat) : Int := match p[i]? with | some c => dvB c | none => 0
def fracL (n : Int) (p : List UInt8) : Int := ((n * 10 + dL p 0) * 10 + dL p 1) * 10 + dL p 2
def sgnN (neg : Bool) (n : Int) : Int := cap (if neg then 0 - n else n)
def numBody (neg : Bool) (wh : List UInt8) (pt : Option (List UInt8)) : Int × Bool :=
 match pt with
 | none => if wh.all dgB && !wh.isEmpty then (sgnN neg (fracL (foldF wh) []), true) else (0, false)
 | some pt => if wh.all dgB && pt.all dgB && !pt.isEmpty then (sgnN neg (fracL (foldF wh) pt), true) else (0, false)
def numL (bs : List UInt8) : Int × Bool := numBody (numSign bs).1 (splitDot (bs.drop (numSign bs).2)).1 (splitDot (bs.drop (numSign bs).2)).2
theorem dgB_le {c : UInt8} (h : dgB c = true) : 48 ≤ (c.toNat : Int) ∧ (c.toNat : Int) ≤ 57 := digit_le h
def RunEnd : List UInt8 → Prop
 | [] => True
 | b :: _ => dgB b = false
theorem wholeRun_is : ∀ (t : List UInt8) (n : Int) (k : Nat), ∃ pre rest, t = pre ++ rest ∧ pre.all dgB = true ∧ RunEnd rest ∧ wholeRun t n k = (rest, pre.foldl stepRn n, k + pre.length)
 | [], n, k => ⟨[], [], rfl, rfl, trivial, rfl⟩
 | b :: r, n, k => by
  unfold wholeRun
  by_cases h : digit b.toNat = true
  ·rw [if_pos h]
   obtain ⟨pre, rest, h1, h2, h3, h4⟩ := wholeRun_is r (stepRn n b) (k + 1)
   refine ⟨b :: pre, rest, by rw [h1]; rfl, by simp [h2]; exact h, h3, ?_⟩
   refine h4.trans ?_
   rw [List.foldl_cons, List.length_cons, show k + 1 + pre.length = k + (pre.length + 1) by omega]
  ·rw [if_neg h]
   exact ⟨[], b :: r, rfl, rfl, by unfold RunEnd dgB; simpa using h, rfl⟩
def fracR (n : Int) : Int → List UInt8 → Int
 | _, [] => n
 | u, c :: l => fracR (n + u * dvB c) (u.tdiv 10) l
theorem fracRun_is : ∀ (t : List UInt8) (n u : Int) (k : Nat), ∃ pre rest, t = pre ++ rest ∧ pre.all dgB = true ∧ RunEnd rest ∧ fracRun t n u k = (rest, fracR n u pre, k + pre.length)
 | [], n, u, k => ⟨[], [], rfl, rfl, trivial, rfl⟩
 | b :: r, n, u, k => by
  unfold fracRun
  by_cases h : digit b.toNat = true
  ·rw [if_pos h]
   obtain ⟨pre, rest, h1, h2, h3, h4⟩ := fracRun_is r (n + u * dvB b) (u.tdiv 10) (k + 1)
   refine ⟨b :: pre, rest, by rw [h1]; rfl, by simp [h2]; exact h, h3, ?_⟩
   refine h4.trans ?_
   rw [fracR, List.length_cons, show k + 1 + pre.length = k + (pre.length + 1) by omega]
  ·rw [if_neg h]
   exact ⟨[], b :: r, rfl, rfl, by unfold RunEnd dgB; simpa using h, rfl⟩
theorem splitDot_run : ∀ (a r : List UInt8), a.all dgB = true → splitDot (a ++ r) = (a ++ (splitDot r).1, (splitDot r).2)
 | [], r, _ => rfl
 | c :: a, r, h => by
  simp only [List.all_cons, Bool.and_eq_true] at h
  have hc : ¬ c.toNat = 46 := by have := dgB_le h.1; omega
  rw [List.cons_append, splitDot, if_neg hc, splitDot_run a r h.2]; rfl
theorem foldF_bd : ∀ (l : List UInt8), l.all dgB = true → ∀ n, 0 ≤ n → n ≤ 1099511627776 → 0 ≤ l.foldl stepF n ∧ l.foldl stepF n ≤ 1099511627776
 | [], _, n, h0, h1 => ⟨h0, h1⟩
 | c :: l, h, n, h0, h1 => by
  simp only [List.all_cons, Bool.and_eq_true] at h
  have h2 := dgB_le h.1
  refine foldF_bd l h.2 _ ?_ ?_ <;> unfold stepF dvB <;> split <;> omega
theorem foldl_RF (l : List UInt8) (h : l.all dgB = true) : ∀ n m, 0 ≤ n → m = min n 2147483647 → l.foldl stepRn m = min (l.foldl stepF n) 2147483647 := by
 induction l with
 | nil => intro n m _ hm; exact hm
 | cons c l ih =>
  intro n m hn hm
  simp only [List.all_cons, Bool.and_eq_true] at h
  have h2 := dgB_le h.1
  refine ih h.2 _ _ ?_ ?_
  ·unfold stepF dvB; split <;> omega
  ·unfold stepF stepRn dvB; split <;> split <;> omega
theorem foldR_F (l : List UInt8) (h : l.all dgB = true) : foldR l = min (foldF l) 2147483647 := foldl_RF l h 0 0 (by omega) rfl
theorem foldF_nn (l : List UInt8) (h : l.all dgB = true) : 0 ≤ foldF l := (foldF_bd l h 0 (by omega) (by omega)).1
theorem frac_zero (l : List UInt8) (n : Int) : fracR n 0 l = n := by
 induction l with
 | nil => rfl
 | cons c l ih => simp only [fracR, Int.zero_mul, Int.add_zero]; exact ih
theorem fracR_val (n : Int) (l : List UInt8) : fracR n 100 l = n + 100 * dL l 0 + 10 * dL l 1 + dL l 2 := by
 match l with
 | [] => simp [fracR, dL]
 | [a] => simp [fracR, dL]
 | [a, b] => simp [fracR, dL]
 | a :: b :: c :: l =>
  have : fracR (n + 100 * dvB a + 10 * dvB b + 1 * dvB c) 0 l = _ := frac_zero l _
  have e : fracR n 100 (a :: b :: c :: l) = fracR (n + 100 * dvB a + 10 * dvB b + 1 * dvB c) 0 l := rfl
  rw [e, this]; simp [dL]
theorem dL_bd (p : List UInt8) (h : p.all dgB = true) (i : Nat) : 0 ≤ dL p i ∧ dL p i ≤ 9 := by
 unfold dL
 cases e : p[i]? with
 | none => simp
 | some c =>
  have := dgB_le (List.all_eq_true.1 h c (List.mem_of_getElem? e))
  simp only; unfold dvB; omega
theorem sgn_eq (neg : Bool) (x y : Int) (h0 : 0 ≤ x) (h1 : 0 ≤ y) (h : x = y ∨ (2147483647 ≤ x ∧ 2147483647 ≤ y)) : sgnN neg x = sgnN neg y := by
 unfold sgnN cap; cases neg <;> simp only [Bool.false_eq_true, if_false, if_true] <;> (repeat' split) <;> omega
theorem numV_body (neg : Bool) (t : List UInt8) : (match wholeRun t 0 0 with | (r, n, k) => numPoint neg r n k) = numBody neg (splitDot t).1 (splitDot t).2 := by
 obtain ⟨pre, rest, rfl, h2, h3, h4⟩ := wholeRun_is t 0 0
 rw [h4, splitDot_run _ _ h2]
 have hnn := foldF_nn _ h2
 have hRF := foldR_F _ h2
 change pre.foldl stepRn 0 = _ at hRF
 rw [hRF]
 match rest, h3 with
 | [], _ =>
  simp only [numPoint, splitDot, numBody, List.append_nil, h2, Bool.true_and, numTail]
  cases pre with
  | nil => rfl
  | cons a l =>
   refine congrArg (fun x => (x, true)) (sgn_eq neg _ _ ?_ ?_ ?_) <;> (try simp only [fracL, dL]) <;> (try simp) <;> omega
 | b :: r, h3 =>
  simp only [numPoint, splitDot]
  by_cases h46 : b.toNat = 46
  ·rw [if_pos h46, if_pos h46]
   obtain ⟨pre2, rest2, rfl, g2, g3, g4⟩ := fracRun_is r (min (foldF pre) 2147483647 * 1000) 100 0
   rw [g4]
   simp only [numBody, List.append_nil, h2, Bool.true_and, numTail]
   match rest2, g3 with
   | [], _ =>
    simp only [List.append_nil, g2, Bool.true_and]
    cases pre2 with
    | nil => rfl
    | cons a l =>
     have b0 := dL_bd _ g2 0
     have b1 := dL_bd _ g2 1
     have b2 := dL_bd _ g2 2
     rw [fracR_val]
     refine congrArg (fun x => (x, true)) (sgn_eq neg _ _ ?_ ?_ ?_) <;> (try simp only [fracL]) <;> omega
   | c :: r2, g3 =>
    have e : (pre2 ++ c :: r2).all dgB = false := by
     rw [List.all_append, List.all_cons, show dgB c = false from g3]
     simp
    rw [e]
    simp
  ·rw [if_neg h46, if_neg h46]
   have e : (pre ++ b :: (splitDot r).1).all dgB = false := by
    rw [List.all_append, List.all_cons, show dgB b = false from h3]
    simp
   unfold numBody
   cases hs : (splitDot r).2 with
   | none => simp only; rw [hs] at *; simp only [e]; simp
   | some pt => simp only [e]; simp
theorem numV_numL (bs : List UInt8) : numV bs = numL bs := numV_body _ _
theorem splitDot_none : ∀ (l : List UInt8), Lib.indexByte l 46 < 0 → splitDot l = (l, none)
 | [], _ => rfl
 | c :: l, h => by
  unfold Lib.indexByte at h
  have hc : ¬ c.toNat = 46 := by intro e; obtain rfl : c = 46 := UInt8.toNat_inj.1 e; simp at h
  have hl : Lib.indexByte l 46 < 0 := by
   by_cases e : Lib.indexByte l 46 == -1
   ·have := beq_iff_eq.1 e; omega
   ·have hb : (c == 46) = false := by simpa using fun e => hc (by rw [e]; rfl)
    rw [hb] at h; simp [e] at h
    have := Lib.indexByte_ge l 46
    omega
  rw [splitDot, if_neg hc, splitDot_none l hl]
theorem splitDot_some : ∀ (l : List UInt8) (j : Nat), Lib.indexByte l 46 = j → splitDot l = (l.take j, some (l.drop (j + 1)))
 | [], j, h => by simp [Lib.indexByte] at h
 | c :: l, j, h => by
  unfold Lib.indexByte at h
  by_cases hc : c.toNat = 46
  ·obtain rfl : c = 46 := UInt8.toNat_inj.1 hc
   simp at h; obtain rfl : j = 0 := by omega
   simp [splitDot]
  ·have hb : (c == 46) = false := by simpa using fun e => hc (by rw [e]; rfl)
   rw [hb] at h
   simp only [Bool.false_eq_true, if_false] at h
   by_cases e : Lib.indexByte l 46 = -1
   ·simp [e] at h
   ·have := Lib.indexByte_ge l 46
    rw [if_neg (by simpa using e)] at h
    obtain ⟨j, rfl⟩ : ∃ k, j = k + 1 := ⟨j - 1, by omega⟩
    rw [splitDot, if_neg hc, splitDot_some l j (by omega)]
    simp
end Go.Proofs.YtlhegfkpgchaeaaGreatDoor.Aw
