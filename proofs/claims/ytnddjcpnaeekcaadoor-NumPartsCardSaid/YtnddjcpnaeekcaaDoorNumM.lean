/- Plain laws of chapter 3 on texts: the text of a number is read back, signs turn it, digits behind the third are dropped, and a long row of digits is cut. -/
import Derived.Test.YtnddjcpnaeekcaaDoorNumL
namespace Go.Proofs.YtnddjcpnaeekcaaDoor.NumA
open Go.RowKit
theorem dg_of (d : Nat) (h : d < 10) : dg (UInt8.ofNat (48 + d)) = true ∧ dv (UInt8.ofNat (48 + d)) = d := by
  have e : (UInt8.ofNat (48 + d)).toNat = 48 + d := by simp [UInt8.toNat_ofNat]; omega
  constructor
  · simp [dg, UInt8.le_iff_toNat_le]; omega
  · unfold dv; rw [e]; omega
theorem dec_all (u : Nat) : (Lib.decDigits u).all dg = true := by
  induction u using Nat.strongRecOn with
  | _ u ih =>
    by_cases h : u < 10
    · rw [dec_small h]; simp only [List.all_cons, List.all_nil, (dg_of u h).1, Bool.and_true]
    · rw [dec_big h, List.all_append, ih (u / 10) (by omega)]; simp only [List.all_cons, List.all_nil, (dg_of (u % 10) (by omega)).1, Bool.and_true]
theorem dec_ne (u : Nat) : (Lib.decDigits u).isEmpty = false := by
  by_cases h : u < 10
  · rw [dec_small h]; rfl
  · rw [dec_big h]; cases Lib.decDigits (u / 10) <;> rfl
theorem dec_fold (u : Nat) : u < 1000000000000 → foldF (Lib.decDigits u) = u := by
  induction u using Nat.strongRecOn with
  | _ u ih =>
    intro hu
    by_cases h : u < 10
    · rw [dec_small h]
      show stepF 0 _ = _
      unfold stepF; rw [(dg_of u h).2, if_neg (by omega)]; omega
    · rw [dec_big h, foldF_snoc, ih (u / 10) (by omega) (by omega)]
      unfold stepF; rw [(dg_of (u % 10) (by omega)).2, if_neg (by omega)]; omega
theorem dec_tail (x : Nat) (h : x < 1000) : (Lib.decDigits (1000 + x)).drop 1 = [UInt8.ofNat (48 + x / 100), UInt8.ofNat (48 + x / 10 % 10), UInt8.ofNat (48 + x % 10)] := by
  rw [dec_big (by omega), show (1000 + x) / 10 = 100 + x / 10 by omega, dec_big (by omega), show (100 + x / 10) / 10 = 10 + x / 100 by omega, dec_big (by omega), show (10 + x / 100) / 10 = 1 by omega, dec_small (by omega),
    show (10 + x / 100) % 10 = x / 100 by omega, show (100 + x / 10) % 10 = x / 10 % 10 by omega, show (1000 + x) % 10 = x % 10 by omega]
  rfl
theorem body_plain (neg : Bool) (wh : List UInt8) (h : wh.all dg = true) (hne : wh.isEmpty = false) : numBody neg wh = (sgn neg (foldF wh * 1000), true) := by
  have e := splitDot_run wh [] h
  rw [List.append_nil] at e
  unfold numBody
  rw [e]
  simp only [splitDot, List.append_nil, h, hne, Bool.not_false, Bool.and_true, if_true]
  congr 2
  simp [fracL, dL]; omega
theorem body_point (neg : Bool) (wh pt : List UInt8) (h : wh.all dg = true) (hp : pt.all dg = true) (hne : pt.isEmpty = false) : numBody neg (wh ++ 46 :: pt) = (sgn neg (fracL (foldF wh) pt), true) := by
  have e := splitDot_run wh (46 :: pt) h
  have e2 : splitDot (46 :: pt) = ([], some pt) := by rw [splitDot, if_pos rfl]
  rw [e2, List.append_nil] at e
  unfold numBody
  rw [e]
  simp only [h, hp, hne, Bool.not_false, Bool.and_true, if_true]
theorem frac_three (w x : Nat) (hx : x < 1000) (more : List UInt8) : fracL (w : Int) ([UInt8.ofNat (48 + x / 100), UInt8.ofNat (48 + x / 10 % 10), UInt8.ofNat (48 + x % 10)] ++ more) = (w : Int) * 1000 + x := by
  have a0 := (dg_of (x / 100) (by omega)).2
  have a1 := (dg_of (x / 10 % 10) (by omega)).2
  have a2 := (dg_of (x % 10) (by omega)).2
  simp only [fracL, dL, List.cons_append, List.nil_append, List.getElem?_cons_zero, List.getElem?_cons_succ]
  rw [a0, a1, a2]
  omega
/-- The text of a number from 0 on, as bytes. -/
def posT (a : Nat) : List UInt8 := Lib.decDigits (a / 1000) ++ (if 0 < a % 1000 then 46 :: (Lib.decDigits (1000 + a % 1000)).drop 1 else [])
theorem posT_body (neg : Bool) (a : Nat) (h : a ≤ 2147483647) : numBody neg (posT a) = (sgn neg a, true) := by
  unfold posT
  by_cases hx : 0 < a % 1000
  · rw [if_pos hx, dec_tail _ (by omega), body_point _ _ _ (dec_all _) ?_ rfl, dec_fold _ (by omega)]
    · have := frac_three (a / 1000) (a % 1000) (by omega) []
      rw [List.append_nil] at this
      rw [this]
      congr 2
      omega
    · simp only [List.all_cons, List.all_nil, Bool.and_true, (dg_of (a % 1000 / 100) (by omega)).1, (dg_of (a % 1000 / 10 % 10) (by omega)).1, (dg_of (a % 1000 % 10) (by omega)).1]
  · rw [if_neg hx, List.append_nil, body_plain _ _ (dec_all _) (dec_ne _), dec_fold _ (by omega)]
    congr 2
    omega
theorem posT_head (a : Nat) : ∃ c l, posT a = c :: l ∧ c ≠ 45 ∧ c ≠ 43 ∧ dg c = true := by
  have h1 := dec_all (a / 1000)
  have h2 := dec_ne (a / 1000)
  unfold posT
  cases e : Lib.decDigits (a / 1000) with
  | nil => rw [e] at h2; cases h2
  | cons c l =>
    rw [e] at h1
    simp only [List.all_cons, Bool.and_eq_true] at h1
    exact ⟨c, _, rfl, by rintro rfl; exact absurd h1.1 (by decide), by rintro rfl; exact absurd h1.1 (by decide), h1.1⟩
theorem numL_pos (a : Nat) (h : a ≤ 2147483647) : numL (posT a) = (sgn false a, true) := by
  obtain ⟨c, l, e, h1, h2, _⟩ := posT_head a
  rw [← posT_body false a h, e]
  simp only [numL]
  rw [if_neg h1, if_neg h2]
theorem textB_list (n : Int) : (textB n).data.toList = (if capI n < 0 then [45] else []) ++ posT (capI n).natAbs := by
  have e : ∀ l : List UInt8, (str l).data.toList = l := fun l => rfl
  unfold textB posT
  by_cases h1 : capI n < 0 <;> by_cases h2 : 0 < (capI n).natAbs % 1000 <;> simp [h1, h2, ByteArray.data_append, e, str_size] <;> exact List.take_of_length_le (by simp)
theorem capI_capI (n : Int) : capI (capI n) = capI n := by have := capI_bd n; unfold capI at *; split <;> (try split) <;> omega
theorem capI_self {n : Int} (h0 : -2147483647 ≤ n) (h1 : n ≤ 2147483647) : capI n = n := by unfold capI; rw [if_neg (by omega), if_neg (by omega)]
theorem back (n : Int) : numOf (textB n) = (capI n, true) := by
  have hb := capI_bd n
  rw [numOf_numL, textB_list]
  by_cases h : capI n < 0
  · rw [if_pos h]
    rw [show numL ([45] ++ posT (capI n).natAbs) = numBody true (posT (capI n).natAbs) from rfl, posT_body _ _ (by omega)]
    unfold sgn
    rw [if_pos rfl, capI_self (by omega) (by omega)]
    congr 1; omega
  · rw [if_neg h, List.nil_append, numL_pos _ (by omega)]
    unfold sgn
    rw [if_neg (by decide), capI_self (by omega) (by omega)]
    congr 1; omega
end Go.Proofs.YtnddjcpnaeekcaaDoor.NumA
