/- The plain law of chapter 3: what num.Of and the reference's Num answer is one pair, for every text that both take. -/
import Derived.Test.YtnddjcpnaeekcaaDoorNumZ
namespace Go.Proofs.YtnddjcpnaeekcaaDoor.NumA
open Go.RowKit
/-! The plain law: what num.Of answers, over lists of bytes. -/
def splitDot : List UInt8 → List UInt8 × Option (List UInt8)
  | [] => ([], none)
  | c :: l => if c = 46 then ([], some l) else (c :: (splitDot l).1, (splitDot l).2)
def dL (p : List UInt8) (i : Nat) : Int := match p[i]? with | some c => dv c | none => 0
def fracL (n : Int) (p : List UInt8) : Int := ((n * 10 + dL p 0) * 10 + dL p 1) * 10 + dL p 2
def sgn (neg : Bool) (n : Int) : Int := capI (if neg then -n else n)
def numBody (neg : Bool) (t : List UInt8) : Int × Bool :=
  match splitDot t with
  | (wh, none) => if wh.all dg && !wh.isEmpty then (sgn neg (fracL (foldF wh) []), true) else (0, false)
  | (wh, some pt) => if wh.all dg && pt.all dg && !pt.isEmpty then (sgn neg (fracL (foldF wh) pt), true) else (0, false)
def numL : List UInt8 → Int × Bool
  | [] => numBody false []
  | c :: l => if c = 45 then numBody true l else if c = 43 then numBody false l else numBody false (c :: l)

theorem splitDot_none : ∀ (l : List UInt8), Lib.indexByte l 46 < 0 → splitDot l = (l, none)
  | [], _ => rfl
  | c :: l, h => by
    unfold Lib.indexByte at h
    have hc : ¬ c = 46 := by intro e; subst e; simp at h
    have hl : Lib.indexByte l 46 < 0 := by
      by_cases e : Lib.indexByte l 46 == -1
      · have := beq_iff_eq.1 e; omega
      · have hb : (c == 46) = false := by simpa using hc
        rw [hb] at h; simp [e] at h
        have := Lib.indexByte_ge l 46
        omega
    rw [splitDot, if_neg hc, splitDot_none l hl]
theorem splitDot_some : ∀ (l : List UInt8) (j : Nat), Lib.indexByte l 46 = j → splitDot l = (l.take j, some (l.drop (j + 1)))
  | [], j, h => by simp [Lib.indexByte] at h
  | c :: l, j, h => by
    unfold Lib.indexByte at h
    by_cases hc : c = 46
    · subst hc; simp at h; obtain rfl : j = 0 := by omega
      simp [splitDot]
    · have hb : (c == 46) = false := by simpa using hc
      rw [hb] at h
      simp only [Bool.false_eq_true, if_false] at h
      by_cases e : Lib.indexByte l 46 = -1
      · simp [e] at h
      · have := Lib.indexByte_ge l 46
        rw [if_neg (by simpa using e)] at h
        obtain ⟨j, rfl⟩ : ∃ k, j = k + 1 := ⟨j - 1, by omega⟩
        rw [splitDot, if_neg hc, splitDot_some l j (by omega)]
        simp

theorem dAt_dL (p : ByteArray) (i : Nat) : dAt p i = dL p.data.toList i := by
  unfold dAt dL
  by_cases h : i < p.size
  · have h' : i < p.data.toList.length := h
    rw [dif_pos h, List.getElem?_eq_getElem h']; rfl
  · have h' : ¬ i < p.data.toList.length := h
    rw [dif_neg h, List.getElem?_eq_none (by omega)]
theorem fracP_fracL (n : Int) (p : ByteArray) : fracP n p = fracL n p.data.toList := by
  unfold fracP fracL accP accP accP accP; rw [dAt_dL, dAt_dL, dAt_dL]
theorem size_nil (s : ByteArray) : (s.size == 0) = s.data.toList.isEmpty := by
  obtain ⟨⟨l⟩⟩ := s
  cases l <;> rfl
theorem ext_list (s : ByteArray) (a b : Nat) : (s.extract a b).data.toList = (s.data.toList.take b).drop a := by
  simp [ByteArray.data_extract, List.drop_take]

theorem body_of (neg : Bool) (t : ByteArray) :
    (if badP t then ((0 : Int), false) else (sgn neg (fracP (foldF (cutDot t).1.data.toList) (cutDot t).2.1), true)) = numBody neg t.data.toList := by
  unfold numBody badP
  by_cases h : 0 ≤ Lib.indexByte t.data.toList 46
  · obtain ⟨j, hj⟩ := Int.eq_ofNat_of_zero_le h
    have hjl : j < t.data.toList.length := by have := index_room t 46; rw [hj] at this; simpa using this.2
    rw [splitDot_some _ j hj]
    have e : cutDot t = (t.extract 0 j, t.extract (j + 1) t.size, true) := by unfold cutDot; rw [if_pos h, hj]; rfl
    have e1 : (t.extract 0 j).data.toList = t.data.toList.take j := by rw [ext_list]; simp
    have e2 : (t.extract (j + 1) t.size).data.toList = t.data.toList.drop (j + 1) := by rw [ext_list, List.take_of_length_le (by simp)]
    rw [e]
    simp only [fracP_fracL, size_nil, e1, e2]
    cases (List.take j t.data.toList).all dg <;> cases (List.drop (j + 1) t.data.toList).all dg <;> cases (List.drop (j + 1) t.data.toList).isEmpty <;> simp
  · rw [splitDot_none _ (by omega)]
    have e : cutDot t = (t, ⟨#[]⟩, false) := by unfold cutDot; rw [if_neg h]
    rw [e]
    simp only [fracP_fracL, size_nil]
    cases t.data.toList.all dg <;> cases t.data.toList.isEmpty <;> simp

theorem numOf_numL (s : ByteArray) : numOf s = numL s.data.toList := by
  have key : ∀ neg, (signR s).1 = neg → numOf s = numBody neg (tl s).data.toList := by
    intro neg h
    rw [← body_of]; unfold numOf sgn; rw [h]
  have ht : ∀ c l, s.data.toList = c :: l → sgR s = true → (tl s).data.toList = l := by
    intro c l hl h
    unfold tl
    rw [if_pos h, ext_list, hl, List.take_of_length_le (by rw [← hl]; simp)]
    rfl
  have hhead : ∀ h : 0 < s.size, ∃ l, s.data.toList = s[0] :: l := by
    intro h
    obtain ⟨⟨l⟩⟩ := s
    cases l with
    | nil => exact absurd h (Nat.lt_irrefl _)
    | cons a l => exact ⟨l, rfl⟩
  rcases signR_cases s with ⟨h, h1, h2⟩ | ⟨h, h1, h2, h3⟩ | ⟨h, h1, h2, h3⟩ | ⟨h, h1, h2, h3, h4⟩
  · rw [key false (by rw [h1])]
    unfold tl; rw [h2]
    have : s.data.toList = [] := List.length_eq_zero_iff.1 h
    simp only [Bool.false_eq_true, if_false, this]; rfl
  · obtain ⟨l, hl⟩ := hhead h
    have hc : s[0] = 43 := UInt8.toNat_inj.1 (show s[0].toNat = 43 by omega)
    rw [key false (by rw [h2]), ht _ _ hl h3, hl, hc]; rfl
  · obtain ⟨l, hl⟩ := hhead h
    have hc : s[0] = 45 := UInt8.toNat_inj.1 (show s[0].toNat = 45 by omega)
    rw [key true (by rw [h2]), ht _ _ hl h3, hl, hc]; rfl
  · obtain ⟨l, hl⟩ := hhead h
    have e1 : s[0] ≠ 43 := fun e => h1 (by rw [e]; rfl)
    have e2 : s[0] ≠ 45 := fun e => h2 (by rw [e]; rfl)
    rw [key false (by rw [h3])]
    have : tl s = s := by unfold tl; rw [h4]; rfl
    rw [this, hl]
    simp only [numL]
    rw [if_neg e2, if_neg e1]

/-! The reference: its run of digits, its fraction. -/
theorem splitDot_run : ∀ (a r : List UInt8), a.all dg = true → splitDot (a ++ r) = (a ++ (splitDot r).1, (splitDot r).2)
  | [], r, _ => rfl
  | c :: a, r, h => by
    simp only [List.all_cons, Bool.and_eq_true] at h
    have hc : ¬ c = 46 := by rintro rfl; exact absurd h.1 (by decide)
    rw [List.cons_append, splitDot, if_neg hc, splitDot_run a r h.2]; rfl
theorem foldl_RF (l : List UInt8) (h : l.all dg = true) : ∀ n m, 0 ≤ n → m = min n 2147483647 → l.foldl stepR m = min (l.foldl stepF n) 2147483647 := by
  induction l with
  | nil => intro n m _ hm; exact hm
  | cons c l ih =>
    intro n m hn hm
    simp only [List.all_cons, Bool.and_eq_true] at h
    have h2 := dg_true h.1
    refine ih h.2 _ _ ?_ ?_
    · unfold stepF dv; split <;> omega
    · unfold stepF stepR dv; split <;> split <;> omega
theorem foldR_F (l : List UInt8) (h : l.all dg = true) : foldR l = min (foldF l) 2147483647 := foldl_RF l h 0 0 (by omega) rfl
theorem foldF_nn (l : List UInt8) (h : l.all dg = true) : 0 ≤ foldF l := (foldlF_bd l h 0 (by omega) (by omega)).1
theorem frac_zero (l : List UInt8) (n : Int) : fracR n 0 l = (n, 0) := by
  induction l with
  | nil => rfl
  | cons c l ih => simp only [fracR, Int.zero_mul, Int.add_zero]; exact ih
theorem fracR_val (n : Int) (l : List UInt8) : (fracR n 100 l).1 = n + 100 * dL l 0 + 10 * dL l 1 + dL l 2 := by
  match l with
  | [] => simp [fracR, dL]
  | [a] => simp [fracR, dL]
  | [a, b] => simp [fracR, dL]
  | a :: b :: c :: l =>
    have : fracR (n + 100 * dv a + 10 * dv b + 1 * dv c) 0 l = _ := frac_zero l _
    have e : fracR n 100 (a :: b :: c :: l) = fracR (n + 100 * dv a + 10 * dv b + 1 * dv c) 0 l := rfl
    rw [e, this]; simp [dL]
theorem dL_bd (p : List UInt8) (h : p.all dg = true) (i : Nat) : 0 ≤ dL p i ∧ dL p i ≤ 9 := by
  unfold dL
  cases e : p[i]? with
  | none => simp
  | some c =>
    have := dg_true (List.all_eq_true.1 h c (List.mem_of_getElem? e))
    simp only; unfold dv; omega
theorem sgn_eq (neg : Bool) (x y : Int) (h0 : 0 ≤ x) (h1 : 0 ≤ y) (h : x = y ∨ (2147483647 ≤ x ∧ 2147483647 ≤ y)) : sgn neg x = sgn neg y := by
  unfold sgn capI; cases neg <;> simp only [Bool.false_eq_true, if_false, if_true] <;> (repeat' split) <;> omega
theorem seg_split (s : ByteArray) (i p : Nat) (h : i ≤ p) (_hp : p ≤ s.size) : s.data.toList.drop i = seg s i p ++ s.data.toList.drop p := by
  unfold seg
  conv => lhs; rw [← List.take_append_drop (p - i) (s.data.toList.drop i)]
  rw [List.drop_drop, show i + (p - i) = p by omega]
theorem drop_cons (s : ByteArray) (p : Nat) (h : p < s.size) : s.data.toList.drop p = s[p] :: s.data.toList.drop (p + 1) := by
  have h' : p < s.data.toList.length := h
  rw [List.drop_eq_getElem_cons h']; rfl
theorem seg_len (s : ByteArray) (i p : Nat) (hp : p ≤ s.size) : (seg s i p).length = p - i := by
  unfold seg; simp; omega
theorem numL_sign (s : ByteArray) : numL s.data.toList = numBody (signR s).1 (s.data.toList.drop (signR s).2) := by
  rw [← numOf_numL]
  have : (tl s).data.toList = s.data.toList.drop (signR s).2 := by
    unfold tl
    rcases signR_cases s with ⟨h, h1, h2⟩ | ⟨h, h1, h2, h3⟩ | ⟨h, h1, h2, h3⟩ | ⟨h, h1, h2, h3, h4⟩
    · rw [h2, h1]; simp
    · rw [h3, h2, if_pos rfl, ext_list, List.take_of_length_le (by simp)]
    · rw [h3, h2, if_pos rfl, ext_list, List.take_of_length_le (by simp)]
    · rw [h4, h3]; simp
  rw [← this, ← body_of]; unfold numOf sgn; rfl
theorem res_numL (s : ByteArray) (x : Int) (b : Bool) (h : NumRes s x b) : numOf s = (x, b) := by
  obtain ⟨p, ⟨hip, hps, hall, hend⟩, h1, h2⟩ := h
  rw [numOf_numL, numL_sign]
  generalize (signR s).1 = neg at *
  generalize (signR s).2 = i0 at *
  rw [seg_split s i0 p hip hps]
  unfold numBody
  rw [splitDot_run _ _ hall]
  have hnn := foldF_nn _ hall
  have hRF := foldR_F _ hall
  have hlen := seg_len s i0 p hps
  by_cases hp : p < s.size
  · have hd := hend hp
    rw [drop_cons s p hp]
    by_cases h46 : s[p] = 46
    · obtain ⟨q, ⟨hpq, hqs, hallq, hendq⟩, h3⟩ := h2 hp h46
      rw [h46]
      have e : splitDot (46 :: s.data.toList.drop (p + 1)) = ([], some (s.data.toList.drop (p + 1))) := by rw [splitDot, if_pos rfl]
      rw [e]
      simp only [List.append_nil, hall, Bool.true_and]
      rw [seg_split s (p + 1) q hpq hqs]
      have hlenq := seg_len s (p + 1) q hqs
      by_cases hq : q < s.size
      · rw [if_neg (by omega)] at h3
        obtain ⟨rfl, rfl⟩ := h3
        rw [drop_cons s q hq, List.all_append, List.all_cons, hendq hq]
        simp
      · obtain rfl : q = s.size := by omega
        rw [show s.data.toList.drop s.size = [] from List.drop_of_length_le (by simp), List.append_nil, hallq]
        by_cases he : p + 1 < s.size
        · rw [if_pos ⟨rfl, he⟩] at h3
          obtain ⟨rfl, rfl⟩ := h3
          have hne : (seg s (p + 1) s.size).isEmpty = false := by
            cases e : seg s (p + 1) s.size with
            | nil => rw [e] at hlenq; simp at hlenq; omega
            | cons a l => rfl
          rw [hne]
          simp only [Bool.not_false, Bool.and_true, if_true]
          congr 1
          rw [fracR_val]
          have b0 := dL_bd _ hallq 0
          have b1 := dL_bd _ hallq 1
          have b2 := dL_bd _ hallq 2
          refine (sgn_eq neg _ _ ?_ ?_ ?_) <;> (try simp only [fracL]) <;> omega
        · rw [if_neg (by omega)] at h3
          obtain ⟨rfl, rfl⟩ := h3
          have hne : seg s (p + 1) s.size = [] := List.length_eq_zero_iff.1 (by omega)
          rw [hne]; simp
    · have h3 := h1 fun _ => h46
      rw [if_neg (by omega)] at h3
      obtain ⟨rfl, rfl⟩ := h3
      have e : splitDot (s[p] :: s.data.toList.drop (p + 1)) = (s[p] :: (splitDot (s.data.toList.drop (p + 1))).1, (splitDot (s.data.toList.drop (p + 1))).2) := by rw [splitDot, if_neg h46]
      rw [e]
      have : (seg s i0 p ++ s[p] :: (splitDot (s.data.toList.drop (p + 1))).1).all dg = false := by rw [List.all_append, List.all_cons, hd]; simp
      generalize (splitDot (s.data.toList.drop (p + 1))).1 = A at *
      generalize (splitDot (s.data.toList.drop (p + 1))).2 = B at *
      cases B <;> simp only [this, Bool.false_and] <;> rfl
  · obtain rfl : p = s.size := by omega
    have hlt : ¬ s.size < s.size := Nat.lt_irrefl _
    have h3 := h1 (fun h => (hlt h).elim)
    clear h1 h2 hend hlt
    rw [show s.data.toList.drop s.size = [] from List.drop_of_length_le (by simp)]
    simp only [splitDot, List.append_nil, hall, Bool.true_and]
    by_cases he : i0 < s.size
    · rw [if_pos ⟨rfl, he⟩] at h3
      obtain ⟨rfl, rfl⟩ := h3
      have hne : (seg s i0 s.size).isEmpty = false := by
        cases e : seg s i0 s.size with
        | nil => rw [e] at hlen; simp at hlen; omega
        | cons a l => rfl
      rw [hne]
      simp only [Bool.not_false, if_true]
      congr 1
      refine (sgn_eq neg _ _ ?_ ?_ ?_) <;> (try simp [fracL, dL]) <;> omega
    · rw [if_neg (by omega)] at h3
      obtain ⟨rfl, rfl⟩ := h3
      have hne : seg s i0 s.size = [] := List.length_eq_zero_iff.1 (by omega)
      rw [hne]; simp
end Go.Proofs.YtnddjcpnaeekcaaDoor.NumA
