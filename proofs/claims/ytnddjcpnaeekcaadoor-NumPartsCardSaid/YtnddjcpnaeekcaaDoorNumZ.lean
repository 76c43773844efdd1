/- What num.Text and the reference's NumText answer: one text of each number, where strconv's table of powers stands as the rows list it. -/
import Derived.Test.YtnddjcpnaeekcaaDoorNumY
import Derived.Lib.AppendIntMem
import Derived.Test.YtnddjcpnaeekcaaDoorShelf
namespace Go.Proofs.YtnddjcpnaeekcaaDoor.NumA
open Go.RowKit
def tabOk (w : World) : Prop := Lib.TabIs Tryd.prog w "internal/strconv.uint64pow10" .u64 Lib.pow10Tab
theorem dec_small {u : Nat} (h : u < 10) : Lib.decDigits u = [UInt8.ofNat (48 + u)] := by rw [Lib.decDigits, dif_pos h]
theorem dec_big {u : Nat} (h : ¬ u < 10) : Lib.decDigits u = Lib.decDigits (u / 10) ++ [UInt8.ofNat (48 + u % 10)] := by rw [Lib.decDigits, dif_neg h]
theorem dec_len (u : Nat) : (Lib.decDigits u).length ≤ u + 1 := by
  induction u using Nat.strongRecOn with
  | _ u ih =>
    by_cases h : u < 10
    · rw [dec_small h]; simp
    · rw [dec_big h]; have := ih (u / 10) (by omega); simp; omega
def str (l : List UInt8) : ByteArray := ⟨l.toArray⟩
theorem digit_cut : ∀ d : Fin 10, (⟨#[48, 49, 50, 51, 52, 53, 54, 55, 56, 57]⟩ : ByteArray).extract d.1 (d.1 + 1) = str [UInt8.ofNat (48 + d.1)] := by decide +kernel
set_option maxHeartbeats 400000 in
theorem digits17 (u : Nat) : ∀ (w : World), u < 9000000000000000000 →
    Calls Tryd.prog 17 #[.int .i64 u] w fun e w' => e = .returned (.string (str (Lib.decDigits u))) ∧ w = w' := by
  induction u using Nat.strongRecOn with
  | _ u ih =>
  intro w hu
  obtain ⟨x, hd⟩ : ∃ x : Int, (u : Int) % 10 = x := ⟨_, rfl⟩
  have hx0 : 0 ≤ x := by omega
  have hx9 : x ≤ 9 := by omega
  have Hcut : Hid ((⟨#[48, 49, 50, 51, 52, 53, 54, 55, 56, 57]⟩ : ByteArray).extract x.toNat (x + 1).toNat = str [UInt8.ofNat (48 + u % 10)]) := Lib.hid (by
    have hdc := digit_cut ⟨u % 10, by omega⟩
    simp only at hdc
    rw [show x.toNat = u % 10 by omega, show (x + 1).toNat = u % 10 + 1 by omega]; exact hdc)
  by_cases h : u < 10
  · have H : Hid (str (Lib.decDigits u) = str [UInt8.ofNat (48 + u % 10)]) := Lib.hid (by rw [dec_small h]; congr 3; omega)
    clear ih
    have c1 := eq_true hx0
    have c2 := eq_true (show x ≤ x + 1 by omega)
    have c3 := eq_true (show x + 1 ≤ 10 by omega)
    have h9 : (u : Int) ≤ 9 := by omega
    go_enter Tryd.func17, Tryd.ntmps17
    go_wp2
    go_ret
    exact ⟨by rw [H.out, ← Hcut.out]; rfl, rfl⟩
  · obtain ⟨v, hv⟩ : ∃ v, v = u / 10 := ⟨_, rfl⟩
    have H : Hid (str (Lib.decDigits u) = str (Lib.decDigits v) ++ str [UInt8.ofNat (48 + u % 10)]) := Lib.hid (by rw [dec_big h, hv]; simp [str]; rfl)
    have hl : (str (Lib.decDigits v)).size ≤ v + 1 := by have := dec_len v; simpa [str, ByteArray.size] using this
    have C := fun W => ih v (by omega) W (by omega)
    clear ih
    have c1 := eq_true hx0
    have c2 := eq_true (show x ≤ x + 1 by omega)
    have c3 := eq_true (show x + 1 ≤ 10 by omega)
    have h9 : (9 : Int) < u := by omega
    have hq : (u : Int) / 10 = (v : Int) := by omega
    obtain ⟨q, hq'⟩ : ∃ q, q = str (Lib.decDigits v) := ⟨_, rfl⟩
    rw [← hq'] at hl C
    obtain ⟨r, hr⟩ : ∃ r, r = (⟨#[48, 49, 50, 51, 52, 53, 54, 55, 56, 57]⟩ : ByteArray).extract x.toNat (x + 1).toNat := ⟨_, rfl⟩
    have hrs : r.size ≤ 10 := by rw [hr]; simp; omega
    have hsum : q.size + r.size ≤ 9223372036854775807 := by omega
    have Hr := Lib.hid hr
    have Hq := Lib.hid hq'
    clear hq' hv hr
    have hsl := Hr.out.symm
    go_enter Tryd.func17, Tryd.ntmps17
    go_wp2_with (go_at_call 17; refine (C _).mono ?_; rintro e w' ⟨rfl, rfl⟩)
    go_ret
    exact ⟨by rw [H.out, ← Hq.out, ← Hcut.out, ← Hr.out]; rfl, rfl⟩
theorem tab_below {w w1 : World} (h : tabOk w) (hb : Below w.heap.size w w1) : tabOk w1 := by
  unfold tabOk Lib.TabIs at h ⊢
  unfold World.var? at h ⊢
  cases hg : Tryd.prog.globalNamed "internal/strconv.uint64pow10" with
  | none => simp [hg] at h
  | some g =>
    simp only [hg, Option.bind_some] at h ⊢
    have hlt : g < w.heap.size := by
      rcases Nat.lt_or_ge g w.heap.size with h' | h'
      · exact h'
      · simp [Array.getElem?_eq_none h'] at h
    rw [hb.block g hlt]
    exact h
/-- strconv.Itoa of a number that is not below nought. -/
theorem itoa27 (v : Nat) (w : World) (hv : v < 9000000000000000000) (ht : tabOk w) :
    Calls Tryd.prog 27 #[.int .i64 v] w fun e w' => e = .returned (.string (str (Lib.decDigits v))) ∧ Below w.heap.size w w' := by
  refine (Tryd.strconv_Itoa v (by omega) (by omega) w ht).mono ?_
  rintro e w' ⟨rfl, k, os, rfl⟩
  refine ⟨?_, Lib.below_grow _ _ (Nat.le_refl _) k os⟩
  have : Lib.itoa (v : Int) = Lib.decDigits v := by unfold Lib.itoa; rw [if_neg (by omega)]; rfl
  rw [this]; rfl
def textB (n : Int) : ByteArray :=
  ((if capI n < 0 then str [45] else str []) ++ str (Lib.decDigits ((capI n).natAbs / 1000))) ++
    (if 0 < (capI n).natAbs % 1000 then str [46] ++ (str (Lib.decDigits (1000 + (capI n).natAbs % 1000))).extract 1 (str (Lib.decDigits (1000 + (capI n).natAbs % 1000))).size else str [])
theorem capI_bd (n : Int) : -2147483647 ≤ capI n ∧ capI n ≤ 2147483647 := by unfold capI; split <;> (try split) <;> omega
theorem str_size (l : List UInt8) : (str l).size = l.length := rfl
theorem str_nil_append (b : ByteArray) : str [] ++ b = b := by
  cases b; simp [str]; rfl
theorem str_append_nil (b : ByteArray) : b ++ str [] = b := ByteArray.append_empty
set_option maxHeartbeats 400000 in
theorem text14 (n : Int) (w : World) (ht : tabOk w) :
    Calls Tryd.prog 14 #[.int .i64 n] w fun e w' => e = .returned (.string (textB n)) ∧ Below w.heap.size w w' := by
  obtain ⟨hm0, hm1⟩ := capI_bd n
  obtain ⟨m, hm⟩ : ∃ m, m = capI n := ⟨_, rfl⟩
  have C16 := fun W => cap16 n W
  rw [← hm] at hm0 hm1 C16
  obtain ⟨a, ha⟩ : ∃ a, a = m.natAbs := ⟨_, rfl⟩
  obtain ⟨v, hv⟩ : ∃ v, v = a / 1000 := ⟨_, rfl⟩
  obtain ⟨x, hx⟩ : ∃ x, x = a % 1000 := ⟨_, rfl⟩
  have h1 : (a : Int) / 1000 = (v : Int) := by omega
  have h2 : (a : Int) % 1000 = (x : Int) := by omega
  obtain ⟨q, hq⟩ : ∃ q, q = str (Lib.decDigits v) := ⟨_, rfl⟩
  obtain ⟨r, hr⟩ : ∃ r, r = str (Lib.decDigits (1000 + x)) := ⟨_, rfl⟩
  have hqs : q.size ≤ 3000000 := by rw [hq, str_size]; have := dec_len v; omega
  have hrs : r.size ≤ 3000 := by rw [hr, str_size]; have := dec_len (1000 + x); omega
  have hrs1 : 1 ≤ r.size := by rw [hr, str_size, dec_big (by omega)]; simp
  have CV := fun W h => itoa27 v W (by omega) h
  have CX := fun W h => itoa27 (1000 + x) W (by omega) h
  rw [← hq] at CV
  rw [← hr] at CX
  have hcx : ((1000 + x : Nat) : Int) = 1000 + (x : Int) := by omega
  simp only [hcx] at CX
  have T : Hid (textB n = ((if m < 0 then str [45] else str []) ++ q) ++ (if 0 < x then str [46] ++ r.extract 1 r.size else str [])) := Lib.hid (by unfold textB; rw [← hm, ← ha, ← hv, ← hx, ← hq, ← hr])
  clear hq hr hcx
  by_cases hneg : m < 0
  · obtain rfl : m = -(a : Int) := by omega
    have ha0 : (0 : Int) < (a : Int) := by omega
    by_cases hx0 : 0 < x
    · have T2 : Hid (textB n = (str [45] ++ q) ++ (str [46] ++ r.extract 1 r.size)) := Lib.hid (by rw [T.out, if_pos hneg, if_pos hx0])
      have hx1 : (0 : Int) < (x : Int) := by omega
      have hab : (a : Int) ≤ 2147483647 := by omega
      clear hm ha hv hx hm0 T hneg hx0
      go_enter Tryd.func14, Tryd.ntmps14
      go_wp2_with (first | (go_at_call 16; refine (C16 _).mono ?_; rintro e w' ⟨rfl, rfl⟩) | (go_at_call 27; first | (refine (CV _ ht).mono ?_; clear CV; rintro e w' ⟨rfl, hb1⟩) | (refine (CX _ (tab_below ht hb1)).mono ?_; rintro e w' ⟨rfl, hb2⟩)))
      go_ret
      exact ⟨by rw [T2.out]; rfl, bstep hb1 hb2⟩
    · have T2 : Hid (textB n = (str [45] ++ q)) := Lib.hid (by rw [T.out, if_pos hneg, if_neg hx0, str_append_nil])
      have hx1 : ¬ (0 : Int) < (x : Int) := by omega
      have hab : (a : Int) ≤ 2147483647 := by omega
      clear hm ha hv hx hm0 T hneg hx0
      go_enter Tryd.func14, Tryd.ntmps14
      go_wp2_with (first | (go_at_call 16; refine (C16 _).mono ?_; rintro e w' ⟨rfl, rfl⟩) | (go_at_call 27; first | (refine (CV _ ht).mono ?_; clear CV; rintro e w' ⟨rfl, hb1⟩) | (refine (CX _ (tab_below ht hb1)).mono ?_; rintro e w' ⟨rfl, hb2⟩)))
      go_ret
      exact ⟨by rw [T2.out]; rfl, hb1⟩
  · obtain rfl : m = (a : Int) := by omega
    by_cases hx0 : 0 < x
    · have T2 : Hid (textB n = q ++ (str [46] ++ r.extract 1 r.size)) := Lib.hid (by rw [T.out, if_neg hneg, str_nil_append, if_pos hx0])
      have hx1 : (0 : Int) < (x : Int) := by omega
      have hab : (a : Int) ≤ 2147483647 := by omega
      clear hm ha hv hx hm0 T hneg hx0
      go_enter Tryd.func14, Tryd.ntmps14
      go_wp2_with (first | (go_at_call 16; refine (C16 _).mono ?_; rintro e w' ⟨rfl, rfl⟩) | (go_at_call 27; first | (refine (CV _ ht).mono ?_; clear CV; rintro e w' ⟨rfl, hb1⟩) | (refine (CX _ (tab_below ht hb1)).mono ?_; rintro e w' ⟨rfl, hb2⟩)))
      go_ret
      exact ⟨by rw [T2.out]; first | rfl | (rw [← str_nil_append q]; rfl), bstep hb1 hb2⟩
    · have T2 : Hid (textB n = q) := Lib.hid (by rw [T.out, if_neg hneg, str_nil_append, if_neg hx0, str_append_nil])
      have hx1 : ¬ (0 : Int) < (x : Int) := by omega
      have hab : (a : Int) ≤ 2147483647 := by omega
      clear hm ha hv hx hm0 T hneg hx0
      go_enter Tryd.func14, Tryd.ntmps14
      go_wp2_with (first | (go_at_call 16; refine (C16 _).mono ?_; rintro e w' ⟨rfl, rfl⟩) | (go_at_call 27; first | (refine (CV _ ht).mono ?_; clear CV; rintro e w' ⟨rfl, hb1⟩) | (refine (CX _ (tab_below ht hb1)).mono ?_; rintro e w' ⟨rfl, hb2⟩)))
      go_ret
      exact ⟨by rw [T2.out]; first | rfl | (rw [← str_nil_append q]; rfl), hb1⟩
set_option maxHeartbeats 400000 in
theorem text15 (n : Int) (w : World) :
    Calls Tryd.prog 15 #[.int .i64 n] w fun e w' => e = .returned (.string (textB n)) ∧ w = w' := by
  obtain ⟨hm0, hm1⟩ := capI_bd n
  obtain ⟨m, hm⟩ : ∃ m, m = capI n := ⟨_, rfl⟩
  have C18 := fun W => cap18 n W
  rw [← hm] at hm0 hm1 C18
  obtain ⟨a, ha⟩ : ∃ a, a = m.natAbs := ⟨_, rfl⟩
  obtain ⟨v, hv⟩ : ∃ v, v = a / 1000 := ⟨_, rfl⟩
  obtain ⟨x, hx⟩ : ∃ x, x = a % 1000 := ⟨_, rfl⟩
  have h1 : (a : Int) / 1000 = (v : Int) := by omega
  have h2 : (a : Int) % 1000 = (x : Int) := by omega
  obtain ⟨q, hq⟩ : ∃ q, q = str (Lib.decDigits v) := ⟨_, rfl⟩
  obtain ⟨r, hr⟩ : ∃ r, r = str (Lib.decDigits (1000 + x)) := ⟨_, rfl⟩
  have hqs : q.size ≤ 3000000 := by rw [hq, str_size]; have := dec_len v; omega
  have hrs : r.size ≤ 3000 := by rw [hr, str_size]; have := dec_len (1000 + x); omega
  have hrs1 : 1 ≤ r.size := by rw [hr, str_size, dec_big (by omega)]; simp
  have CV := fun W => digits17 v W (by omega)
  have CX := fun W => digits17 (1000 + x) W (by omega)
  rw [← hq] at CV
  rw [← hr] at CX
  have hcx : ((1000 + x : Nat) : Int) = 1000 + (x : Int) := by omega
  simp only [hcx] at CX
  have T : Hid (textB n = ((if m < 0 then str [45] else str []) ++ q) ++ (if 0 < x then str [46] ++ r.extract 1 r.size else str [])) := Lib.hid (by unfold textB; rw [← hm, ← ha, ← hv, ← hx, ← hq, ← hr])
  clear hq hr hcx
  by_cases hneg : m < 0
  · obtain rfl : m = -(a : Int) := by omega
    have ha0 : (0 : Int) < (a : Int) := by omega
    by_cases hx0 : 0 < x
    · have T2 : Hid (textB n = ((str [45] ++ q) ++ str [46]) ++ r.extract 1 r.size) := Lib.hid (by rw [T.out, if_pos hneg, if_pos hx0, ← ByteArray.append_assoc])
      have hx1 : (0 : Int) < (x : Int) := by omega
      have hab : (a : Int) ≤ 2147483647 := by omega
      clear hm ha hv hx hm0 T hneg hx0
      go_enter Tryd.func15, Tryd.ntmps15
      go_wp2_with (first | (go_at_call 18; refine (C18 _).mono ?_; rintro e w' ⟨rfl, rfl⟩) | (go_at_call 17; first | (refine (CV _).mono ?_; clear CV; rintro e w' ⟨rfl, rfl⟩) | (refine (CX _).mono ?_; rintro e w' ⟨rfl, rfl⟩)))
      go_ret
      exact ⟨by rw [T2.out]; rfl, rfl⟩
    · have T2 : Hid (textB n = (str [45] ++ q)) := Lib.hid (by rw [T.out, if_pos hneg, if_neg hx0, str_append_nil])
      have hx1 : ¬ (0 : Int) < (x : Int) := by omega
      have hab : (a : Int) ≤ 2147483647 := by omega
      clear hm ha hv hx hm0 T hneg hx0
      go_enter Tryd.func15, Tryd.ntmps15
      go_wp2_with (first | (go_at_call 18; refine (C18 _).mono ?_; rintro e w' ⟨rfl, rfl⟩) | (go_at_call 17; first | (refine (CV _).mono ?_; clear CV; rintro e w' ⟨rfl, rfl⟩) | (refine (CX _).mono ?_; rintro e w' ⟨rfl, rfl⟩)))
      go_ret
      exact ⟨by rw [T2.out]; rfl, rfl⟩
  · obtain rfl : m = (a : Int) := by omega
    by_cases hx0 : 0 < x
    · have T2 : Hid (textB n = (q ++ str [46]) ++ r.extract 1 r.size) := Lib.hid (by rw [T.out, if_neg hneg, str_nil_append, if_pos hx0, ← ByteArray.append_assoc])
      have hx1 : (0 : Int) < (x : Int) := by omega
      have hab : (a : Int) ≤ 2147483647 := by omega
      clear hm ha hv hx hm0 T hneg hx0
      go_enter Tryd.func15, Tryd.ntmps15
      go_wp2_with (first | (go_at_call 18; refine (C18 _).mono ?_; rintro e w' ⟨rfl, rfl⟩) | (go_at_call 17; first | (refine (CV _).mono ?_; clear CV; rintro e w' ⟨rfl, rfl⟩) | (refine (CX _).mono ?_; rintro e w' ⟨rfl, rfl⟩)))
      go_ret
      exact ⟨by rw [T2.out]; first | rfl | (show _ = Ending.returned (Value.string _); rw [← str_nil_append q]; rfl), rfl⟩
    · have T2 : Hid (textB n = q) := Lib.hid (by rw [T.out, if_neg hneg, str_nil_append, if_neg hx0, str_append_nil])
      have hx1 : ¬ (0 : Int) < (x : Int) := by omega
      have hab : (a : Int) ≤ 2147483647 := by omega
      clear hm ha hv hx hm0 T hneg hx0
      go_enter Tryd.func15, Tryd.ntmps15
      go_wp2_with (first | (go_at_call 18; refine (C18 _).mono ?_; rintro e w' ⟨rfl, rfl⟩) | (go_at_call 17; first | (refine (CV _).mono ?_; clear CV; rintro e w' ⟨rfl, rfl⟩) | (refine (CX _).mono ?_; rintro e w' ⟨rfl, rfl⟩)))
      go_ret
      exact ⟨by rw [T2.out]; first | rfl | (show _ = Ending.returned (Value.string _); rw [← str_nil_append q]; rfl), rfl⟩
end Go.Proofs.YtnddjcpnaeekcaaDoor.NumA
