/- What the reference's Num answers: a sign, a run of digits, a point with a run of digits, for every text of at most 500 bytes. -/
import Derived.Test.YtnddjcpnaeekcaaDoorNumT
import Derived.Deep.DeepCutAuto
import Derived.Deep.CutBlock
namespace Go.Proofs.YtnddjcpnaeekcaaDoor.NumA
open Go.RowKit
def dgI (a : Int) : Bool := decide (48 ≤ a ∧ a ≤ 57)
theorem dgI_dg (c : UInt8) : dgI (c.toNat : Int) = dg c := by
  cases h : dg c with
  | true => have := dg_true h; simp [dgI]; omega
  | false => have := dg_false h; simp [dgI]; omega
theorem digit26 (a : Int) (w : World) : Calls Tryd.prog 26 #[.int .i64 a] w fun e w' => e = .returned (.bool (dgI a)) ∧ w = w' := by
  by_cases h1 : 48 ≤ a
  · by_cases h2 : a ≤ 57
    · have h3 : dgI a = true := by simp [dgI, h1, h2]
      rw [h3]
      go_enter Tryd.func26, Tryd.ntmps26
      go_wp2
      go_ret
      exact ⟨rfl, rfl⟩
    · have h3 : dgI a = false := by simp [dgI, h2]
      rw [h3]
      have h4 : 57 < a := by omega
      go_enter Tryd.func26, Tryd.ntmps26
      go_wp2
      go_ret
      exact ⟨rfl, rfl⟩
  · have h3 : dgI a = false := by simp [dgI, h1]
    rw [h3]
    have h4 : a < 48 := by omega
    go_enter Tryd.func26, Tryd.ntmps26
    go_wp2
    go_ret
    exact ⟨rfl, rfl⟩
def capI (n : Int) : Int := if n > 2147483647 then 2147483647 else if n < -2147483647 then -2147483647 else n
theorem cap18 (a : Int) (w : World) : Calls Tryd.prog 18 #[.int .i64 a] w fun e w' => e = .returned (.int .i64 (capI a)) ∧ w = w' := by
  by_cases h1 : 2147483647 < a
  · have h3 : capI a = 2147483647 := by simp [capI, h1]
    rw [h3]
    go_enter Tryd.func18, Tryd.ntmps18
    go_wp2
    go_ret
    exact ⟨rfl, rfl⟩
  · by_cases h2 : a < -2147483647
    · have h3 : capI a = -2147483647 := by simp [capI, h1, h2]
      rw [h3]
      go_enter Tryd.func18, Tryd.ntmps18
      go_wp2
      go_ret
      exact ⟨rfl, rfl⟩
    · have h3 : capI a = a := by simp [capI, h1, h2]
      rw [h3]
      go_enter Tryd.func18, Tryd.ntmps18
      go_wp2
      go_ret
      exact ⟨rfl, rfl⟩
def dv (c : UInt8) : Int := (c.toNat : Int) - 48
/-- What stands from place i up to place p. -/
def seg (s : ByteArray) (i p : Nat) : List UInt8 := (s.data.toList.drop i).take (p - i)
theorem seg_self (s : ByteArray) (i : Nat) : seg s i i = [] := by simp [seg]
theorem seg_snoc (s : ByteArray) (i p : Nat) (h : i ≤ p) (hp : p < s.size) : seg s i (p + 1) = seg s i p ++ [s[p]] := by
  unfold seg
  rw [show p + 1 - i = (p - i) + 1 by omega, List.take_succ_eq_append_getElem (by simp; omega)]
  congr 2
  simp only [List.getElem_drop, show i + (p - i) = p by omega]
  rfl
def stepR (n : Int) (c : UInt8) : Int := if n * 10 + dv c > 2147483647 then 2147483647 else n * 10 + dv c
def foldR (l : List UInt8) : Int := l.foldl stepR 0
theorem foldR_snoc (l : List UInt8) (c : UInt8) : foldR (l ++ [c]) = stepR (foldR l) c := by
  simp [foldR, List.foldl_append]
theorem foldl_bd (l : List UInt8) (h : l.all dg = true) : ∀ n, 0 ≤ n → n ≤ 2147483647 → 0 ≤ l.foldl stepR n ∧ l.foldl stepR n ≤ 2147483647 := by
  induction l with
  | nil => intro n h0 h1; exact ⟨h0, h1⟩
  | cons c l ih =>
    intro n h0 h1
    simp only [List.all_cons, Bool.and_eq_true] at h
    have h2 := dg_true h.1
    refine ih h.2 _ ?_ ?_ <;> (unfold stepR dv; split <;> omega)
theorem foldR_bd (l : List UInt8) (h : l.all dg = true) : 0 ≤ foldR l ∧ foldR l ≤ 2147483647 := foldl_bd l h 0 (by omega) (by omega)
/-- The digits behind the point: n, and the unit of the next one. -/
def fracR (n : Int) : Int → List UInt8 → Int × Int
  | u, [] => (n, u)
  | u, c :: l => fracR (n + u * dv c) (u.tdiv 10) l
theorem fracR_append (n u : Int) (l m : List UInt8) : fracR n u (l ++ m) = fracR (fracR n u l).1 (fracR n u l).2 m := by
  induction l generalizing n u with
  | nil => rfl
  | cons c l ih => simp [fracR, ih]
def signR (s : ByteArray) : Bool × Nat :=
  if h : 0 < s.size then (if s[0] = 43 then (false, 1) else if s[0] = 45 then (true, 1) else (false, 0)) else (false, 0)
/-- Where a run of digits from i on ends. -/
def IsRun (s : ByteArray) (i p : Nat) : Prop := i ≤ p ∧ p ≤ s.size ∧ (seg s i p).all dg = true ∧ ∀ h : p < s.size, dg s[p] = false
/-- What the reference's Num comes to: sign, a run, a point with a run, the end. -/
def NumRes (s : ByteArray) (x : Int) (b : Bool) : Prop :=
  ∃ p, IsRun s (signR s).2 p ∧
    ((∀ h : p < s.size, s[p] ≠ 46) → if p = s.size ∧ (signR s).2 < p then b = true ∧ x = capI (if (signR s).1 then -(foldR (seg s (signR s).2 p) * 1000) else foldR (seg s (signR s).2 p) * 1000) else b = false ∧ x = 0) ∧
    (∀ h : p < s.size, s[p] = 46 → ∃ q, IsRun s (p + 1) q ∧
      if q = s.size ∧ p + 1 < q then b = true ∧ x = capI (if (signR s).1 then -(fracR (foldR (seg s (signR s).2 p) * 1000) 100 (seg s (p + 1) q)).1 else (fracR (foldR (seg s (signR s).2 p) * 1000) 100 (seg s (p + 1) q)).1) else b = false ∧ x = 0)

def sgR (s : ByteArray) : Bool := if h : 0 < s.size then (s[0] == 43 || s[0] == 45) else false
theorem signR_cases (s : ByteArray) : (s.size = 0 ∧ signR s = (false, 0) ∧ sgR s = false) ∨ (∃ h : 0 < s.size, (s[0].toNat : Int) = 43 ∧ signR s = (false, 1) ∧ sgR s = true) ∨ (∃ h : 0 < s.size, (s[0].toNat : Int) = 45 ∧ signR s = (true, 1) ∧ sgR s = true) ∨
    (∃ h : 0 < s.size, (s[0].toNat : Int) ≠ 43 ∧ (s[0].toNat : Int) ≠ 45 ∧ signR s = (false, 0) ∧ sgR s = false) := by
  unfold signR sgR
  by_cases h : 0 < s.size
  · right
    simp only [h, dif_pos, exists_true_left]
    by_cases h1 : s[0] = 43
    · left; simp [h1]
    · right
      have e1 : s[0].toNat ≠ 43 := fun e => h1 (UInt8.toNat_inj.1 e)
      by_cases h2 : s[0] = 45
      · left; simp [h2]
      · right
        have e2 : s[0].toNat ≠ 45 := fun e => h2 (UInt8.toNat_inj.1 e)
        refine ⟨by exact_mod_cast e1, by exact_mod_cast e2, ?_, ?_⟩
        · simp [h1, h2]
        · simp [h1, h2]
  · left; exact ⟨by omega, by simp [h], by simp [h]⟩

theorem fracR_nil (n u : Int) : fracR n u [] = (n, u) := rfl
theorem fracR_snoc1 (n u : Int) (l : List UInt8) (c : UInt8) : (fracR n u (l ++ [c])).1 = (fracR n u l).1 + (fracR n u l).2 * ((c.toNat : Int) - 48) := by
  rw [fracR_append]; rfl
theorem fracR_snoc2 (n u : Int) (l : List UInt8) (c : UInt8) (h : 0 ≤ (fracR n u l).2) : (fracR n u (l ++ [c])).2 = (fracR n u l).2 / 10 := by
  rw [fracR_append]; exact Int.tdiv_eq_ediv_of_nonneg h
theorem val_int (k : IntKind) {a b : Int} (h : a = b) : Value.int k a = Value.int k b := by rw [h]
def NumPost (s : ByteArray) (e : Ending) : Prop := ∃ x b, e = .returned (.tuple #[.int .i64 x, .bool b]) ∧ NumRes s x b
theorem fracR_bd (l : List UInt8) (h : l.all dg = true) : ∀ n u, 0 ≤ u → u ≤ 100 → n ≤ (fracR n u l).1 ∧ (fracR n u l).1 ≤ n + 900 * l.length ∧ 0 ≤ (fracR n u l).2 ∧ (fracR n u l).2 ≤ 100 := by
  induction l with
  | nil => intro n u h0 h1; simp [fracR]; omega
  | cons c l ih =>
    intro n u h0 h1
    simp only [List.all_cons, Bool.and_eq_true] at h
    have h2 := dg_true h.1
    have e : u.tdiv 10 = u / 10 := Int.tdiv_eq_ediv_of_nonneg h0
    have h3 := ih h.2 (n + u * dv c) (u.tdiv 10) (by rw [e]; omega) (by rw [e]; omega)
    have h4 : 0 ≤ u * dv c := Int.mul_nonneg h0 (by unfold dv; omega)
    have h5 : u * dv c ≤ 900 := by
      have : u * dv c ≤ 100 * 9 := Int.mul_le_mul h1 (by unfold dv; omega) (by unfold dv; omega) (by omega)
      omega
    simp only [fracR, List.length_cons]
    refine ⟨by omega, ?_, h3.2.2.1, h3.2.2.2⟩
    have := h3.2.1
    push_cast
    omega
set_option maxHeartbeats 1000000 in
set_option maxRecDepth 100000 in
theorem num13 (s : ByteArray) (w : World) (hs : s.size ≤ 500) :
    Calls Tryd.prog 13 #[.string s] w fun e w' => NumPost s e ∧ w = w' := by
  go_enter Tryd.func13, Tryd.ntmps13
  go_upto_region 3 with (fail)
  go_cut [26] (fun v26 wc => v26 = .bool (sgR s) ∧ wc = w)
  case first =>
    rcases signR_cases s with ⟨h, h1, h2⟩ | ⟨h, h1, h2, h3⟩ | ⟨h, h1, h2, h3⟩ | ⟨h, h1, h2, h3, h4⟩
    · have h0 : ¬ 0 < s.size := by omega
      have H := Lib.hid h2
      clear h1 h2 h
      go_wp2
      go_meet
      case rel => exact ⟨by rw [H.out], rfl⟩
    · have H := Lib.hid h3
      clear h2 h3
      have h4 : ((s[0].toNat : Int) == 43) = true := by simp [h1]
      clear h1
      go_wp2
      go_meet
      case rel => exact ⟨by rw [H.out], rfl⟩
    · have H := Lib.hid h3
      clear h2 h3
      have h4 : ((s[0].toNat : Int) == 43) = false := by simp [h1]
      have h5 : ((s[0].toNat : Int) == 45) = true := by simp [h1]
      clear h1
      go_wp2
      go_meet
      case rel => exact ⟨by rw [H.out], rfl⟩
    · have H := Lib.hid h4
      have h5 : ((s[0].toNat : Int) == 43) = false := by simpa using h1
      have h6 : ((s[0].toNat : Int) == 45) = false := by simpa using h2
      clear h1 h2 h3 h4
      go_wp2
      go_meet
      case rel => exact ⟨by rw [H.out], rfl⟩
  case rest =>
    obtain ⟨rfl, rfl⟩ := hcut
    go_upto_if 26 with (fail)
    go_cut [4, 5] (fun v4 v5 wc' => ∃ (i0 : Nat) (neg : Bool), v4 = .int .i64 i0 ∧ v5 = .bool neg ∧ Hid (signR s = (neg, i0)) ∧ i0 ≤ s.size ∧ wc' = wc)
    case first =>
      rcases signR_cases s with ⟨h, h1, h2⟩ | ⟨h, h1, h2, h3⟩ | ⟨h, h1, h2, h3⟩ | ⟨h, h1, h2, h3, h4⟩
      · have H := Lib.hid h1
        rw [h2]
        clear h1 h2 h
        go_wp2
        go_meet
        case rel => exact ⟨0, false, rfl, rfl, H, by omega, rfl⟩
      · have H := Lib.hid h2
        rw [h3]
        clear h2 h3
        have h4 : ((s[0].toNat : Int) == 45) = false := by simp [h1]
        clear h1
        go_wp2
        go_meet
        case rel => exact ⟨1, false, rfl, rfl, H, by omega, rfl⟩
      · have H := Lib.hid h2
        rw [h3]
        clear h2 h3
        have h4 : ((s[0].toNat : Int) == 45) = true := by simp [h1]
        clear h1
        go_wp2
        go_meet
        case rel => exact ⟨1, true, rfl, rfl, H, by omega, rfl⟩
      · have H := Lib.hid h3
        rw [h4]
        clear h1 h2 h3 h4
        go_wp2
        go_meet
        case rel => exact ⟨0, false, rfl, rfl, H, by omega, rfl⟩
    case rest =>
      obtain ⟨i0, neg, rfl, rfl, Hsg, hi0, rfl⟩ := hcut
      go_wp2
      go_loop [4, 6, 7] (fun v4 v6 v7 => ∃ p : Nat, v4 = .int .i64 p ∧ v6 = .int .i64 (foldR (seg s i0 p)) ∧ v7 = .int .i64 ((p : Int) - i0) ∧ i0 ≤ p ∧ p ≤ s.size ∧ (seg s i0 p).all dg = true) (fun v4 _ _ => s.size - (intOf v4).toNat)
      case atStart => exact ⟨i0, rfl, by rw [seg_self]; rfl, by simp, by omega, hi0, by rw [seg_self]; rfl⟩
      case round =>
        obtain ⟨p, rfl, rfl, rfl, hip, hps, hall⟩ := hrel
        obtain ⟨hb1, hb2⟩ := foldR_bd _ hall
        obtain ⟨n, hn⟩ : ∃ n, n = foldR (seg s i0 p) := ⟨_, rfl⟩
        rw [← hn] at hb1 hb2 ⊢
        have Hn := Lib.hid hn
        have Hall := Lib.hid hall
        clear hn hall
        by_cases hlt : p < s.size
        · have hbt : (s[p].toNat : Int) < 256 := by have := s[p].toNat_lt; omega
          have hwr : wrap64 (s[p].toNat : Int) = (s[p].toNat : Int) := by unfold wrap64; omega
          cases hdc : dg s[p] with
          | true =>
            obtain ⟨h1, h2⟩ := dg_true hdc
            have hdI : dgI (s[p].toNat : Int) = true := by rw [dgI_dg]; exact hdc
            have Hdc := Lib.hid hdc
            clear hdc
            go_wp2_with (go_at_call 26; refine (digit26 _ _).mono ?_; rintro e w' ⟨rfl, rfl⟩)
            · have hgt : 2147483647 < n * 10 + (s[p].toNat : Int) - 48 := by assumption
              go_round
              case rel =>
                refine ⟨p + 1, by go_num, ?_, by go_num, by omega, by omega, ?_⟩
                · rw [seg_snoc s i0 p hip hlt, foldR_snoc, ← Hn.out]; unfold stepR dv; rw [if_pos (by omega)]
                · rw [seg_snoc s i0 p hip hlt, List.all_append, Hall.out]; simp [Hdc.out]
              case measure => simp [intOf]; omega
            · have hgt : n * 10 + (s[p].toNat : Int) - 48 ≤ 2147483647 := by assumption
              go_round
              case rel =>
                refine ⟨p + 1, by go_num, ?_, by go_num, by omega, by omega, ?_⟩
                · rw [seg_snoc s i0 p hip hlt, foldR_snoc, ← Hn.out]; unfold stepR dv; rw [if_neg (by omega)]; go_num
                · rw [seg_snoc s i0 p hip hlt, List.all_append, Hall.out]; simp [Hdc.out]
              case measure => simp [intOf]; omega
          | false =>
            have hdI : dgI (s[p].toNat : Int) = false := by rw [dgI_dg]; exact hdc
            have Hdc := Lib.hid hdc
            have Hrun : Hid (IsRun s i0 p) := Lib.hid ⟨hip, hps, Hall.out, fun _ => hdc⟩
            clear hdc Hdc
            by_cases h46 : (s[p].toNat : Int) = 46
            · have h46b : ((s[p].toNat : Int) == 46) = true := by simp [h46]
              have H46 : Hid (s[p] = 46) := Lib.hid (UInt8.toNat_inj.1 (show s[p].toNat = 46 by omega))
              clear h46 
              go_wp2_with (go_at_call 26; refine (digit26 _ _).mono ?_; rintro e w' ⟨rfl, rfl⟩)
              have hp1 : p + 1 ≤ s.size := by omega
              clear hwr hbt hdI h46b
              go_loop [4, 6, 8, 10] (fun v4 v6 v8 v10 => ∃ q : Nat, v4 = .int .i64 q ∧ v6 = .int .i64 (fracR (n * 1000) 100 (seg s (p + 1) q)).1 ∧ v8 = .int .i64 ((q : Int) - (p + 1)) ∧ v10 = .int .i64 (fracR (n * 1000) 100 (seg s (p + 1) q)).2 ∧ p + 1 ≤ q ∧ q ≤ s.size ∧ (seg s (p + 1) q).all dg = true) (fun v4 _ _ _ => s.size - (intOf v4).toNat)
              case atStart => exact ⟨p + 1, by go_num, by rw [seg_self, fracR_nil], by go_num, by rw [seg_self, fracR_nil], by omega, hp1, by rw [seg_self]; rfl⟩
              case round =>
                obtain ⟨q, rfl, rfl, rfl, rfl, hpq, hqs, hallq⟩ := hrel
                have hbd := fracR_bd _ hallq (n * 1000) 100 (by omega) (by omega)
                have hlen : (seg s (p + 1) q).length ≤ 500 := by unfold seg; rw [List.length_take]; simp; omega
                obtain ⟨m, hm⟩ : ∃ m, m = (fracR (n * 1000) 100 (seg s (p + 1) q)).1 := ⟨_, rfl⟩
                obtain ⟨u, hu⟩ : ∃ u, u = (fracR (n * 1000) 100 (seg s (p + 1) q)).2 := ⟨_, rfl⟩
                rw [← hm, ← hu] at hbd ⊢
                obtain ⟨hm1, hm2, hu1, hu2⟩ := hbd
                have hm3 : 0 ≤ m := by omega
                have hm4 : m ≤ 2147484097000 := by omega
                clear hm1 hm2 hlen
                have Hm := Lib.hid hm
                have Hu := Lib.hid hu
                have Hallq := Lib.hid hallq
                clear hm hu hallq
                by_cases hlq : q < s.size
                · have hbq : (s[q].toNat : Int) < 256 := by have := s[q].toNat_lt; omega
                  have hwq : wrap64 (s[q].toNat : Int) = (s[q].toNat : Int) := by unfold wrap64; omega
                  cases hdq : dg s[q] with
                  | true =>
                    obtain ⟨h1, h2⟩ := dg_true hdq
                    have hdqI : dgI (s[q].toNat : Int) = true := by rw [dgI_dg]; exact hdq
                    have Hdq := Lib.hid hdq
                    clear hdq
                    have hmul1 : 0 ≤ u * ((s[q].toNat : Int) - 48) := Int.mul_nonneg hu1 (by omega)
                    have hmul2 : u * ((s[q].toNat : Int) - 48) ≤ 900 := by
                      have : u * ((s[q].toNat : Int) - 48) ≤ 100 * 9 := Int.mul_le_mul hu2 (by omega) (by omega) (by omega)
                      omega
                    go_wp2_with (go_at_call 26; refine (digit26 _ _).mono ?_; rintro e w' ⟨rfl, rfl⟩)
                    go_round
                    case rel =>
                      refine ⟨q + 1, by go_num, ?_, by go_num, ?_, by omega, by omega, ?_⟩
                      · rw [seg_snoc s (p + 1) q hpq hlq]; exact val_int _ (by rw [fracR_snoc1, ← Hm.out, ← Hu.out])
                      · rw [seg_snoc s (p + 1) q hpq hlq]; exact val_int _ (by rw [fracR_snoc2 _ _ _ _ (by rw [← Hu.out]; exact hu1), ← Hu.out])
                      · rw [seg_snoc s (p + 1) q hpq hlq, List.all_append, Hallq.out]; simp [Hdq.out]
                    case measure => simp [intOf]; omega
                  | false =>
                    have hdqI : dgI (s[q].toNat : Int) = false := by rw [dgI_dg]; exact hdq
                    have Hrunq : Hid (IsRun s (p + 1) q) := Lib.hid ⟨hpq, hqs, Hallq.out, fun _ => hdq⟩
                    clear hdq
                    have hne : ¬ (q : Int) = (s.size : Int) := by omega
                    clear hm3 hm4 hu1 hu2 hb1 hb2
                    go_wp2_with (go_at_call 26; refine (digit26 _ _).mono ?_; rintro e w' ⟨rfl, rfl⟩)
                    go_ret2
                    refine ⟨⟨_, _, rfl, ?_⟩, rfl⟩
                    have := Hsg.out
                    refine ⟨p, by rw [this]; exact Hrun.out, fun h => absurd H46.out (h hlt), fun _ _ => ⟨q, Hrunq.out, ?_⟩⟩
                    rw [if_neg (by omega)]; exact ⟨rfl, rfl⟩
                · obtain rfl : q = s.size := by omega
                  have Hrunq : Hid (IsRun s (p + 1) s.size) := Lib.hid ⟨hpq, hqs, Hallq.out, fun h => absurd h (by omega)⟩
                  by_cases hz : p + 1 = s.size
                  · have hz1 : (s.size : Int) - (p + 1) = 0 := by omega
                    have hz2 : ((s.size : Int) - (p + 1) == 0) = true := by simp [hz1]
                    clear hz1
                    go_wp2_with (go_at_call 26; refine (digit26 _ _).mono ?_; rintro e w' ⟨rfl, rfl⟩)
                    go_ret2
                    refine ⟨⟨_, _, rfl, ?_⟩, rfl⟩
                    have := Hsg.out
                    refine ⟨p, by rw [this]; exact Hrun.out, fun h => absurd H46.out (h hlt), fun _ _ => ⟨s.size, Hrunq.out, ?_⟩⟩
                    rw [if_neg (by omega)]; exact ⟨rfl, rfl⟩
                  · have hz2 : ((s.size : Int) - (p + 1) == 0) = false := by simp; omega
                    have hz3 : p + 1 < s.size := by omega
                    clear hz
                    cases neg with
                    | true =>
                      go_wp2_with (first | (go_at_call 26; refine (digit26 _ _).mono ?_; rintro e w' ⟨rfl, rfl⟩) | (go_at_call 18; refine (cap18 _ _).mono ?_; rintro e w' ⟨rfl, rfl⟩))
                      go_ret2
                      refine ⟨⟨_, _, rfl, ?_⟩, rfl⟩
                      have := Hsg.out
                      refine ⟨p, by rw [this]; exact Hrun.out, fun h => absurd H46.out (h hlt), fun _ _ => ⟨s.size, Hrunq.out, ?_⟩⟩
                      rw [this, if_pos ⟨rfl, hz3⟩, ← Hn.out, ← Hm.out]; exact ⟨rfl, rfl⟩
                    | false =>
                      go_wp2_with (first | (go_at_call 26; refine (digit26 _ _).mono ?_; rintro e w' ⟨rfl, rfl⟩) | (go_at_call 18; refine (cap18 _ _).mono ?_; rintro e w' ⟨rfl, rfl⟩))
                      go_ret2
                      refine ⟨⟨_, _, rfl, ?_⟩, rfl⟩
                      have := Hsg.out
                      refine ⟨p, by rw [this]; exact Hrun.out, fun h => absurd H46.out (h hlt), fun _ _ => ⟨s.size, Hrunq.out, ?_⟩⟩
                      rw [this, if_pos ⟨rfl, hz3⟩, ← Hn.out, ← Hm.out]; exact ⟨rfl, rfl⟩
            · have h46b : ((s[p].toNat : Int) == 46) = false := by simpa using h46
              have hne : ¬ (p : Int) = (s.size : Int) := by omega
              have H46 : Hid (¬ s[p] = 46) := Lib.hid (fun e => h46 (by rw [e]; rfl))
              clear h46
              go_wp2_with (go_at_call 26; refine (digit26 _ _).mono ?_; rintro e w' ⟨rfl, rfl⟩)
              go_ret2
              refine ⟨⟨_, _, rfl, ?_⟩, rfl⟩
              have := Hsg.out
              refine ⟨p, by rw [this]; exact Hrun.out, fun _ => ?_, fun _ h => absurd h H46.out⟩
              rw [if_neg (by omega)]; exact ⟨rfl, rfl⟩
        · obtain rfl : p = s.size := by omega
          have Hrun : Hid (IsRun s i0 s.size) := Lib.hid ⟨hip, hps, Hall.out, fun h => absurd h (by omega)⟩
          by_cases hz : i0 = s.size
          · have hzb : ((s.size : Int) - i0 == 0) = true := by simp; omega
            go_wp2_with (go_at_call 26; refine (digit26 _ _).mono ?_; rintro e w' ⟨rfl, rfl⟩)
            go_ret2
            refine ⟨⟨_, _, rfl, ?_⟩, rfl⟩
            have := Hsg.out
            refine ⟨s.size, by rw [this]; exact Hrun.out, fun _ => ?_, fun h => absurd h (by omega)⟩
            rw [this, if_neg (by omega)]; exact ⟨rfl, rfl⟩
          · have hz' : i0 < s.size := by omega
            have hz2 : ¬ (s.size : Int) - i0 = 0 := by omega
            cases neg with
            | true =>
              go_wp2_with (first | (go_at_call 26; refine (digit26 _ _).mono ?_; rintro e w' ⟨rfl, rfl⟩) | (go_at_call 18; refine (cap18 _ _).mono ?_; rintro e w' ⟨rfl, rfl⟩))
              go_ret2
              refine ⟨⟨_, _, rfl, ?_⟩, rfl⟩
              have := Hsg.out
              refine ⟨s.size, by rw [this]; exact Hrun.out, fun _ => ?_, fun h => absurd h (by omega)⟩
              rw [this, if_pos ⟨rfl, hz'⟩, ← Hn.out]; exact ⟨rfl, rfl⟩
            | false =>
              go_wp2_with (first | (go_at_call 26; refine (digit26 _ _).mono ?_; rintro e w' ⟨rfl, rfl⟩) | (go_at_call 18; refine (cap18 _ _).mono ?_; rintro e w' ⟨rfl, rfl⟩))
              go_ret2
              refine ⟨⟨_, _, rfl, ?_⟩, rfl⟩
              have := Hsg.out
              refine ⟨s.size, by rw [this]; exact Hrun.out, fun _ => ?_, fun h => absurd h (by omega)⟩
              rw [this, if_pos ⟨rfl, hz'⟩, ← Hn.out]; exact ⟨rfl, rfl⟩
end Go.Proofs.YtnddjcpnaeekcaaDoor.NumA
