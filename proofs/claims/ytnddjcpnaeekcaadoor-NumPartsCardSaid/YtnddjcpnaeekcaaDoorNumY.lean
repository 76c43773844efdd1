/- What num.Of answers, as a function of the text's bytes, for every text of at most a million bytes. -/
import Derived.Test.YtnddjcpnaeekcaaDoorNumX
namespace Go.Proofs.YtnddjcpnaeekcaaDoor.NumA
open Go.RowKit
theorem cap28 (a : Int) (w : World) : Calls Tryd.prog 28 #[.int .i64 a, .int .i64 (-2147483647), .int .i64 2147483647] w fun e w' => e = .returned (.int .i64 (capI a)) ∧ w = w' := by
  have h3 : Hid (capI a = min (max a (-2147483647)) 2147483647) := Lib.hid (by unfold capI; split <;> (try split) <;> omega)
  go_enter Tryd.func28, Tryd.ntmps28
  go_wp2
  go_ret
  exact ⟨by rw [h3.out]; rfl, rfl⟩
theorem cap16 (a : Int) (w : World) : Calls Tryd.prog 16 #[.int .i64 a] w fun e w' => e = .returned (.int .i64 (capI a)) ∧ w = w' := by
  go_enter Tryd.func16, Tryd.ntmps16
  go_wp2_with (go_at_call 28; refine (cap28 _ _).mono ?_; rintro e w' ⟨rfl, rfl⟩)
  go_ret
  exact ⟨rfl, rfl⟩
/-- strings.HasPrefix of one byte. -/
def hp (s : ByteArray) (c : UInt8) : Bool := if h : 0 < s.size then s[0] == c else false
theorem hp_eq (s : ByteArray) (c : UInt8) : Lib.hasPrefix s.data.toList [c] = hp s c := by
  unfold hp Lib.hasPrefix
  obtain ⟨⟨l⟩⟩ := s
  cases l with
  | nil => rfl
  | cons a l => 
    have h : 0 < (ByteArray.mk ⟨a :: l⟩).size := Nat.succ_pos _
    rw [dif_pos h]
    show (c == a && true) = (a == c)
    rw [Bool.and_true, Bool.beq_comm]
theorem pre23 (s : ByteArray) (c : UInt8) (w : World) :
    Calls Tryd.prog 23 #[.string s, .string ⟨#[c]⟩] w fun e w' => e = .returned (.bool (hp s c)) ∧ w = w' := by
  refine (Tryd.strings_HasPrefix s ⟨#[c]⟩ w).mono ?_
  rintro e w' ⟨rfl, rfl⟩
  exact ⟨by rw [← hp_eq], rfl⟩
def tl (s : ByteArray) : ByteArray := if sgR s then s.extract 1 s.size else s
theorem hp_cases (s : ByteArray) : (hp s 45 = true ∧ signR s = (true, 1) ∧ sgR s = true ∧ 1 ≤ s.size) ∨ (hp s 45 = false ∧ hp s 43 = true ∧ signR s = (false, 1) ∧ sgR s = true ∧ 1 ≤ s.size) ∨ (hp s 45 = false ∧ hp s 43 = false ∧ signR s = (false, 0) ∧ sgR s = false) := by
  unfold hp signR sgR
  by_cases h : 0 < s.size
  · simp only [h, dif_pos]
    by_cases h1 : s[0] = 43
    · right; left; simp [h1]; omega
    · by_cases h2 : s[0] = 45
      · left; simp [h2]; omega
      · right; right; simp [h1, h2]
  · right; right; simp [h]
def stepF (n : Int) (c : UInt8) : Int := if n * 10 + dv c > 1099511627776 then 1099511627776 else n * 10 + dv c
def foldF (l : List UInt8) : Int := l.foldl stepF 0
theorem foldF_snoc (l : List UInt8) (c : UInt8) : foldF (l ++ [c]) = stepF (foldF l) c := by simp [foldF, List.foldl_append]
theorem foldlF_bd (l : List UInt8) (h : l.all dg = true) : ∀ n, 0 ≤ n → n ≤ 1099511627776 → 0 ≤ l.foldl stepF n ∧ l.foldl stepF n ≤ 1099511627776 := by
  induction l with
  | nil => intro n h0 h1; exact ⟨h0, h1⟩
  | cons c l ih =>
    intro n h0 h1
    simp only [List.all_cons, Bool.and_eq_true] at h
    have h2 := dg_true h.1
    refine ih h.2 _ ?_ ?_ <;> (unfold stepF dv; split <;> omega)
def dAt (p : ByteArray) (i : Nat) : Int := if h : i < p.size then dv p[i] else 0
def accP (n : Int) (p : ByteArray) : Nat → Int
  | 0 => n
  | j + 1 => accP n p j * 10 + dAt p j
def fracP (n : Int) (p : ByteArray) : Int := accP n p 3
theorem mem_bytes (p : ByteArray) (i : Nat) (h : i < p.size) : p[i] ∈ p.data.toList := by
  have h' : i < p.data.toList.length := h
  exact List.getElem_mem h'
theorem getD_mem (l : List UInt8) (k : Nat) (h : k < l.length) : l.getD k 0 ∈ l := by
  rw [List.getD, List.getElem?_eq_getElem h]; exact List.getElem_mem h
theorem dAt_bd (p : ByteArray) (h : p.data.toList.all dg = true) (i : Nat) : 0 ≤ dAt p i ∧ dAt p i ≤ 9 := by
  unfold dAt
  split
  · rename_i hi
    have := dg_true (List.all_eq_true.1 h p[i] (mem_bytes p i hi))
    unfold dv; omega
  · omega
theorem accP_bd (n : Int) (p : ByteArray) (h : p.data.toList.all dg = true) (h0 : 0 ≤ n) (h1 : n ≤ 1099511627776) : ∀ j, j ≤ 3 → 0 ≤ accP n p j ∧ accP n p j ≤ 2000000000000000
  | 0, _ => by simp only [accP]; omega
  | 1, _ => by have := dAt_bd p h 0; simp only [accP]; omega
  | 2, _ => by have := dAt_bd p h 0; have := dAt_bd p h 1; simp only [accP]; omega
  | 3, _ => by have := dAt_bd p h 0; have := dAt_bd p h 1; have := dAt_bd p h 2; simp only [accP]; omega
  | j + 4, hj => by omega
def badP (t : ByteArray) : Bool := !(((cutDot t).1.data.toList.all dg) && ((cutDot t).2.1.data.toList.all dg)) || ((cutDot t).2.2 && (cutDot t).2.1.size == 0) || (!(cutDot t).2.2 && (cutDot t).1.size == 0)
def numOf (s : ByteArray) : Int × Bool :=
  if badP (tl s) then (0, false) else (capI (if (signR s).1 then -(fracP (foldF (cutDot (tl s)).1.data.toList) (cutDot (tl s)).2.1) else fracP (foldF (cutDot (tl s)).1.data.toList) (cutDot (tl s)).2.1), true)
theorem cut_size (t : ByteArray) : (cutDot t).1.size ≤ t.size ∧ (cutDot t).2.1.size ≤ t.size := by
  unfold cutDot
  split
  · simp; omega
  · exact ⟨Nat.le_refl _, Nat.zero_le _⟩
theorem tl_size (s : ByteArray) : (tl s).size ≤ s.size := by
  unfold tl; split <;> simp
def OfPost (s : ByteArray) (e : Ending) : Prop := e = .returned (.tuple #[.int .i64 (numOf s).1, .bool (numOf s).2])
theorem toList_eq (s : ByteArray) : s.toList = s.data.toList := ByteArray.toList_eq s
theorem toList_nil {s : ByteArray} (h : s.size = 0) : s.toList = [] := by
  rw [toList_eq]; exact List.length_eq_zero_iff.1 h
theorem toList_ne {s : ByteArray} (h : ¬ s.size = 0) : s.toList.isEmpty = false := by
  rw [toList_eq]; cases e : s.data.toList with
  | nil => exact absurd (by have : s.data.toList.length = 0 := by rw [e]; rfl
                            exact this) h
  | cons a l => rfl
def badOf (wh pt : ByteArray) (pnt : Bool) : Bool := !(wh.data.toList.all dg && pt.data.toList.all dg) || (pnt && pt.size == 0) || (!pnt && wh.size == 0)
set_option maxHeartbeats 1000000 in
set_option maxRecDepth 100000 in
theorem of12 (s : ByteArray) (w : World) (hs : s.size ≤ 1000000) :
    Calls Tryd.prog 12 #[.string s] w fun e w' => OfPost s e ∧ Below w.heap.size w w' := by
  obtain ⟨t, Ht⟩ : ∃ t, Hid (t = tl s) := ⟨_, Lib.hid rfl⟩
  have hts : t.size ≤ 1000000 := by rw [Ht.out]; have := tl_size s; omega
  obtain ⟨wh, pt, pnt, Hc⟩ : ∃ wh pt pnt, Hid (cutDot t = (wh, pt, pnt)) := ⟨_, _, _, Lib.hid rfl⟩
  have C24 : ∀ w, Calls Tryd.prog 24 #[.string t, .string ⟨#[46]⟩] w fun e w' => e = .returned (.tuple #[.string wh, .string pt, .bool pnt]) ∧ ∃ n, w' = w.drewN n := by
    intro w
    have := cut24 t w (by omega)
    rw [Hc.out] at this
    exact this
  have hwz : wh.size ≤ 1000000 := by have := (cut_size t).1; rw [Hc.out] at this; simp only at this; omega
  have hpz : pt.size ≤ 1000000 := by have := (cut_size t).2; rw [Hc.out] at this; simp only at this; omega
  obtain ⟨ng, Hng⟩ : ∃ ng, Hid (ng = (signR s).1) := ⟨_, Lib.hid rfl⟩
  go_enter Tryd.func12, Tryd.ntmps12
  go_upto_region 2 with (go_at_call 23; refine (pre23 _ _ _).mono ?_; rintro e w' ⟨rfl, rfl⟩)
  go_cut [4, 18] (fun v4 v18 wc => v4 = .bool ng ∧ v18 = .bool (sgR s) ∧ w = wc)
  case first =>
    rcases hp_cases s with ⟨h1, h2, h3, h4⟩ | ⟨h1, h2, h3, h4, h5⟩ | ⟨h1, h2, h3, h4⟩
    · have H := Lib.hid h3
      have G : Hid (ng = true) := Lib.hid (by rw [Hng.out, h2])
      clear h2 h3
      go_wp2_with (go_at_call 23; refine (pre23 _ _ _).mono ?_; rintro e w' ⟨rfl, rfl⟩)
      go_meet
      case rel => exact ⟨by rw [G.out], by rw [H.out], rfl⟩
    · have H := Lib.hid h4
      have G : Hid (ng = false) := Lib.hid (by rw [Hng.out, h3])
      clear h3 h4
      go_wp2_with (go_at_call 23; refine (pre23 _ _ _).mono ?_; rintro e w' ⟨rfl, rfl⟩)
      go_meet
      case rel => exact ⟨by rw [G.out], by rw [H.out], rfl⟩
    · have H := Lib.hid h4
      have G : Hid (ng = false) := Lib.hid (by rw [Hng.out, h3])
      clear h3 h4
      go_wp2_with (go_at_call 23; refine (pre23 _ _ _).mono ?_; rintro e w' ⟨rfl, rfl⟩)
      go_meet
      case rel => exact ⟨by rw [G.out], by rw [H.out], rfl⟩
  case rest =>
    obtain ⟨rfl, rfl, rfl⟩ := hcut
    go_upto_if 18 with (fail)
    go_cut [0] (fun v0 wc' => v0 = .string t ∧ w = wc')
    case first =>
      cases hsg : sgR s with
      | true =>
        have h1 : 1 ≤ s.size := by rcases hp_cases s with ⟨h1, h2, h3, h4⟩ | ⟨h1, h2, h3, h4, h5⟩ | ⟨h1, h2, h3, h4⟩ <;> first | exact h4 | exact h5 | (rw [hsg] at h4; cases h4)
        have H : Hid (t = s.extract 1 s.size) := Lib.hid (by rw [Ht.out]; unfold tl; rw [hsg]; rfl)
        clear hsg
        go_wp2
        go_meet
        case rel => exact ⟨by rw [H.out], rfl⟩
      | false =>
        have H : Hid (t = s) := Lib.hid (by rw [Ht.out]; unfold tl; rw [hsg]; rfl)
        clear hsg
        go_wp2
        go_meet
        case rel => exact ⟨by rw [H.out], rfl⟩
    case rest =>
      obtain ⟨rfl, rfl⟩ := hcut
      go_upto_region 5 with (go_at_call 24; refine (C24 _).mono ?_; rintro e w' ⟨rfl, n1, rfl⟩)
      clear C24
      go_cut [49] (fun v49 wc' => v49 = .bool (badOf wh pt pnt) ∧ Below w.heap.size w wc')
      case first =>
        cases ha : wh.data.toList.all dg with
        | false =>
          have hr : Hid (badOf wh pt pnt = true) := Lib.hid (by unfold badOf; rw [ha]; simp)
          have D := fun W => digits25 wh W (by omega)
          rw [ha] at D
          clear ha
          go_wp2_with (go_at_call 25; refine (D _).mono ?_; rintro e w' ⟨rfl, hb1⟩)
          go_meet
          case rel => exact ⟨by rw [hr.out], bstep (bdrew (Below.refl _ _) _) hb1⟩
        | true =>
          have D := fun W => digits25 wh W (by omega)
          rw [ha] at D
          cases hb : pt.data.toList.all dg with
          | false =>
            have hr : Hid (badOf wh pt pnt = true) := Lib.hid (by unfold badOf; rw [ha, hb]; simp)
            have E := fun W => digits25 pt W (by omega)
            rw [hb] at E
            clear ha hb
            go_wp2_with (go_at_call 25; first | (refine (D _).mono ?_; clear D; rintro e w' ⟨rfl, hb1⟩) | (refine (E _).mono ?_; rintro e w' ⟨rfl, hb2⟩))
            go_meet
            case rel => exact ⟨by rw [hr.out], bstep (bstep (bdrew (Below.refl _ _) _) hb1) hb2⟩
          | true =>
            have E := fun W => digits25 pt W (by omega)
            rw [hb] at E
            cases pnt with
            | true =>
              by_cases hz : pt.size = 0
              · have hr : Hid (badOf wh pt true = true) := Lib.hid (by unfold badOf; rw [ha, hb, hz]; simp)
                have hz1 : pt.toList = [] := toList_nil hz
                clear ha hb hz
                go_wp2_with (go_at_call 25; first | (refine (D _).mono ?_; clear D; rintro e w' ⟨rfl, hb1⟩) | (refine (E _).mono ?_; rintro e w' ⟨rfl, hb2⟩))
                go_meet
                case rel => exact ⟨by rw [hr.out], bstep (bstep (bdrew (Below.refl _ _) _) hb1) hb2⟩
              · have hr : Hid (badOf wh pt true = false) := Lib.hid (by unfold badOf; rw [ha, hb]; simp [hz])
                have hz1 : pt.toList.isEmpty = false := toList_ne hz
                clear ha hb hz
                go_wp2_with (go_at_call 25; first | (refine (D _).mono ?_; clear D; rintro e w' ⟨rfl, hb1⟩) | (refine (E _).mono ?_; rintro e w' ⟨rfl, hb2⟩))
                go_meet
                case rel => exact ⟨by rw [hr.out], bstep (bstep (bdrew (Below.refl _ _) _) hb1) hb2⟩
            | false =>
              by_cases hz : wh.size = 0
              · have hr : Hid (badOf wh pt false = true) := Lib.hid (by unfold badOf; rw [ha, hb, hz]; simp)
                have hz1 : wh.toList = [] := toList_nil hz
                clear ha hb hz
                go_wp2_with (go_at_call 25; first | (refine (D _).mono ?_; clear D; rintro e w' ⟨rfl, hb1⟩) | (refine (E _).mono ?_; rintro e w' ⟨rfl, hb2⟩))
                go_meet
                case rel => exact ⟨by rw [hr.out], bstep (bstep (bdrew (Below.refl _ _) _) hb1) hb2⟩
              · have hr : Hid (badOf wh pt false = false) := Lib.hid (by unfold badOf; rw [ha, hb]; simp [hz])
                have hz1 : wh.toList.isEmpty = false := toList_ne hz
                clear ha hb hz
                go_wp2_with (go_at_call 25; first | (refine (D _).mono ?_; clear D; rintro e w' ⟨rfl, hb1⟩) | (refine (E _).mono ?_; rintro e w' ⟨rfl, hb2⟩))
                go_meet
                case rel => exact ⟨by rw [hr.out], bstep (bstep (bdrew (Below.refl _ _) _) hb1) hb2⟩
      case rest =>
        obtain ⟨rfl, hbw⟩ := hcut
        cases hbad : badOf wh pt pnt with
        | true =>
          have H : Hid (numOf s = (0, false)) := Lib.hid (by
            have : badP (tl s) = true := by unfold badP; rw [← Ht.out, Hc.out]; exact hbad
            unfold numOf; rw [this]; rfl)
          clear hbad
          go_wp2
          go_ret2
          exact ⟨by unfold OfPost; rw [H.out]; rfl, hbw⟩
        | false =>
          have hall : wh.data.toList.all dg = true := by
            unfold badOf at hbad; cases h : wh.data.toList.all dg <;> simp [h] at hbad ⊢
          have hallp : pt.data.toList.all dg = true := by
            unfold badOf at hbad; cases h : pt.data.toList.all dg <;> simp [h] at hbad ⊢
          have H : Hid (numOf s = (capI (if ng then -(fracP (foldF wh.data.toList) pt) else fracP (foldF wh.data.toList) pt), true)) := Lib.hid (by
            have : badP (tl s) = false := by unfold badP; rw [← Ht.out, Hc.out]; exact hbad
            unfold numOf; rw [this, ← Ht.out, Hc.out, ← Hng.out]; simp)
          clear hbad
          have Hall := Lib.hid hall
          have Hallp := Lib.hid hallp
          clear hall hallp
          have hconv := fun (w : World) => Lib.run_convert_string_bytes (P := Tryd.prog) w 9 30 5 wh Tryd.underlying9 Tryd.underlying30 Tryd.underlying5
          go_wp2
          clear hconv
          obtain ⟨W, hW⟩ : ∃ W, W = Lib.bytesWorld wc 5 wh := ⟨_, rfl⟩
          rw [← hW]
          have hB : Below w.heap.size w W := by rw [hW]; exact bstep hbw (below_bytes wc 5 wh)
          have hc : ∀ k : Nat, k < wh.size → W.cell? ⟨wc.heap.size, k, none⟩ = some (.int .u8 (wh.data.toList.getD k 0).toNat) := by
            intro k hk; rw [hW]; exact Lib.bytesWorld_cell wc 5 wh k hk
          clear hW
          go_loop [8, 53] (fun n i => ∃ k : Nat, k ≤ wh.size ∧ i = .int .i64 k ∧ n = .int .i64 (foldF (wh.data.toList.take k))) (fun _ i => wh.size - (intOf i).toNat)
          case atStart => exact ⟨0, Nat.zero_le _, rfl, rfl⟩
          case round =>
            obtain ⟨k, hk, rfl, rfl⟩ := hrel
            obtain ⟨hn0, hn1⟩ := foldlF_bd (wh.data.toList.take k) (List.all_eq_true.2 fun x hx => List.all_eq_true.1 Hall.out x (List.mem_of_mem_take hx)) 0 (by omega) (by omega)
            obtain ⟨n, hn⟩ : ∃ n, n = foldF (wh.data.toList.take k) := ⟨_, rfl⟩
            change 0 ≤ foldF (wh.data.toList.take k) at hn0
            change foldF (wh.data.toList.take k) ≤ 1099511627776 at hn1
            rw [← hn] at hn0 hn1 ⊢
            have Hn := Lib.hid hn
            clear hn
            by_cases hlt : k < wh.size
            · have hck := hc k hlt
              clear hc
              have hlen : k < wh.data.toList.length := by simpa using hlt
              obtain ⟨c, hcc⟩ : ∃ c, c = wh.data.toList.getD k 0 := ⟨_, rfl⟩
              rw [← hcc] at hck
              have hdc : dg c = true := by rw [hcc]; exact List.all_eq_true.1 Hall.out _ (getD_mem _ _ hlen)
              obtain ⟨h1, h2⟩ := dg_true hdc
              have Hcc := Lib.hid hcc
              clear hcc hdc hlen
              go_wp2
              go_round
              case rel =>
                refine ⟨k + 1, by omega, by go_num, val_int _ ?_⟩
                rw [take_snoc _ _ (by simpa using hlt), foldF_snoc, ← Hn.out, ← Hcc.out]; unfold stepF dv; split <;> omega
              case measure => simp [intOf]; omega
            · obtain ⟨N, hN⟩ : ∃ N, N = foldF wh.data.toList := ⟨_, rfl⟩
              have hnN : n = N := by rw [Hn.out, List.take_of_length_le (by simp; omega), hN]
              obtain rfl := hnN
              have HN := Lib.hid hN
              clear hN Hn hc
              go_wp2
              go_loop [8, 65] (fun a i => ∃ j : Nat, j ≤ 3 ∧ i = .int .i64 j ∧ a = .int .i64 (accP n pt j)) (fun _ i => 3 - (intOf i).toNat)
              case atStart => exact ⟨0, by omega, rfl, rfl⟩
              case round =>
                obtain ⟨j, hj, rfl, rfl⟩ := hrel
                obtain ⟨ha0, ha1⟩ := accP_bd n pt Hallp.out hn0 hn1 j hj
                obtain ⟨a, haa⟩ : ∃ a, a = accP n pt j := ⟨_, rfl⟩
                rw [← haa] at ha0 ha1 ⊢
                have Ha := Lib.hid haa
                clear haa
                by_cases hj3 : j < 3
                · by_cases hjp : j < pt.size
                  · have hdc : dg pt[j] = true := List.all_eq_true.1 Hallp.out pt[j] (mem_bytes pt j hjp)
                    obtain ⟨h1, h2⟩ := dg_true hdc
                    clear hdc
                    go_wp2
                    go_round
                    case rel =>
                      refine ⟨j + 1, by omega, by go_num, val_int _ ?_⟩
                      simp only [accP, ← Ha.out, dAt, hjp, dif_pos, dv]
                    case measure => simp [intOf]; omega
                  · go_wp2
                    go_round
                    case rel =>
                      refine ⟨j + 1, by omega, by go_num, val_int _ ?_⟩
                      simp only [accP, ← Ha.out, dAt, hjp]; simp
                    case measure => simp [intOf]; omega
                · obtain rfl : j = 3 := by omega
                  have Hf : Hid (fracP (foldF wh.data.toList) pt = a) := Lib.hid (by unfold fracP; rw [← HN.out, Ha.out])
                  cases ng with
                  | true =>
                    go_wp2_with (go_at_call 16; refine (cap16 _ _).mono ?_; rintro e w' ⟨rfl, rfl⟩)
                    go_ret2
                    exact ⟨by unfold OfPost; rw [H.out, Hf.out]; rfl, hB⟩
                  | false =>
                    go_wp2_with (go_at_call 16; refine (cap16 _ _).mono ?_; rintro e w' ⟨rfl, rfl⟩)
                    go_ret2
                    exact ⟨by unfold OfPost; rw [H.out, Hf.out]; rfl, hB⟩
end Go.Proofs.YtnddjcpnaeekcaaDoor.NumA
