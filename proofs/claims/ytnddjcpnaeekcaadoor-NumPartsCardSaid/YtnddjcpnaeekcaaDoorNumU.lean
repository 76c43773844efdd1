/- The walk of NumParts: a sign, whole digits and three behind the point make up a number, whatever digits stand behind them, where strconv's table of powers stands as the rows list it. -/
import Derived.Test.YtnddjcpnaeekcaaDoorNumW
namespace Go.Proofs.YtnddjcpnaeekcaaDoor.NumA
open Go.RowKit
theorem parts_list (v x : Nat) (more : ByteArray) : (((str (Lib.decDigits v) ++ (⟨#[46]⟩ : ByteArray) ++ (str (Lib.decDigits (1000 + x))).extract 1 (str (Lib.decDigits (1000 + x))).size) ++ more)).data.toList = Lib.decDigits v ++ 46 :: ((Lib.decDigits (1000 + x)).drop 1 ++ more.data.toList) := by
  have e : ∀ l : List UInt8, (str l).data.toList = l := fun l => rfl
  rw [ByteArray.data_append, Array.toList_append, ByteArray.data_append, Array.toList_append, ByteArray.data_append, Array.toList_append, ext_list, e, e, str_size, List.take_of_length_le (Nat.le_refl _)]
  simp
theorem parts_body (neg : Bool) (v x : Nat) (more : List UInt8) (hv : v ≤ 2000000) (hx : x ≤ 999) (hm : more.all dg = true) :
    numBody neg (Lib.decDigits v ++ 46 :: ((Lib.decDigits (1000 + x)).drop 1 ++ more)) = (if neg then -((v : Int) * 1000 + x) else (v : Int) * 1000 + x, true) := by
  rw [dec_tail _ (by omega), body_point _ _ _ (dec_all _) ?_ rfl, dec_fold _ (by omega), frac_three _ _ (by omega)]
  · unfold sgn
    cases neg
    · simp only [Bool.false_eq_true, if_false]; rw [capI_self (by omega) (by omega)]
    · simp only [if_true]; rw [capI_self (by omega) (by omega)]
  · rw [List.all_append, hm]
    simp only [List.all_cons, List.all_nil, Bool.and_true, (dg_of (x / 100) (by omega)).1, (dg_of (x / 10 % 10) (by omega)).1, (dg_of (x % 10) (by omega)).1]
theorem parts_num (v x : Nat) (more : ByteArray) (hv : v ≤ 2000000) (hx : x ≤ 999) (hm : more.data.toList.all dg = true) :
    numL (((str (Lib.decDigits v) ++ (⟨#[46]⟩ : ByteArray) ++ (str (Lib.decDigits (1000 + x))).extract 1 (str (Lib.decDigits (1000 + x))).size) ++ more)).data.toList = ((v : Int) * 1000 + x, true) := by
  rw [parts_list]
  have h := parts_body false v x more.data.toList hv hx hm
  have h1 := dec_all v
  have h2 := dec_ne v
  cases e : Lib.decDigits v with
  | nil => rw [e] at h2; cases h2
  | cons c l =>
    rw [e] at h1 h
    simp only [List.all_cons, Bool.and_eq_true] at h1
    rw [List.cons_append] at h ⊢
    simp only [numL]
    rw [if_neg (by rintro rfl; exact absurd h1.1 (by decide)), if_neg (by rintro rfl; exact absurd h1.1 (by decide)), h]
    rfl
theorem parts_neg (v x : Nat) (more : ByteArray) (hv : v ≤ 2000000) (hx : x ≤ 999) (hm : more.data.toList.all dg = true) :
    numL ((⟨#[45]⟩ : ByteArray) ++ ((str (Lib.decDigits v) ++ (⟨#[46]⟩ : ByteArray) ++ (str (Lib.decDigits (1000 + x))).extract 1 (str (Lib.decDigits (1000 + x))).size) ++ more)).data.toList = (-((v : Int) * 1000 + x), true) := by
  rw [one_list, parts_list]
  exact parts_body true v x more.data.toList hv hx hm
set_option maxHeartbeats 1000000 in
set_option maxRecDepth 100000 in
theorem parts5 (below : Bool) (whole behind : Int) (more : ByteArray) (w : World) (hmz : more.size ≤ 140737488351232) (ht : tabOk w) : Calls Tryd.prog 5 #[.bool below, .int .i64 whole, .int .i64 behind, .string more] w fun e w' => e = .returned (.bool true) ∧ Below w.heap.size w w' := by
  by_cases hg : 0 ≤ whole ∧ whole ≤ 2000000 ∧ 0 ≤ behind ∧ behind ≤ 999 ∧ more.size ≤ 60
  · obtain ⟨h1, h2, h3, h4, h5⟩ := hg
    obtain ⟨v, rfl⟩ := Int.eq_ofNat_of_zero_le h1
    obtain ⟨x, rfl⟩ := Int.eq_ofNat_of_zero_le h3
    have h5' : (more.size : Int) ≤ 60 := by omega
    obtain ⟨q, hq⟩ : ∃ q, q = str (Lib.decDigits v) := ⟨_, rfl⟩
    obtain ⟨r, hr⟩ : ∃ r, r = str (Lib.decDigits (1000 + x)) := ⟨_, rfl⟩
    have hqs : q.size ≤ 100 := by rw [hq, str_size]; have := dec_short 9 v (by omega); omega
    have hrs : r.size ≤ 100 := by rw [hr, str_size]; have := dec_short 9 (1000 + x) (by omega); omega
    have hrs1 : 1 ≤ r.size := by rw [hr, str_size, dec_big (by omega)]; simp
    have DV := fun W => digits17 v W (by omega)
    have DX := fun W => digits17 (1000 + x) W (by omega)
    have hcx : ((1000 + x : Nat) : Int) = 1000 + (x : Int) := by omega
    simp only [hcx] at DX
    rw [← hq] at DV
    rw [← hr] at DX
    have DV' : ∀ W, Calls Tryd.prog 17 #[.int .i64 v] W fun e w' => e = .returned (.string q) ∧ w' = W := fun W => (DV W).mono (by rintro e w' ⟨rfl, rfl⟩; exact ⟨rfl, rfl⟩)
    have Hq := Lib.hid hq
    have Hr := Lib.hid hr
    clear hq hr hcx DV
    go_enter Tryd.func5, Tryd.ntmps5
    go_wp2_with (go_at_call 11; refine (alive11 _ ht).mono ?_; rintro e w1 ⟨rfl, hb0⟩)
    go_loop [10] (fun v10 => ∃ i : Nat, v10 = .int .i64 i ∧ i ≤ more.size ∧ (more.data.toList.take i).all dg = true) (fun v10 => more.size - (intOf v10).toNat)
    case atStart => exact ⟨0, rfl, Nat.zero_le _, rfl⟩
    case round =>
      obtain ⟨i, rfl, him, hall⟩ := hrel
      have Hall := Lib.hid hall
      clear hall
      by_cases hlt : i < more.size
      · cases hdc : dg more[i] with
        | true =>
          obtain ⟨g1, g2⟩ := dg_true hdc
          have Hdc := Lib.hid hdc
          clear hdc
          go_wp2
          go_round
          case rel =>
            refine ⟨i + 1, by go_num, by omega, ?_⟩
            have e : more.data.toList.take (i + 1) = more.data.toList.take i ++ [more[i]] := by
              have h' : i < more.data.toList.length := hlt
              rw [List.take_succ_eq_append_getElem h']; rfl
            rw [e, List.all_append, Hall.out]
            simp only [List.all_cons, List.all_nil, Hdc.out, Bool.and_true]
          case measure => simp [intOf]; omega
        | false =>
          have hd2 := dg_false hdc
          clear hdc
          rcases hd2 with g1 | g1
          · go_wp2
            go_ret
            exact ⟨rfl, hb0⟩
          · have g2 : 48 ≤ (more[i].toNat : Int) := by omega
            go_wp2
            go_ret
            exact ⟨rfl, hb0⟩
      · obtain rfl : i = more.size := by omega
        have Hm : Hid (more.data.toList.all dg = true) := Lib.hid (by have := Hall.out; rwa [List.take_of_length_le (by simp)] at this)
        go_upto_region 10 with (go_at_call 17; refine (DX _).mono ?_; rintro e w' ⟨rfl, rfl⟩)
        go_quiet ((go_at_call 17; exact Calls.quiet_of_same (DV' _)))
        obtain ⟨S, hS⟩ : ∃ S, S = q ++ (⟨#[46]⟩ : ByteArray) ++ r.extract 1 r.size ++ more := ⟨_, rfl⟩
        have hsz : S.size ≤ 400 := by
          rw [hS, ByteArray.size_append, ByteArray.size_append, ByteArray.size_append, ByteArray.size_extract, show (ByteArray.mk #[46]).size = 1 from rfl]; omega
        rw [← hS]
        have e1 : numL S.data.toList = ((v : Int) * 1000 + x, true) := by rw [hS, Hq.out, Hr.out]; exact parts_num v x more (by omega) (by omega) Hm.out
        have e2 : numL ((⟨#[45]⟩ : ByteArray) ++ S).data.toList = (-((v : Int) * 1000 + x), true) := by rw [hS, Hq.out, Hr.out]; exact parts_neg v x more (by omega) (by omega) Hm.out
        have O1 := fun W => of12_as S ((v : Int) * 1000 + x) true e1 (by omega) W
        have O2 := fun W => of12_as ((⟨#[45]⟩ : ByteArray) ++ S) (-((v : Int) * 1000 + x)) true e2 (by rw [one_size]; omega) W
        clear hS e1 e2 Hq Hr Hm DV' DX Hall hlt him
        cases below with
        | true =>
          go_wp2_with (go_at_call 12; refine (O2 _).mono ?_; rintro e w' ⟨rfl, hb2⟩)
          go_ret
          exact ⟨rfl, bstep (bdrew hb0 _) hb2⟩
        | false =>
          go_wp2_with (go_at_call 12; refine (O1 _).mono ?_; rintro e w' ⟨rfl, hb2⟩)
          go_ret
          exact ⟨rfl, bstep (bdrew hb0 _) hb2⟩
  · by_cases g1 : whole < 0
    · clear hg
      go_enter Tryd.func5, Tryd.ntmps5
      go_wp2_with (go_at_call 11; refine (alive11 _ ht).mono ?_; rintro e w' ⟨rfl, hb0⟩)
      go_ret
      exact ⟨rfl, hb0⟩
    · by_cases g2 : 2000000 < whole
      · clear hg
        go_enter Tryd.func5, Tryd.ntmps5
        go_wp2_with (go_at_call 11; refine (alive11 _ ht).mono ?_; rintro e w' ⟨rfl, hb0⟩)
        go_ret
        exact ⟨rfl, hb0⟩
      · by_cases g3 : behind < 0
        · clear hg
          go_enter Tryd.func5, Tryd.ntmps5
          go_wp2_with (go_at_call 11; refine (alive11 _ ht).mono ?_; rintro e w' ⟨rfl, hb0⟩)
          go_ret
          exact ⟨rfl, hb0⟩
        · by_cases g4 : 999 < behind
          · clear hg
            go_enter Tryd.func5, Tryd.ntmps5
            go_wp2_with (go_at_call 11; refine (alive11 _ ht).mono ?_; rintro e w' ⟨rfl, hb0⟩)
            go_ret
            exact ⟨rfl, hb0⟩
          · have g5 : (60 : Int) < (more.size : Int) := by omega
            clear hg
            go_enter Tryd.func5, Tryd.ntmps5
            go_wp2_with (go_at_call 11; refine (alive11 _ ht).mono ?_; rintro e w' ⟨rfl, hb0⟩)
            go_ret
            exact ⟨rfl, hb0⟩
theorem parts5' (below : Bool) (whole behind : Int) (more : ByteArray) (w : World) (_ : (Lit.int .i64 whole).wf = true) (_ : (Lit.int .i64 behind).wf = true) (hmz : more.size ≤ 140737488351232) (ht : tabOk w) : Calls Tryd.prog 5 #[.bool below, .int .i64 whole, .int .i64 behind, .string more] w fun e w' => e = .returned (.bool true) ∧ Below w.heap.size w w' :=
  parts5 below whole behind more w hmz ht
end Go.Proofs.YtnddjcpnaeekcaaDoor.NumA
