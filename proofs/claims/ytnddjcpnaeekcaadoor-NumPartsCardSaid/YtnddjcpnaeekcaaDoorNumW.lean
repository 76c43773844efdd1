/- The walks of NumSums, NumOnes, NumRises and NumTexts, where strconv's table of powers stands as the rows list it. -/
import Derived.Test.YtnddjcpnaeekcaaDoorNumK
import Derived.Test.YtnddjcpnaeekcaaDoorNumM
namespace Go.Proofs.YtnddjcpnaeekcaaDoor.NumA
open Go.RowKit
def addI (a b : Int) : Int := capI (capI a + capI b)
def mulI (a b : Int) : Int := capI ((capI a * capI b).tdiv 1000)
theorem mul_bd {x y : Int} (h0 : -2147483647 ≤ x) (h1 : x ≤ 2147483647) (h2 : -2147483647 ≤ y) (h3 : y ≤ 2147483647) : -4611686014132420609 ≤ x * y ∧ x * y ≤ 4611686014132420609 := by
  have e : (x * y).natAbs ≤ 2147483647 * 2147483647 := by rw [Int.natAbs_mul]; exact Nat.mul_le_mul (by omega) (by omega)
  omega
set_option maxHeartbeats 400000 in
theorem add19 (a b : Int) (w : World) : Calls Tryd.prog 19 #[.int .i64 a, .int .i64 b] w fun e w' => e = .returned (.int .i64 (addI a b)) ∧ w = w' := by
  obtain ⟨h0, h1⟩ := capI_bd a
  obtain ⟨h2, h3⟩ := capI_bd b
  go_enter Tryd.func19, Tryd.ntmps19
  go_wp2_with (go_at_call 16; refine (cap16 _ _).mono ?_; rintro e w' ⟨rfl, rfl⟩)
  go_ret
  exact ⟨rfl, rfl⟩
set_option maxHeartbeats 400000 in
theorem add20 (a b : Int) (w : World) : Calls Tryd.prog 20 #[.int .i64 a, .int .i64 b] w fun e w' => e = .returned (.int .i64 (addI a b)) ∧ w = w' := by
  obtain ⟨h0, h1⟩ := capI_bd a
  obtain ⟨h2, h3⟩ := capI_bd b
  go_enter Tryd.func20, Tryd.ntmps20
  go_wp2_with (go_at_call 18; refine (cap18 _ _).mono ?_; rintro e w' ⟨rfl, rfl⟩)
  go_ret
  exact ⟨rfl, rfl⟩
theorem tdiv_bd {z : Int} (h0 : -4611686014132420609 ≤ z) (h1 : z ≤ 4611686014132420609) : -4611686014132421 ≤ z.tdiv 1000 ∧ z.tdiv 1000 ≤ 4611686014132421 := by
  by_cases h : 0 ≤ z
  · rw [Int.tdiv_eq_ediv_of_nonneg h]; omega
  · have e : z = -(-z) := by omega
    rw [e, Int.neg_tdiv, Int.tdiv_eq_ediv_of_nonneg (by omega)]; omega
theorem wrap_in {z : Int} (h0 : -9000000000000000000 ≤ z) (h1 : z ≤ 9000000000000000000) : wrap64 z = z := by unfold wrap64; omega
theorem mul_wrap (a b : Int) : capI (wrap64 (Int.tdiv (wrap64 (capI a * capI b)) 1000)) = mulI a b := by
  obtain ⟨h0, h1⟩ := capI_bd a
  obtain ⟨h2, h3⟩ := capI_bd b
  obtain ⟨h4, h5⟩ := mul_bd h0 h1 h2 h3
  unfold mulI
  generalize capI a * capI b = z at *
  have := tdiv_bd h4 h5
  rw [wrap_in (z := z) (by omega) (by omega), wrap_in (by omega) (by omega)]
set_option maxHeartbeats 400000 in
theorem mul21 (a b : Int) (w : World) : Calls Tryd.prog 21 #[.int .i64 a, .int .i64 b] w fun e w' => e = .returned (.int .i64 (mulI a b)) ∧ w = w' := by
  have H := Lib.hid (mul_wrap a b)
  go_enter Tryd.func21, Tryd.ntmps21
  go_wp2_with (go_at_call 16; refine (cap16 _ _).mono ?_; rintro e w' ⟨rfl, rfl⟩)
  go_ret
  exact ⟨by rw [← H.out]; rfl, rfl⟩
set_option maxHeartbeats 400000 in
theorem mul22 (a b : Int) (w : World) : Calls Tryd.prog 22 #[.int .i64 a, .int .i64 b] w fun e w' => e = .returned (.int .i64 (mulI a b)) ∧ w = w' := by
  have H := Lib.hid (mul_wrap a b)
  go_enter Tryd.func22, Tryd.ntmps22
  go_wp2_with (go_at_call 18; refine (cap18 _ _).mono ?_; rintro e w' ⟨rfl, rfl⟩)
  go_ret
  exact ⟨by rw [← H.out]; rfl, rfl⟩
theorem add_comm' (a b : Int) : addI a b = addI b a := by unfold addI; rw [Int.add_comm]
theorem mul_comm' (a b : Int) : mulI a b = mulI b a := by unfold mulI; rw [Int.mul_comm]
set_option maxHeartbeats 1000000 in
theorem sums8 (a b : Int) (w : World) (ht : tabOk w) : Calls Tryd.prog 8 #[.int .i64 a, .int .i64 b] w fun e w' => e = .returned (.bool true) ∧ Below w.heap.size w w' := by
  obtain ⟨x, hx⟩ : ∃ x, addI a b = x := ⟨_, rfl⟩
  obtain ⟨y, hy⟩ : ∃ y, mulI a b = y := ⟨_, rfl⟩
  obtain ⟨c, hc⟩ : ∃ c, capI a = c := ⟨_, rfl⟩
  have A1 := fun W => add19 a b W
  have A2 := fun W => add19 b a W
  have A3 := fun W => add20 a b W
  have M1 := fun W => mul21 a b W
  have M2 := fun W => mul21 b a W
  have M3 := fun W => mul22 a b W
  have K1 := fun W => cap16 a W
  have K2 := fun W => cap18 a W
  rw [← add_comm' a b] at A2
  rw [← mul_comm' a b] at M2
  rw [hx] at A1 A2 A3
  rw [hy] at M1 M2 M3
  rw [hc] at K1 K2
  clear hx hy hc
  go_enter Tryd.func8, Tryd.ntmps8
  go_wp2_with (first | (go_at_call 11; refine (alive11 _ ht).mono ?_; rintro e w' ⟨rfl, hb0⟩) | (go_at_call 16; refine (K1 _).mono ?_; rintro e w' ⟨rfl, rfl⟩) | (go_at_call 18; refine (K2 _).mono ?_; rintro e w' ⟨rfl, rfl⟩) | (go_at_call 20; refine (A3 _).mono ?_; clear A3; rintro e w' ⟨rfl, rfl⟩) | (go_at_call 22; refine (M3 _).mono ?_; clear M3; rintro e w' ⟨rfl, rfl⟩) | (go_at_call 19; first | ((with_reducible refine (A1 _).mono ?_); rintro e w' ⟨rfl, rfl⟩) | ((with_reducible refine (A2 _).mono ?_); rintro e w' ⟨rfl, rfl⟩)) | (go_at_call 21; first | ((with_reducible refine (M1 _).mono ?_); rintro e w' ⟨rfl, rfl⟩) | ((with_reducible refine (M2 _).mono ?_); rintro e w' ⟨rfl, rfl⟩)))
  go_ret
  exact ⟨rfl, hb0⟩
theorem capI_mono {a b : Int} (h : a ≤ b) : capI a ≤ capI b := by
  unfold capI
  repeat' split
  all_goals omega
theorem add_zero' (a : Int) : addI a 0 = capI a := by unfold addI; rw [show capI 0 = 0 by decide, Int.add_zero, capI_capI]
theorem mul_one' (a : Int) : mulI a 1000 = capI a := by
  unfold mulI; rw [show capI 1000 = 1000 by decide, Int.mul_tdiv_cancel _ (by decide), capI_capI]
theorem mul_zero' (a : Int) : mulI a 0 = 0 := by unfold mulI; rw [show capI 0 = 0 by decide, Int.mul_zero]; decide
theorem mul_neg' (a : Int) : mulI (capI a) (-1000) = -capI a := by
  have := capI_bd a
  unfold mulI; rw [capI_capI, show capI (-1000) = -1000 by decide, show capI a * -1000 = -capI a * 1000 by omega, Int.mul_tdiv_cancel _ (by decide), capI_self (by omega) (by omega)]
theorem add_neg' (a : Int) : addI (capI a) (-capI a) = 0 := by
  have h := capI_bd a
  unfold addI; rw [capI_capI, capI_self (n := -capI a) (by omega) (by omega), Int.add_right_neg]; decide
set_option maxHeartbeats 1000000 in
theorem ones9 (a b : Int) (w : World) (ht : tabOk w) : Calls Tryd.prog 9 #[.int .i64 a, .int .i64 b] w fun e w' => e = .returned (.bool true) ∧ Below w.heap.size w w' := by
  have hcb := capI_bd a
  obtain ⟨hc0, hc1⟩ := hcb
  have hmono := fun h => capI_mono (a := a) (b := b) h
  have A1 := fun W => add19 a 0 W
  have A2 := fun W => add19 (capI a) (-capI a) W
  have M1 := fun W => mul21 a 1000 W
  have M2 := fun W => mul21 a 0 W
  have M3 := fun W => mul21 (capI a) (-1000) W
  have K1 := fun W => cap16 a W
  have K2 := fun W => cap16 b W
  have K3 := fun W => cap16 (capI a) W
  rw [add_zero'] at A1
  rw [add_neg'] at A2
  rw [mul_one'] at M1
  rw [mul_zero'] at M2
  rw [mul_neg'] at M3
  rw [capI_capI] at K3
  generalize capI a = c at *
  generalize capI b = d at *
  by_cases hab : b < a
  · clear hmono
    go_enter Tryd.func9, Tryd.ntmps9
    go_wp2_with (first | (go_at_call 11; refine (alive11 _ ht).mono ?_; rintro e w' ⟨rfl, hb0⟩) | (go_at_call 16; first | ((with_reducible refine (K1 _).mono ?_); rintro e w' ⟨rfl, rfl⟩) | ((with_reducible refine (K2 _).mono ?_); rintro e w' ⟨rfl, rfl⟩) | ((with_reducible refine (K3 _).mono ?_); rintro e w' ⟨rfl, rfl⟩)) | (go_at_call 19; first | ((with_reducible refine (A1 _).mono ?_); rintro e w' ⟨rfl, rfl⟩) | ((with_reducible refine (A2 _).mono ?_); rintro e w' ⟨rfl, rfl⟩)) | (go_at_call 21; first | ((with_reducible refine (M1 _).mono ?_); rintro e w' ⟨rfl, rfl⟩) | ((with_reducible refine (M2 _).mono ?_); rintro e w' ⟨rfl, rfl⟩) | ((with_reducible refine (M3 _).mono ?_); rintro e w' ⟨rfl, rfl⟩)))
    go_ret
    exact ⟨rfl, hb0⟩
  · have hcd : c ≤ d := hmono (by omega)
    clear hmono
    go_enter Tryd.func9, Tryd.ntmps9
    go_wp2_with (first | (go_at_call 11; refine (alive11 _ ht).mono ?_; rintro e w' ⟨rfl, hb0⟩) | (go_at_call 16; first | ((with_reducible refine (K1 _).mono ?_); rintro e w' ⟨rfl, rfl⟩) | ((with_reducible refine (K2 _).mono ?_); rintro e w' ⟨rfl, rfl⟩) | ((with_reducible refine (K3 _).mono ?_); rintro e w' ⟨rfl, rfl⟩)) | (go_at_call 19; first | ((with_reducible refine (A1 _).mono ?_); rintro e w' ⟨rfl, rfl⟩) | ((with_reducible refine (A2 _).mono ?_); rintro e w' ⟨rfl, rfl⟩)) | (go_at_call 21; first | ((with_reducible refine (M1 _).mono ?_); rintro e w' ⟨rfl, rfl⟩) | ((with_reducible refine (M2 _).mono ?_); rintro e w' ⟨rfl, rfl⟩) | ((with_reducible refine (M3 _).mono ?_); rintro e w' ⟨rfl, rfl⟩)))
    go_ret
    exact ⟨rfl, hb0⟩
theorem add_le (a b c : Int) (h : a ≤ b) : addI a c ≤ addI b c := by unfold addI; exact capI_mono (by have := capI_mono h; omega)
theorem tdiv_mono {x y : Int} (h : x ≤ y) : x.tdiv 1000 ≤ y.tdiv 1000 := by
  have key : ∀ z : Int, z.tdiv 1000 = if 0 ≤ z then z / 1000 else -((-z) / 1000) := by
    intro z
    by_cases h : 0 ≤ z
    · rw [if_pos h, Int.tdiv_eq_ediv_of_nonneg h]
    · have e : z = -(-z) := by omega
      rw [if_neg h]
      conv => lhs; rw [e]
      rw [Int.neg_tdiv, Int.tdiv_eq_ediv_of_nonneg (by omega)]
  rw [key, key]
  split <;> split <;> omega
theorem capI_nn {c : Int} (h : 0 ≤ c) : 0 ≤ capI c := by have := capI_mono h; rw [show capI 0 = 0 by decide] at this; exact this
theorem capI_np {c : Int} (h : c < 0) : capI c ≤ 0 := by have := capI_mono (a := c) (b := 0) (by omega); rw [show capI 0 = 0 by decide] at this; exact this
theorem mul_le (a b c : Int) (h : a ≤ b) (hc : 0 ≤ c) : mulI a c ≤ mulI b c := by
  unfold mulI; exact capI_mono (tdiv_mono (Int.mul_le_mul_of_nonneg_right (capI_mono h) (capI_nn hc)))
theorem mul_ge (a b c : Int) (h : a ≤ b) (hc : c < 0) : mulI b c ≤ mulI a c := by
  unfold mulI; exact capI_mono (tdiv_mono (Int.mul_le_mul_of_nonpos_right (capI_mono h) (capI_np hc)))
set_option maxHeartbeats 1000000 in
theorem rises10 (a b c : Int) (w : World) (ht : tabOk w) : Calls Tryd.prog 10 #[.int .i64 a, .int .i64 b, .int .i64 c] w fun e w' => e = .returned (.bool true) ∧ Below w.heap.size w w' := by
  have A1 := fun W => add19 a c W
  have A2 := fun W => add19 b c W
  have M1 := fun W => mul21 a c W
  have M2 := fun W => mul21 b c W
  have h1 := fun h => add_le a b c h
  have h2 := fun h => mul_le a b c h
  have h3 := fun h => mul_ge a b c h
  generalize addI a c = x1 at *
  generalize addI b c = x2 at *
  generalize mulI a c = y1 at *
  generalize mulI b c = y2 at *
  by_cases hab : b < a
  · clear h1 h2 h3
    go_enter Tryd.func10, Tryd.ntmps10
    go_wp2_with (first | (go_at_call 11; refine (alive11 _ ht).mono ?_; rintro e w' ⟨rfl, hb0⟩))
    go_ret
    exact ⟨rfl, hb0⟩
  · have hx := h1 (by omega)
    by_cases hc : c < 0
    · have hy := h3 (by omega) hc
      clear h1 h2 h3
      go_enter Tryd.func10, Tryd.ntmps10
      go_wp2_with (first | (go_at_call 11; refine (alive11 _ ht).mono ?_; rintro e w' ⟨rfl, hb0⟩) | (go_at_call 19; first | ((with_reducible refine (A1 _).mono ?_); clear A1; rintro e w' ⟨rfl, rfl⟩) | ((with_reducible refine (A2 _).mono ?_); rintro e w' ⟨rfl, rfl⟩)) | (go_at_call 21; first | ((with_reducible refine (M1 _).mono ?_); clear M1; rintro e w' ⟨rfl, rfl⟩) | ((with_reducible refine (M2 _).mono ?_); rintro e w' ⟨rfl, rfl⟩)))
      go_ret
      exact ⟨rfl, hb0⟩
    · have hy := h2 (by omega) (by omega)
      clear h1 h2 h3
      go_enter Tryd.func10, Tryd.ntmps10
      go_wp2_with (first | (go_at_call 11; refine (alive11 _ ht).mono ?_; rintro e w' ⟨rfl, hb0⟩) | (go_at_call 19; first | ((with_reducible refine (A1 _).mono ?_); clear A1; rintro e w' ⟨rfl, rfl⟩) | ((with_reducible refine (A2 _).mono ?_); rintro e w' ⟨rfl, rfl⟩)) | (go_at_call 21; first | ((with_reducible refine (M1 _).mono ?_); clear M1; rintro e w' ⟨rfl, rfl⟩) | ((with_reducible refine (M2 _).mono ?_); rintro e w' ⟨rfl, rfl⟩)))
      go_ret
      exact ⟨rfl, hb0⟩
theorem dec_short : ∀ (k u : Nat), u < 10 ^ (k + 1) → (Lib.decDigits u).length ≤ k + 1
  | 0, u, h => by rw [dec_small (by simpa using h)]; simp
  | k + 1, u, h => by
    by_cases h1 : u < 10
    · rw [dec_small h1]; simp
    · rw [dec_big h1, List.length_append]
      have := dec_short k (u / 10) (by rw [Nat.pow_succ] at h; omega)
      simp; omega
theorem posT_len (a : Nat) (h : a ≤ 2147483647) : (posT a).length ≤ 100 := by
  have h1 := dec_short 9 (a / 1000) (by omega)
  have h2 := dec_short 9 (1000 + a % 1000) (by omega)
  unfold posT
  split <;> simp <;> omega
theorem textB_size (n : Int) : (textB n).size ≤ 200 := by
  have h : (textB n).size = (textB n).data.toList.length := rfl
  have hb := capI_bd n
  have := posT_len (capI n).natAbs (by omega)
  rw [h, textB_list]
  split <;> simp <;> omega
set_option maxHeartbeats 1000000 in
theorem texts4 (n : Int) (w : World) (ht : tabOk w) : Calls Tryd.prog 4 #[.int .i64 n] w fun e w' => e = .returned (.bool true) ∧ Below w.heap.size w w' := by
  have T1 := fun W h => text14 n W h
  have T2 := fun W => text15 n W
  have K1 := fun W => cap16 n W
  have O1 : ∀ W, Calls Tryd.prog 12 #[.string (textB n)] W fun e w' => e = .returned (.tuple #[.int .i64 (capI n), .bool true]) ∧ Below W.heap.size W w' := by
    intro W
    refine (of12 _ W (by have := textB_size n; omega)).mono ?_
    rintro e w' ⟨h, hb⟩
    unfold OfPost at h
    rw [back] at h
    exact ⟨h, hb⟩
  generalize textB n = s at *
  generalize capI n = m at *
  go_enter Tryd.func4, Tryd.ntmps4
  go_wp2_with (first | (go_at_call 11; refine (alive11 _ ht).mono ?_; rintro e w' ⟨rfl, hb0⟩) | (go_at_call 14; refine (T1 _ (tab_below ht hb0)).mono ?_; rintro e w' ⟨rfl, hb1⟩) | (go_at_call 12; refine (O1 _).mono ?_; rintro e w' ⟨rfl, hb2⟩) | (go_at_call 15; refine (T2 _).mono ?_; rintro e w' ⟨rfl, rfl⟩) | (go_at_call 16; refine (K1 _).mono ?_; rintro e w' ⟨rfl, rfl⟩))
  go_ret
  exact ⟨rfl, bstep (bstep hb0 hb1) hb2⟩
theorem body_bad (neg : Bool) (c : UInt8) (l : List UInt8) (h1 : ¬ c = 46) (h2 : dg c = false) : numBody neg (c :: l) = (0, false) := by
  have e : splitDot (c :: l) = (c :: (splitDot l).1, (splitDot l).2) := by rw [splitDot, if_neg h1]
  have h3 : (c :: (splitDot l).1).all dg = false := by simp only [List.all_cons, h2, Bool.false_and]
  unfold numBody
  rw [e]
  generalize (splitDot l).1 = A at *
  generalize (splitDot l).2 = B at *
  cases B <;> simp only [h3, Bool.false_and] <;> rfl
theorem one_list (c : UInt8) (s : ByteArray) : ((⟨#[c]⟩ : ByteArray) ++ s).data.toList = c :: s.data.toList := by simp
theorem two_list (c d : UInt8) (s : ByteArray) : ((⟨#[c, d]⟩ : ByteArray) ++ s).data.toList = c :: d :: s.data.toList := by simp
theorem one_size (c : UInt8) (s : ByteArray) : ((⟨#[c]⟩ : ByteArray) ++ s).size = s.size + 1 := by rw [ByteArray.size_append]; exact Nat.add_comm 1 _
theorem two_size (c d : UInt8) (s : ByteArray) : ((⟨#[c, d]⟩ : ByteArray) ++ s).size = s.size + 2 := by rw [ByteArray.size_append]; exact Nat.add_comm 2 _
theorem of12_as (s : ByteArray) (x : Int) (b : Bool) (h : numL s.data.toList = (x, b)) (hs : s.size ≤ 1000000) (w : World) :
    Calls Tryd.prog 12 #[.string s] w fun e w' => e = .returned (.tuple #[.int .i64 x, .bool b]) ∧ Below w.heap.size w w' := by
  refine (of12 _ w hs).mono ?_
  rintro e w' ⟨h1, hb⟩
  unfold OfPost at h1
  rw [numOf_numL, h] at h1
  exact ⟨h1, hb⟩
set_option maxHeartbeats 1000000 in
theorem signs7 (n : Int) (w : World) (ht : tabOk w) : Calls Tryd.prog 7 #[.int .i64 n] w fun e w' => e = .returned (.bool true) ∧ Below w.heap.size w w' := by
  have hmb := capI_bd n
  have K1 := fun W => cap16 n W
  obtain ⟨m, hm⟩ : ∃ m, capI n = m := ⟨_, rfl⟩
  rw [hm] at K1 hmb
  obtain ⟨hm0, hm1⟩ := hmb
  by_cases hp : m ≤ 0
  · clear hm
    go_enter Tryd.func7, Tryd.ntmps7
    go_wp2_with (first | (go_at_call 11; refine (alive11 _ ht).mono ?_; rintro e w' ⟨rfl, hb0⟩) | (go_at_call 16; refine (K1 _).mono ?_; rintro e w' ⟨rfl, rfl⟩))
    go_ret
    exact ⟨rfl, hb0⟩
  · obtain ⟨a, rfl⟩ := Int.eq_ofNat_of_zero_le (a := m) (by omega)
    have hs1 : (textB a).data.toList = posT a := by
      rw [textB_list, capI_self (by omega) (by omega), if_neg (by omega)]; rfl
    have hs2 : textB (-(a : Int)) = (⟨#[45]⟩ : ByteArray) ++ textB a := by
      apply Go.WideShapes.bytes_inj
      rw [one_list, hs1, textB_list, capI_self (by omega) (by omega), if_pos (by omega), Int.natAbs_neg, Int.natAbs_natCast]; rfl
    have hsz := textB_size a
    have T1 := fun W h => text14 (a : Int) W h
    have T2 := fun W h => text14 (-(a : Int)) W h
    rw [hs2] at T2
    have hg : ∀ neg, numBody neg (posT a) = (sgn neg a, true) := fun neg => posT_body neg a (by omega)
    have O1 := fun W => of12_as ((⟨#[43]⟩ : ByteArray) ++ textB a) a true (by rw [one_list, hs1]; show numBody false _ = _; rw [hg]; unfold sgn; rw [if_neg (by decide), capI_self (by omega) (by omega)]) (by rw [one_size]; omega) W
    have O2 := fun W => of12_as ((⟨#[45]⟩ : ByteArray) ++ textB a) (-(a : Int)) true (by rw [one_list, hs1]; show numBody true _ = _; rw [hg]; unfold sgn; rw [if_pos rfl, capI_self (by omega) (by omega)]) (by rw [one_size]; omega) W
    have O3 := fun W => of12_as ((⟨#[45, 45]⟩ : ByteArray) ++ textB a) 0 false (by rw [two_list]; show numBody true _ = _; rw [body_bad _ _ _ (by decide) (by decide)]) (by rw [two_size]; omega) W
    have O4 := fun W => of12_as ((⟨#[43, 45]⟩ : ByteArray) ++ textB a) 0 false (by rw [two_list]; show numBody false _ = _; rw [body_bad _ _ _ (by decide) (by decide)]) (by rw [two_size]; omega) W
    generalize textB a = s at *
    have hp' : 0 < (a : Int) := by omega
    clear hm hs1 hs2 hg hp
    go_enter Tryd.func7, Tryd.ntmps7
    go_wp2_with (first | (go_at_call 11; refine (alive11 _ ht).mono ?_; rintro e w' ⟨rfl, hb0⟩) | (go_at_call 16; refine (K1 _).mono ?_; rintro e w' ⟨rfl, rfl⟩) | (go_at_call 14; first | ((with_reducible refine (T1 _ (tab_below ht hb0)).mono ?_); clear T1; rintro e w' ⟨rfl, hb1⟩) | ((with_reducible refine (T2 _ (tab_below ht (bstep (bstep (bstep (bstep (bstep hb0 hb1) hb2) hb3) hb4) hb5))).mono ?_); rintro e w' ⟨rfl, hb6⟩)) | (go_at_call 12; first | ((with_reducible refine (O1 _).mono ?_); clear O1; rintro e w' ⟨rfl, hb2⟩) | ((with_reducible refine (O2 _).mono ?_); clear O2; rintro e w' ⟨rfl, hb3⟩) | ((with_reducible refine (O3 _).mono ?_); clear O3; rintro e w' ⟨rfl, hb4⟩) | ((with_reducible refine (O4 _).mono ?_); clear O4; rintro e w' ⟨rfl, hb5⟩)))
    go_ret
    exact ⟨rfl, bstep (bstep (bstep (bstep (bstep (bstep hb0 hb1) hb2) hb3) hb4) hb5) hb6⟩
end Go.Proofs.YtnddjcpnaeekcaaDoor.NumA
