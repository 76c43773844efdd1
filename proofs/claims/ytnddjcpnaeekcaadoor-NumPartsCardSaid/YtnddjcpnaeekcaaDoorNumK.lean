/- The example of the document, and the walk of NumReads, where strconv's table of powers stands as the rows list it. -/
import Derived.Test.YtnddjcpnaeekcaaDoorNumL
import Derived.Test.YtnddjcpnaeekcaaDoorRows
import Derived.Lib.LaidTab
import Derived.MakeChecks
import Derived.Stop.LaidErr
import Derived.LaidSub
namespace Go.Proofs.YtnddjcpnaeekcaaDoor.NumA
open Go.RowKit
/-! The library's table, out of what the rows list; the example of the document; the laws' walks. -/
abbrev lay : List (String × DataW Unit) := [("math/bits.deBruijn32tab", Rows.laid_math_bits_deBruijn32tab), ("math/bits.deBruijn64tab", Rows.laid_math_bits_deBruijn64tab), ("internal/strconv.uint64pow10", Rows.laid_internal_strconv_uint64pow10)]
theorem tab_of_laid {W : World} (h : laidMetH Tryd.prog lay W) : tabOk W := by
  rw [MakeChecks.laidMetH_plain _ _ _ (by kernel_rfl)] at h
  have h2 := laidMet.tail (laidMet.tail h)
  exact Lib.tabIs_of_head (rest := []) (g := 1) (by kernel_rfl) (t := 53) (n := 20) (e := 44) (by kernel_rfl) (by kernel_rfl) (by kernel_rfl) (by kernel_rfl) (by kernel_rfl) h2
theorem alive_of : numOf ⟨#[45, 49, 46, 50, 51, 52, 53]⟩ = (-1234, true) := by
  rw [numOf_numL]; decide
theorem alive_text : textB (-1234) = ⟨#[45, 49, 46, 50, 51, 52]⟩ := by
  have e1 : Lib.decDigits 1 = [49] := by simp [Lib.decDigits]
  have e2 : Lib.decDigits 1234 = [49, 50, 51, 52] := by simp [Lib.decDigits]
  unfold textB
  rw [show capI (-1234) = -1234 by decide]
  rw [show (-1234 : Int).natAbs = 1234 by decide, show 1234 / 1000 = 1 by decide, show 1000 + 1234 % 1000 = 1234 by decide, e1, e2]
  decide +kernel
set_option maxHeartbeats 400000 in
theorem alive11 (w : World) (ht : tabOk w) : Calls Tryd.prog 11 #[] w fun e w' => e = .returned (.bool true) ∧ Below w.heap.size w w' := by
  have C12 : ∀ W, Calls Tryd.prog 12 #[.string ⟨#[45, 49, 46, 50, 51, 52, 53]⟩] W fun e w' => e = .returned (.tuple #[.int .i64 (-1234), .bool true]) ∧ Below W.heap.size W w' := by
    intro W
    refine (of12 _ W (by decide)).mono ?_
    rintro e w' ⟨h, hb⟩
    unfold OfPost at h
    rw [alive_of] at h
    exact ⟨h, hb⟩
  have C14 := fun W h => text14 (-1234) W h
  rw [alive_text] at C14
  go_enter Tryd.func11, Tryd.ntmps11
  go_wp2_with (first | (go_at_call 12; refine (C12 _).mono ?_; rintro e w' ⟨rfl, hb1⟩) | (go_at_call 14; refine (C14 _ (tab_below ht hb1)).mono ?_; rintro e w' ⟨rfl, hb2⟩))
  go_ret
  exact ⟨rfl, bstep hb1 hb2⟩
set_option maxHeartbeats 400000 in
theorem reads3 (s : ByteArray) (w : World) (ht : tabOk w) : Calls Tryd.prog 3 #[.string s] w fun e w' => e = .returned (.bool true) ∧ Below w.heap.size w w' := by
  by_cases hs : s.size ≤ 500
  · obtain ⟨x, b, hxb⟩ : ∃ x b, numOf s = (x, b) := ⟨_, _, rfl⟩
    have C12 : ∀ W, Calls Tryd.prog 12 #[.string s] W fun e w' => e = .returned (.tuple #[.int .i64 x, .bool b]) ∧ Below W.heap.size W w' := by
      intro W
      refine (of12 _ W (by omega)).mono ?_
      rintro e w' ⟨h, hb⟩
      unfold OfPost at h
      rw [hxb] at h
      exact ⟨h, hb⟩
    have C13 : ∀ W, Calls Tryd.prog 13 #[.string s] W fun e w' => e = .returned (.tuple #[.int .i64 x, .bool b]) ∧ W = w' := by
      intro W
      refine (num13 _ W (by omega)).mono ?_
      rintro e w' ⟨⟨y, c, h, hr⟩, hb⟩
      have := res_numL s y c hr
      rw [hxb] at this
      cases this
      exact ⟨h, hb⟩
    clear hxb
    have hs' : (s.size : Int) ≤ 500 := by omega
    cases b with
    | true =>
      go_enter Tryd.func3, Tryd.ntmps3
      go_wp2_with (first | (go_at_call 11; refine (alive11 _ ht).mono ?_; rintro e w' ⟨rfl, hb0⟩) | (go_at_call 12; refine (C12 _).mono ?_; rintro e w' ⟨rfl, hb1⟩) | (go_at_call 13; refine (C13 _).mono ?_; rintro e w' ⟨rfl, rfl⟩))
      go_ret
      exact ⟨rfl, bstep hb0 hb1⟩
    | false =>
      go_enter Tryd.func3, Tryd.ntmps3
      go_wp2_with (first | (go_at_call 11; refine (alive11 _ ht).mono ?_; rintro e w' ⟨rfl, hb0⟩) | (go_at_call 12; refine (C12 _).mono ?_; rintro e w' ⟨rfl, hb1⟩) | (go_at_call 13; refine (C13 _).mono ?_; rintro e w' ⟨rfl, rfl⟩))
      go_ret
      exact ⟨rfl, bstep hb0 hb1⟩
  · have hs' : (500 : Int) < (s.size : Int) := by omega
    go_enter Tryd.func3, Tryd.ntmps3
    go_wp2_with (go_at_call 11; refine (alive11 _ ht).mono ?_; rintro e w' ⟨rfl, hb0⟩)
    go_ret
    exact ⟨rfl, hb0⟩
end Go.Proofs.YtnddjcpnaeekcaaDoor.NumA
