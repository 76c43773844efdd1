/- Walks of the library's and of package num's functions, for the statements of chapter 3: what strings.Cut at a point, num.digits, num.Of and num.Text answer, and that memory that was there stays. -/
import Derived.Test.YtnddjcpnaeekcaaDoorShelf
import Derived.Deep.Draws
import Derived.Below
import Derived.WalkKit
import Derived.RegionTactic
import Derived.Deep.QuietTactic
import Derived.BigQuiet
import Derived.Lib.ConvBytes
import Derived.Lib.AtoiErrMem
import Derived.Lib.IndexLaws
import Derived.WalkSmall
namespace Go.Proofs.YtnddjcpnaeekcaaDoor.NumA
open Go.RowKit

def cutDot (s : ByteArray) : ByteArray × ByteArray × Bool :=
  if 0 ≤ Lib.indexByte s.data.toList 46 then (s.extract 0 (Lib.indexByte s.data.toList 46).toNat, s.extract ((Lib.indexByte s.data.toList 46).toNat + 1) s.size, true) else (s, ⟨#[]⟩, false)

theorem index_room (s : ByteArray) (c : UInt8) : -1 ≤ Lib.indexByte s.data.toList c ∧ Lib.indexByte s.data.toList c < s.size := by
  refine ⟨Lib.indexByte_ge _ _, ?_⟩
  by_cases h : 0 ≤ Lib.indexByte s.data.toList c
  · obtain ⟨j, hj⟩ := Int.eq_ofNat_of_zero_le h
    have := (Lib.indexByte_some (o := j) hj).1
    have h2 : j < s.data.toList.length := by
      by_cases hl : j < s.data.toList.length
      · exact hl
      · rw [List.getElem?_eq_none (by omega)] at this; cases this
    rw [hj]; simp at h2; omega
  · omega

/-- Memory that was there stays, over two steps. -/
theorem bstep {w a b : World} (h : Below w.heap.size w a) (k : Below a.heap.size a b) : Below w.heap.size w b := h.trans (k.mono h.size)
theorem bdrew {w a : World} (h : Below w.heap.size w a) (n : Nat) : Below w.heap.size w (a.drewN n) := below_drewN h n

set_option maxHeartbeats 400000 in
theorem cut30 (s : ByteArray) (w : World) (hs : s.size ≤ 9223372036854775807) :
    Calls Tryd.prog 30 #[.string s, .string ⟨#[46]⟩] w fun e w' => e = .returned (.tuple #[.string (cutDot s).1, .string (cutDot s).2.1, .bool (cutDot s).2.2]) ∧ ∃ n, w' = w.drewN n := by
  have hb := index_room s 46
  unfold cutDot
  generalize hi : Lib.indexByte s.data.toList 46 = i at *
  have Hi := Lib.hid hi
  clear hi
  by_cases h0 : 0 ≤ i
  · obtain ⟨j, rfl⟩ := Int.eq_ofNat_of_zero_le h0
    simp only [h0, if_true]
    have c2 : (↑j : Int) ≤ ↑s.size := by omega
    have c3 : (0 : Int) ≤ ↑j + 1 := by omega
    have c4 : (↑j + 1 : Int) ≤ ↑s.size := by omega
    go_enter Tryd.func30, Tryd.ntmps30
    go_wp2_with (go_at_call 32; refine (Tryd.stringslite_Index_one _ _ _).mono ?_; rintro e w' ⟨rfl, rfl⟩; rw [Hi.out])
    go_region
    go_wp2
    go_ret3
    exact ⟨rfl, 1, rfl⟩
  · have h1 : i = -1 := by omega
    subst h1
    simp only [h0, if_false]
    clear h0 hb
    go_enter Tryd.func30, Tryd.ntmps30
    go_wp2_with (go_at_call 32; refine (Tryd.stringslite_Index_one _ _ _).mono ?_; rintro e w' ⟨rfl, rfl⟩; rw [Hi.out])
    go_ret3
    exact ⟨rfl, 0, rfl⟩

theorem cut24 (s : ByteArray) (w : World) (hs : s.size ≤ 9223372036854775807) :
    Calls Tryd.prog 24 #[.string s, .string ⟨#[46]⟩] w fun e w' => e = .returned (.tuple #[.string (cutDot s).1, .string (cutDot s).2.1, .bool (cutDot s).2.2]) ∧ ∃ n, w' = w.drewN n := by
  go_enter Tryd.func24, Tryd.ntmps24
  go_wp2_with (go_at_call 30; refine (cut30 _ _ hs).mono ?_; rintro e w' ⟨rfl, n, rfl⟩)
  go_ret3
  exact ⟨rfl, n, rfl⟩

end Go.Proofs.YtnddjcpnaeekcaaDoor.NumA
