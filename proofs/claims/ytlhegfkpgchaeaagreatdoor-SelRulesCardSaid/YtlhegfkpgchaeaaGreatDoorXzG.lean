/- The library's tables, out of what the rows list. -/
import Derived.Test.YtlhegfkpgchaeaaGreatDoorXyD
import Derived.Test.YtlhegfkpgchaeaaGreatDoorRows
import Derived.Lib.LaidU8T
import Derived.PinnedBridge
import Derived.Lib.LaidTab
import Derived.MakeChecks
import Derived.Stop.LaidErr
import Derived.LaidSub
import Derived.LaidMore
import Derived.KernelRfl
namespace Go.Proofs.YtlhegfkpgchaeaaGreatDoor.Aw
open Go Go.RowKit Go.Lib Go.Shelf
set_option linter.unusedVariables false
set_option linter.unusedSimpArgs false
set_option maxRecDepth 100000
def u8_ren : Go.Shelf.Ren := ⟨fun n => n, fun | 5 => 5 | 119 => 150 | 138 => 152 | 139 => 153 | n => n, fun | 3 => 0 | 4 => 1 | n => n⟩
theorem u8_types : U8Types Tryz.prog u8_ren := ⟨Tryz.underlying5, Tryz.underlying150, Tryz.underlying152, Tryz.underlying153⟩
theorem u8_extra : U8Extra Tryz.prog u8_ren := ⟨by kernel_rfl, by kernel_rfl, by kernel_rfl, by kernel_rfl, by kernel_rfl, by kernel_rfl, by kernel_rfl⟩
theorem accept_is : (Rows.laid_unicode_utf8_acceptRanges : DataW Unit) = acceptData := by kernel_rfl
theorem utf_of_reads {W : World} (h3 : VarReads Tryz.prog W "unicode/utf8.first" Rows.laid_unicode_utf8_first) (h4 : VarReads Tryz.prog W "unicode/utf8.acceptRanges" Rows.laid_unicode_utf8_acceptRanges) : Lib.Utf8Tabs 0 1 W := by
 rw [accept_is] at h4
 rw [show Rows.laid_unicode_utf8_first = firstData from Pinned.utf8First_eq] at h3
 exact utf8Tabs_of_readsT u8_types u8_extra h3 h4
abbrev layS : List (String × DataW Unit) := [("math/bits.deBruijn32tab", Rows.laid_math_bits_deBruijn32tab), ("math/bits.deBruijn64tab", Rows.laid_math_bits_deBruijn64tab), ("internal/strconv.uint64pow10", Rows.laid_internal_strconv_uint64pow10), ("unicode/utf8.acceptRanges", Rows.laid_unicode_utf8_acceptRanges), ("strconv.ErrRange", Rows.laid_strconv_ErrRange), ("strconv.ErrSyntax", Rows.laid_strconv_ErrSyntax), ("unicode/utf8.first", Rows.laid_unicode_utf8_first)]
theorem tab_ofS {W : World} (h : laidMetH Tryz.prog layS W) : tabP W := by
 rw [MakeChecks.laidMetH_plain _ _ _ (by kernel_rfl)] at h
 refine ⟨utf_of_reads (laidMet.reads h (by simp [layS])) (laidMet.reads h (by simp [layS])), ?_⟩
 have h2 := laidMet.tail (laidMet.tail h)
 exact Lib.tabIs_of_head (g := 5) (by kernel_rfl) (t := 195) (n := 20) (e := 138) (by kernel_rfl) (by kernel_rfl) (by kernel_rfl) (by kernel_rfl) (by kernel_rfl) h2
end Go.Proofs.YtlhegfkpgchaeaaGreatDoor.Aw
