/- The library's tables, out of what the rows list. -/
import Derived.Test.YtdenafhfngnlfaaDoorXlG
import Derived.Test.YtdenafhfngnlfaaDoorRows
import Derived.Lib.LaidU8T
import Derived.PinnedBridge
import Derived.Lib.LaidTab
import Derived.MakeChecks
import Derived.Stop.LaidErr
import Derived.LaidSub
import Derived.LaidMore
import Derived.KernelRfl
namespace Go.Proofs.YtdenafhfngnlfaaDoor.Aw
open Go Go.RowKit Go.Lib Go.Shelf
set_option linter.unusedVariables false
set_option linter.unusedSimpArgs false
set_option maxRecDepth 100000
def u8_ren : Go.Shelf.Ren := ⟨fun n => n, fun | 5 => 5 | 119 => 67 | 138 => 69 | 139 => 70 | n => n, fun | 3 => 0 | 4 => 1 | n => n⟩
theorem u8_types : U8Types Tryd.prog u8_ren := ⟨Tryd.underlying5, Tryd.underlying67, Tryd.underlying69, Tryd.underlying70⟩
theorem u8_extra : U8Extra Tryd.prog u8_ren := ⟨by kernel_rfl, by kernel_rfl, by kernel_rfl, by kernel_rfl, by kernel_rfl, by kernel_rfl, by kernel_rfl⟩
theorem accept_is : (Rows.laid_unicode_utf8_acceptRanges : DataW Unit) = acceptData := by kernel_rfl
theorem utf_of_reads {W : World} (h3 : VarReads Tryd.prog W "unicode/utf8.first" Rows.laid_unicode_utf8_first) (h4 : VarReads Tryd.prog W "unicode/utf8.acceptRanges" Rows.laid_unicode_utf8_acceptRanges) : Lib.Utf8Tabs 0 1 W := by
  rw [accept_is] at h4
  rw [show Rows.laid_unicode_utf8_first = firstData from Pinned.utf8First_eq] at h3
  exact utf8Tabs_of_readsT u8_types u8_extra h3 h4
abbrev layU : List (String × DataW Unit) := [("unicode/utf8.acceptRanges", Rows.laid_unicode_utf8_acceptRanges), ("unicode/utf8.first", Rows.laid_unicode_utf8_first)]
theorem tab_ofU {W : World} (h : laidMetH Tryd.prog layU W) : tabP W := by
  rw [MakeChecks.laidMetH_plain _ _ _ (by kernel_rfl)] at h
  exact ⟨utf_of_reads (laidMet.reads h (by simp [layU])) (laidMet.reads h (by simp [layU]))⟩
theorem tab_ltU {w : World} (ht : tabP w) : ∀ b, tabB b → b < w.heap.size := by
  intro b hb
  rcases Nat.lt_or_ge b w.heap.size with h | h
  · exact h
  · exfalso
    have hn : w.heap[b]? = none := Array.getElem?_eq_none h
    obtain ⟨⟨h1, h2⟩⟩ := ht
    have no : ∀ (b o : Nat) {v : Value}, w.heap[b]? = none → w.cell? ⟨b, o, none⟩ = some v → False := fun b o v hb hv => by
      unfold World.cell? at hv
      rw [hb] at hv
      cases hv
    rcases hb with hb | hb
    · subst hb; exact no _ _ hn (h1 0 (by decide))
    · subst hb; exact no _ _ hn (h2 0 (by decide)).1
theorem globU {W : World} (ht : tabP W) : Glob (fun b => b < W.heap.size) W := ⟨fun b hb => tab_ltU ht b hb, ht⟩
end Go.Proofs.YtdenafhfngnlfaaDoor.Aw
