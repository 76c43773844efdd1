/- A block of cells that a call has made: what is read of it, and a result that lies in it. -/
import Derived.Below
import Derived.RowKit
import Derived.Laws.Rows
import Derived.Laws.ResultCell
namespace Go.Proofs.YtlhegfkpgchaeaaGreatDoor.Blk
open Go Go.RowKit
section
variable {w w1 : World} {g : Nat}
theorem blk_below {o : Obj} (h : w.heap[g]? = some o) (hb : Below w.heap.size w w1) : w1.heap[g]? = some o := by
  have hg : g < w.heap.size := (Array.getElem?_eq_some_iff.1 h).1
  rw [hb.block g hg]
  exact h
variable {t : TypeId} {cs : Array Value} (h : w.heap[g]? = some (.cells cs t (0, 0)))
include h
theorem blk_cell (i : Nat) : w.cell? ⟨g, i, none⟩ = cs[i]? := cell_of_row w g i cs t (0, 0) h
theorem blk_frozen (i : Nat) : w.frozen? ⟨g, i, none⟩ = false := by
  unfold World.frozen?
  rw [h]
  simp
theorem blk_put {cs' : Array Value} (i : Nat) (u : Value) (e : cs.setIfInBounds i u = cs') : (w.setCell ⟨g, i, none⟩ u).heap[g]? = some (.cells cs' t (0, 0)) := by
  subst e
  unfold World.setCell
  rw [Array.getElem?_modify, if_pos rfl, h]
  rfl
end
theorem results_ct {P : Program} {fn : Func} {p u : Tmp} {ty : TypeId} (h : fn.results = #[.cell p ty, .tmp u]) (tmps : Array Value) (w : World) (g : Nat) (t : TypeId) (cs : Array Value) (fr : Nat × Nat) (d : TypeDesc)
    (hp : tmps.getD p undef = .pointer (some ⟨g, 0, none⟩)) (hg : w.heap[g]? = some (.cells cs t fr))
    (hu : P.underlying ty = some d) (hd : (match d with | .struct _ | .array _ _ => true | _ => false) = true) (hi : (P.info? ty).map (·.size) = some cs.size) :
    (results fn tmps).run P w = .ok (.tuple #[.agg cs, tmps.getD u undef]) w := by
  rw [results_cell_tmp h tmps P w, hp]
  have e : (asAddr (.pointer (some ⟨g, 0, none⟩))).run P w = .ok ⟨g, 0, none⟩ w := rfl
  rw [e, Result.andThen_ok, run_loadVar_row w g t ty cs fr d hg hu hd hi]
  rfl
end Go.Proofs.YtlhegfkpgchaeaaGreatDoor.Blk
