/- Package value: its small functions, as contracts. -/
import Derived.Test.YtlhegfkpgchaeaaGreatDoorXrP
import Derived.Test.YtlhegfkpgchaeaaGreatDoorWordB
import Derived.Test.YtlhegfkpgchaeaaGreatDoorNam
namespace Go.Proofs.YtlhegfkpgchaeaaGreatDoor.Aw
open Go Go.RowKit Go.Lib
set_option linter.unusedVariables false
set_option linter.unusedSimpArgs false
set_option maxRecDepth 100000
abbrev valD (v : Int × Int × Bool) : D := .tup [.agg [int v.1, int v.2.1], bool v.2.2]
theorem valD_scal (v : Int × Int × Bool) : scalD (valD v) := ⟨⟨trivial, trivial, trivial⟩, trivial, trivial⟩
theorem rep_val3 (v : Int × Int × Bool) : ∀ c w, Rep c w (valD v) (.tuple #[.agg #[.int .i64 v.1, .int .i64 v.2.1], .bool v.2.2]) := fun c w => by
 unfold Rep
 refine ⟨[.agg #[.int .i64 v.1, .int .i64 v.2.1], .bool v.2.2], rfl, repL_cons ?_ (repL_cons (rep_of _ rfl) repL_nil)⟩
 unfold Rep
 exact ⟨[.int .i64 v.1, .int .i64 v.2.1], rfl, repL_cons (rep_of _ rfl) (repL_cons (rep_of _ rfl) repL_nil)⟩
theorem Fin.v3 {a b : Int} {c : Bool} {v : Int × Int × Bool} {H : Hp} {n n0 : Nat} (e : (a, b, c) = v) : Fin (.tup [.agg [int a, int b], bool c]) H n 0 n0 (fun d H => H = [] ∧ d = valD v) := by
 subst e
 exact Fin.scal (valD_scal (a, b, c)) ⟨rfl, rfl⟩
theorem lowB_list (s : List UInt8) : (Low.lowB ⟨s.toArray⟩).data.toList = lower s := by simp [Low.lowB, Low.str, lower]
theorem lower_specB (s : List UInt8) (hl : s.length ≤ 140737488355328) : Pure 90 [.str ⟨s.toArray⟩] (.str ⟨(lower s).toArray⟩) :=
 pure_of_calls ⟨_, Tryz.func90, by rfl, rfl⟩ rfl fun w => Low.lowerR ⟨s.toArray⟩ w hl
theorem lowerP_specB (s : List UInt8) (hl : s.length ≤ 140737488355328) : Pure 72 [.str ⟨s.toArray⟩] (.str ⟨(lower s).toArray⟩) :=
 pure_of_calls ⟨_, Tryz.func72, by rfl, rfl⟩ rfl fun w => Low.lower ⟨s.toArray⟩ w hl
def wordW (p : Int) (s : List UInt8) : Int × Int × Bool := Giv.wordV p (lower s)
theorem vword_spec (p : Int) (s : List UInt8) (hs : s.length ≤ 140737488355328) : Pure 68 [int p, .str ⟨s.toArray⟩] (valD (wordW p s)) :=
 pure_of_callsL (xs := [.int .i64 p, .string ⟨s.toArray⟩]) ⟨_, Tryz.func68, by rfl, rfl⟩ (valD_scal _) (rep_val3 _) fun w _ => by
  have h := Word.word p ⟨s.toArray⟩ w (by show s.length ≤ _; omega)
  rw [lowB_list] at h
  exact h
def colorW (s : List UInt8) : Int × Int × Bool := Giv.colorV s
theorem vcolor_spec (s : List UInt8) (hs : s.length ≤ 140737488355328) : Pure 69 [.str ⟨s.toArray⟩] (valD (colorW s)) :=
 pure_of_callsL (xs := [.string ⟨s.toArray⟩]) ⟨_, Tryz.func69, by rfl, rfl⟩ (valD_scal _) (rep_val3 _) fun w _ => Color.color ⟨s.toArray⟩ w (by show s.length ≤ _; omega)
def propW (s : List UInt8) : Int × Bool := Nam.propOf ⟨s.toArray⟩
theorem vprop_spec (s : List UInt8) : Pure 34 [.str ⟨s.toArray⟩] (.tup [int (propW s).1, bool (propW s).2]) :=
 pure_of_callsL (xs := [.string ⟨s.toArray⟩]) (y := .tuple #[.int .i64 (propW s).1, .bool (propW s).2]) ⟨_, Tryz.func34, by rfl, rfl⟩ ⟨trivial, trivial, trivial⟩ (fun c w => by
  unfold Rep
  exact ⟨_, rfl, repL_cons (rep_of _ rfl) (repL_cons (rep_of _ rfl) repL_nil)⟩) fun w _ => Nam.prop ⟨s.toArray⟩ w
def isW (p : Int) : Bool := decide (0 ≤ p) && decide (p < 8)
theorem vis_spec (p : Int) : Pure 67 [int p] (bool (isW p)) := by
 refine .mk trivial (spec_mk tab_ok Tryz.func67 (by rfl) rfl ?_)
 conv => whnf
 repeat' first | ((first | refine Case.decT (by assumption) ?_ | refine Case.decF (by assumption) ?_); conv => whnf) | (refine Case.dec (fun _ => ?_) (fun _ => ?_) <;> conv => whnf)
 all_goals (refine Fin.isB ?_; rw [Bool.eq_iff_iff]; simp only [isW, Bool.and_eq_true, Bool.or_eq_true, Bool.not_eq_true', decide_eq_true_eq, decide_eq_false_iff_not, beq_iff_eq, beq_eq_false_iff_ne, bne_iff_ne, ne_eq, Bool.false_eq_true, reduceCtorEq, iff_true, true_iff, iff_false, false_iff, not_true_eq_false, not_false_eq_true] at *; try omega)
def lenW (k : Tok) : Int × Int × Bool := if k.kind = 8 ∧ lower k.text = [112, 120] then (2, k.n, true) else if k.kind = 8 ∧ lower k.text = [101, 109] then (3, k.n, true) else if k.kind = 7 then (4, k.n, true) else (0, 0, false)
theorem vlength_spec (k : Tok) (hk : k.text.length ≤ 140737488355328) : Pure 71 [k.d] (valD (lenW k)) := by
 refine .mk (valD_scal _) (spec_mk tab_ok Tryz.func71 (by rfl) rfl ?_)
 conv => whnf
 repeat' first | ((first | refine Case.no ?_ | refine Case.decT (by assumption) ?_ | refine Case.decF (by assumption) ?_ | refine Case.decF (by omega) ?_ | refine (lowerP_specB _ hk).call ⟨rfl, rfl⟩ ?_); conv => whnf) | (refine Case.strI (fun _ => ?_) (fun _ => ?_) <;> conv => whnf) | (refine Case.dec (fun _ => ?_) (fun _ => ?_) <;> conv => whnf)
 all_goals (refine Fin.v3 ?_; unfold lenW; first | (rw [if_pos ⟨by assumption, by assumption⟩]; done) | (simp_all; done) | ((repeat' split) <;> simp_all))
def clampW (n : Int) : Int := if 1000 < (if 0 < n then n else 0) then 1000 else (if 0 < n then n else 0)
def numW (p : Int) (k : Tok) : Int × Int × Bool := if p = 5 ∧ k.n = 0 then (2, 0, true) else if p = 6 then (5, clampW k.n, true) else if p = 7 ∧ k.whole = true then (5, k.n, true) else (0, 0, false)
theorem vnumber_spec (p : Int) (k : Tok) : Pure 70 [int p, k.d] (valD (numW p k)) := by
 refine .mk (valD_scal _) (spec_mk tab_ok Tryz.func70 (by rfl) rfl ?_)
 conv => whnf
 repeat' first | ((first | refine Case.no ?_ | refine Case.decT (by assumption) ?_ | refine Case.decF (by assumption) ?_ | refine Case.decF (by omega) ?_); conv => whnf) | (refine Case.dec (fun _ => ?_) (fun _ => ?_) <;> conv => whnf) | (refine Case.mk (fun _ => ?_) (fun _ => ?_) <;> conv => whnf)
 all_goals (refine Fin.v3 ?_; unfold numW clampW; (repeat' split) <;> first | rfl | (exfalso; omega) | (exfalso; simp_all; done) | (simp_all; done))
end Go.Proofs.YtlhegfkpgchaeaaGreatDoor.Aw
