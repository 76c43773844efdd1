/- The reference's reader of code points: what only looks. -/
import Derived.Test.YtdfiegleaknleaaXrA
namespace Go.Proofs.Ytdfiegleaknleaa.Aw
open Go Go.RowKit Go.Lib
set_option linter.unusedVariables false
set_option linter.unusedSimpArgs false
set_option maxRecDepth 100000
def ptsF (l : List Int) : List (List F) := l.map fun i => [.v (.int .i64 i)]
theorem ptsF_length (l : List Int) : (ptsF l).length = l.length := by simp [ptsF]
theorem ptsF_get {l : List Int} {i : Nat} {c : Int} (h : l[i]? = some c) : (ptsF l)[i]? = some [.v (.int .i64 c)] := by simp [ptsF, h]
def see (l : List Int) (i : Nat) : Int := match l[i]? with
  | none => -1
  | some c => if right c then c else 65533
abbrev rip (l : List Int) (a : Nat) : D := .ip [.sl (ptsF l), .v (.int .i64 a)]
theorem see_spec (l : List Int) (hl : l.length < 1000000000) (a k : Nat) (ha : a < 2000000000) (hk : k < 1000) : Pure 34 [rip l a, int k] (int (see l (a + k))) := by
  have hp := ptsF_length l
  refine .mk trivial (spec_mk tab_ok Try.func34 (by rfl) rfl ?_)
  conv => whnf
  refine step_kinds 2 (by decide +kernel) ?_
  conv => whnf
  repeat' first
    | (refine Case.not ?_; conv => whnf)
    | (refine Case.yes ?_; conv => whnf)
    | (refine Case.no ?_; conv => whnf)
    | (refine Case.isTrue (by assumption) ?_; conv => whnf)
    | (refine Case.isFalse (by assumption) ?_; conv => whnf)
    | (refine Case.decT (by assumption) ?_; conv => whnf)
    | (refine Case.decF (by assumption) ?_; conv => whnf)
    | (refine Case.decT (by omega) ?_; conv => whnf)
    | (refine Case.decF (by omega) ?_; conv => whnf)
    | (refine Case.beqT (by omega) ?_; conv => whnf)
    | (refine Case.beqF (by omega) ?_; conv => whnf)
    | (refine Num.id (by omega) (by omega) ?_; conv => whnf)
    | (refine Case.dec (fun _ => ?_) (fun _ => ?_) <;> conv => whnf)
    | (refine Case.beqI (fun _ => ?_) (fun _ => ?_) <;> conv => whnf)
    | (refine Case.mk (fun _ => ?_) (fun _ => ?_) <;> conv => whnf)
  · exact Fin.isI (by unfold see; rw [List.getElem?_eq_none (by omega)])
  · obtain ⟨c, hc⟩ : ∃ c, l[a + k]? = some c := ⟨_, List.getElem?_eq_getElem (by omega)⟩
    refine step_kinds 2 (by decide +kernel) ?_
    conv => whnf
    repeat' first
      | (refine Case.not ?_; conv => whnf)
      | (refine Case.yes ?_; conv => whnf)
      | (refine Case.no ?_; conv => whnf)
      | (refine Case.isTrue (by assumption) ?_; conv => whnf)
      | (refine Case.isFalse (by assumption) ?_; conv => whnf)
      | (refine Case.decT (by assumption) ?_; conv => whnf)
      | (refine Case.decF (by assumption) ?_; conv => whnf)
      | (refine Case.decT (by omega) ?_; conv => whnf)
      | (refine Case.decF (by omega) ?_; conv => whnf)
      | (refine Case.beqT (by omega) ?_; conv => whnf)
      | (refine Case.beqF (by omega) ?_; conv => whnf)
      | (refine Owes.mk (by simp [ptsF]) ?_; conv => whnf)
      | (refine Elem.mk (a + k) _ (by omega) (ptsF_get hc) ?_; conv => whnf)
      | (refine (right_spec c).call ⟨rfl, rfl⟩ ?_; conv => whnf)
      | (refine Num.id (by omega) (by omega) ?_; conv => whnf)
      | (refine Case.dec (fun _ => ?_) (fun _ => ?_) <;> conv => whnf)
      | (refine Case.beqI (fun _ => ?_) (fun _ => ?_) <;> conv => whnf)
      | (refine Case.mk (fun _ => ?_) (fun _ => ?_) <;> conv => whnf)
    all_goals (refine Fin.isI ?_; simp_all [see])
theorem see_at (l : List Int) (hl : l.length < 1000000000) (a : Nat) (ha : a < 2000000000) (k : Int) (i : Nat) (hi : (a : Int) + k = i) (h0 : 0 ≤ k) (hk : k < 1000) : Pure 34 [rip l a, int k] (int (see l i)) := by
  obtain ⟨m, rfl⟩ : ∃ m : Nat, k = m := ⟨k.toNat, by omega⟩
  have : i = a + m := by omega
  subst this
  exact see_spec l hl a m ha (by omega)
/-- Of the reader's object, to one who looks. -/
abbrev rdr (l : List Int) (a : Nat) : Cells := [.f (.sl (ptsF l)), int a]
def escape (l : List Int) (i : Nat) : Bool := decide (see l i = 92) && decide (0 ≤ see l (i + 1)) && !decide (see l (i + 1) = 10)
theorem escape_spec (l : List Int) (hl : l.length < 1000000000) (a k : Nat) (ha : a < 2000000000) (hk : k < 900) : Pure 40 [rip l a, int k] (bool (escape l (a + k))) := by
  refine .mk trivial (spec_mk tab_ok Try.func40 (by rfl) rfl ?_)
  conv => whnf
  repeat' first
    | (refine Case.not ?_; conv => whnf)
    | (refine Case.yes ?_; conv => whnf)
    | (refine Case.no ?_; conv => whnf)
    | (refine Case.isTrue (by assumption) ?_; conv => whnf)
    | (refine Case.isFalse (by assumption) ?_; conv => whnf)
    | (refine Case.decT (by assumption) ?_; conv => whnf)
    | (refine Case.decF (by assumption) ?_; conv => whnf)
    | (refine Case.decT (by omega) ?_; conv => whnf)
    | (refine Case.decF (by omega) ?_; conv => whnf)
    | (refine Case.beqT (by omega) ?_; conv => whnf)
    | (refine Case.beqF (by omega) ?_; conv => whnf)
    | (refine (see_at l hl a ha _ (a + k) (by omega) (by omega) (by omega)).call ⟨rfl, rfl, rfl⟩ ?_; conv => whnf)
    | (refine (see_at l hl a ha _ (a + k + 1) (by omega) (by omega) (by omega)).call ⟨rfl, rfl, rfl⟩ ?_; conv => whnf)
    | (refine Num.id (by omega) (by omega) ?_; conv => whnf)
    | (refine Case.dec (fun _ => ?_) (fun _ => ?_) <;> conv => whnf)
    | (refine Case.beqI (fun _ => ?_) (fun _ => ?_) <;> conv => whnf)
    | (refine Case.mk (fun _ => ?_) (fun _ => ?_) <;> conv => whnf)
  all_goals (refine Fin.isB ?_; rw [Bool.eq_iff_iff]; simp only [escape, Bool.and_eq_true, Bool.or_eq_true, Bool.not_eq_true', decide_eq_true_eq, decide_eq_false_iff_not, beq_iff_eq, beq_eq_false_iff_ne, bne_iff_ne, ne_eq, Bool.false_eq_true, reduceCtorEq, iff_true, true_iff, iff_false, false_iff, not_true_eq_false, not_false_eq_true] at *; try omega)
theorem escape_at (l : List Int) (hl : l.length < 1000000000) (a : Nat) (ha : a < 2000000000) (k : Int) (i : Nat) (hi : (a : Int) + k = i) (h0 : 0 ≤ k) (hk : k < 900) : Pure 40 [rip l a, int k] (bool (escape l i)) := by
  obtain ⟨m, rfl⟩ : ∃ m : Nat, k = m := ⟨k.toNat, by omega⟩
  have : i = a + m := by omega
  subst this
  exact escape_spec l hl a m ha (by omega)
def begins (l : List Int) (i : Nat) : Bool := if see l i = 45 then nameStart (see l (i + 1)) || decide (see l (i + 1) = 45) || escape l (i + 1) else nameStart (see l i) || escape l i
theorem begins_at (l : List Int) (hl : l.length < 1000000000) (a : Nat) (ha : a < 2000000000) (k : Int) (i : Nat) (hi : (a : Int) + k = i) (h0 : 0 ≤ k) (hk : k < 800) : Pure 36 [rip l a, int k] (bool (begins l i)) := by
  refine .mk trivial (spec_mk tab_ok Try.func36 (by rfl) rfl ?_)
  conv => whnf
  repeat' first
    | (refine Case.not ?_; conv => whnf)
    | (refine Case.yes ?_; conv => whnf)
    | (refine Case.no ?_; conv => whnf)
    | (refine Case.isTrue (by assumption) ?_; conv => whnf)
    | (refine Case.isFalse (by assumption) ?_; conv => whnf)
    | (refine Case.decT (by assumption) ?_; conv => whnf)
    | (refine Case.decF (by assumption) ?_; conv => whnf)
    | (refine Case.decT (by omega) ?_; conv => whnf)
    | (refine Case.decF (by omega) ?_; conv => whnf)
    | (refine Case.beqT (by omega) ?_; conv => whnf)
    | (refine Case.beqF (by omega) ?_; conv => whnf)
    | (refine (see_at l hl a ha _ i (by omega) (by omega) (by omega)).call ⟨rfl, rfl, rfl⟩ ?_; conv => whnf)
    | (refine (see_at l hl a ha _ (i + 1) (by omega) (by omega) (by omega)).call ⟨rfl, rfl, rfl⟩ ?_; conv => whnf)
    | (refine (escape_at l hl a ha _ i (by omega) (by omega) (by omega)).call ⟨rfl, rfl, rfl⟩ ?_; conv => whnf)
    | (refine (escape_at l hl a ha _ (i + 1) (by omega) (by omega) (by omega)).call ⟨rfl, rfl, rfl⟩ ?_; conv => whnf)
    | (refine (nameStart_spec _).call ⟨rfl, rfl⟩ ?_; conv => whnf)
    | (refine Num.id (by omega) (by omega) ?_; conv => whnf)
    | (refine Case.dec (fun _ => ?_) (fun _ => ?_) <;> conv => whnf)
    | (refine Case.beqI (fun _ => ?_) (fun _ => ?_) <;> conv => whnf)
    | (refine Case.mk (fun _ => ?_) (fun _ => ?_) <;> conv => whnf)
  all_goals (refine Fin.isB ?_; simp_all [begins])
def number (l : List Int) (i : Nat) : Bool := if see l i = 43 ∨ see l i = 45 then digit (see l (i + 1)) || (decide (see l (i + 1) = 46) && digit (see l (i + 2))) else digit (see l i) || (decide (see l i = 46) && digit (see l (i + 1)))
theorem number_spec (l : List Int) (hl : l.length < 1000000000) (a : Nat) (ha : a < 2000000000) : Pure 35 [rip l a] (bool (number l a)) := by
  refine .mk trivial (spec_mk tab_ok Try.func35 (by rfl) rfl ?_)
  conv => whnf
  repeat' first
    | (refine Case.not ?_; conv => whnf)
    | (refine Case.yes ?_; conv => whnf)
    | (refine Case.no ?_; conv => whnf)
    | (refine Case.isTrue (by assumption) ?_; conv => whnf)
    | (refine Case.isFalse (by assumption) ?_; conv => whnf)
    | (refine Case.decT (by assumption) ?_; conv => whnf)
    | (refine Case.decF (by assumption) ?_; conv => whnf)
    | (refine Case.decT (by omega) ?_; conv => whnf)
    | (refine Case.decF (by omega) ?_; conv => whnf)
    | (refine Case.beqT (by omega) ?_; conv => whnf)
    | (refine Case.beqF (by omega) ?_; conv => whnf)
    | (refine (see_at l hl a ha _ a (by omega) (by omega) (by omega)).call ⟨rfl, rfl, rfl⟩ ?_; conv => whnf)
    | (refine (see_at l hl a ha _ (a + 1) (by omega) (by omega) (by omega)).call ⟨rfl, rfl, rfl⟩ ?_; conv => whnf)
    | (refine (see_at l hl a ha _ (a + 2) (by omega) (by omega) (by omega)).call ⟨rfl, rfl, rfl⟩ ?_; conv => whnf)
    | (refine (digit_spec _).call ⟨rfl, rfl⟩ ?_; conv => whnf)
    | (refine Num.id (by omega) (by omega) ?_; conv => whnf)
    | (refine Case.dec (fun _ => ?_) (fun _ => ?_) <;> conv => whnf)
    | (refine Case.beqI (fun _ => ?_) (fun _ => ?_) <;> conv => whnf)
    | (refine Case.mk (fun _ => ?_) (fun _ => ?_) <;> conv => whnf)
  all_goals (refine Fin.isB ?_; simp_all [number])
end Go.Proofs.Ytdfiegleaknleaa.Aw
