/- Package value: Parse, as a contract. -/
import Derived.Test.YtofjmhigfihhbaaDoorXvA
namespace Go.Proofs.YtofjmhigfihhbaaDoor.Aw
open Go Go.RowKit Go.Lib
set_option linter.unusedVariables false
set_option linter.unusedSimpArgs false
set_option maxRecDepth 100000
def parse1 (p : Int) (k : Tok) : Int × Int × Bool := if k.kind = 1 then wordW p k.text else if k.kind = 3 ∧ p = 0 then colorW k.text else if k.kind = 6 then numW p k else if p = 5 ∨ ((p = 1 ∨ p = 4) ∧ 0 ≤ k.n) then lenW k else (0, 0, false)
def parseW (p : Int) (t : List Tok) : Int × Int × Bool := if 0 ≤ p ∧ p < 8 then (match t with | [k] => parse1 p k | _ => (0, 0, false)) else (0, 0, false)
theorem parseW_len {p : Int} {t : List Tok} (h : ¬ t.length = 1) : parseW p t = (0, 0, false) := by
  unfold parseW
  split
  · match t, h with
    | [], _ => rfl
    | [k], h => simp at h
    | _ :: _ :: _, _ => rfl
  · rfl
theorem isW_t {p : Int} (h : isW p = true) : 0 ≤ p ∧ p < 8 := by simpa [isW] using h
theorem isW_f {p : Int} (h : isW p = false) : ¬ (0 ≤ p ∧ p < 8) := by
  intro h2
  have : isW p = true := by simpa [isW] using h2
  rw [h] at this
  cases this
theorem vparse_spec (p : Int) (t : List Tok) (hl : t.length < 9223372036854775808) (hx : ∀ k ∈ t, k.text.length ≤ 140737488355328) : Pure 10 [int p, .f (.sl (toksF t))] (valD (parseW p t)) := by
  have hlen : (toksF t).length = t.length := by simp
  refine .mk (valD_scal _) (spec_mk tab_ok Tryd.func10 (by rfl) rfl ?_)
  by_cases h1 : t.length = 1
  · obtain ⟨k, rfl⟩ : ∃ k, t = [k] := by
      match t, h1 with
      | [k], _ => exact ⟨k, rfl⟩
    have hk := hx k (by simp)
    have hget : (toksF [k])[0]? = some (tokRow k) := rfl
    conv => whnf
    repeat' first
      | (refine Case.not ?_; conv => whnf)
      | (refine Case.yes ?_; conv => whnf)
      | (refine Case.no ?_; conv => whnf)
      | (refine Case.isTrue (by assumption) ?_; conv => whnf)
      | (refine Case.isFalse (by assumption) ?_; conv => whnf)
      | (refine Case.decT (by assumption) ?_; conv => whnf)
      | (refine Case.decF (by assumption) ?_; conv => whnf)
      | (refine Case.decT (by omega) ?_; conv => whnf)
      | (refine Case.decF (by omega) ?_; conv => whnf)
      | (refine Case.beqT (by omega) ?_; conv => whnf)
      | (refine Case.beqF (by omega) ?_; conv => whnf)
      | (refine Case.strT (by assumption) ?_; conv => whnf)
      | (refine Case.strF (by assumption) ?_; conv => whnf)
      | (refine Case.strF (by simp only [*]; decide) ?_; conv => whnf)
      | (refine step_kinds 2 ?hk ?_; (case hk => decide +kernel); conv => whnf)
      | (refine step_kinds 3 ?hk ?_; (case hk => decide +kernel); conv => whnf)
      | (refine (vis_spec p).call ⟨rfl, rfl⟩ ?_; conv => whnf)
      | (refine Owes.mk toksF_row ?_; conv => whnf)
      | (refine Elem.mk 0 _ rfl hget ?_; conv => whnf)
      | (refine (vword_spec p _ hk).call ⟨rfl, rfl, rfl⟩ ?_; conv => whnf)
      | (refine (vcolor_spec _ hk).call ⟨rfl, rfl⟩ ?_; conv => whnf)
      | (refine (vnumber_spec p k).call ⟨rfl, ⟨rfl, rfl, rfl, rfl, rfl, rfl⟩, rfl⟩ ?_; conv => whnf)
      | (refine (vlength_spec k hk).call ⟨⟨rfl, rfl, rfl, rfl, rfl, rfl⟩, rfl⟩ ?_; conv => whnf)
      | (refine Num.id (by omega) (by omega) ?_; conv => whnf)
      | (refine Case.strI (fun _ => ?_) (fun _ => ?_) <;> conv => whnf)
      | (refine Both.mk ?_ ?_ <;> conv => whnf)
      | (refine Case.dec (fun _ => ?_) (fun _ => ?_) <;> conv => whnf)
      | (refine Case.beqI (fun _ => ?_) (fun _ => ?_) <;> conv => whnf)
      | (refine Case.mk (fun _ => ?_) (fun _ => ?_) <;> conv => whnf)
      | (refine Way.fst ?_; conv => whnf)
    all_goals (refine Fin.v3 ?_; unfold parseW parse1; first | rw [if_pos (isW_t (by assumption))] | rw [if_neg (isW_f (by assumption))])
    all_goals (try dsimp only)
    all_goals (repeat first | rw [if_pos (by omega)] | rw [if_neg (by omega)])
  · rw [parseW_len h1]
    conv => whnf
    repeat' first
      | (refine Case.not ?_; conv => whnf)
      | (refine Case.yes ?_; conv => whnf)
      | (refine Case.no ?_; conv => whnf)
      | (refine Case.isTrue (by assumption) ?_; conv => whnf)
      | (refine Case.isFalse (by assumption) ?_; conv => whnf)
      | (refine Case.decT (by assumption) ?_; conv => whnf)
      | (refine Case.decF (by assumption) ?_; conv => whnf)
      | (refine Case.decT (by omega) ?_; conv => whnf)
      | (refine Case.decF (by omega) ?_; conv => whnf)
      | (refine Case.beqT (by omega) ?_; conv => whnf)
      | (refine Case.beqF (by omega) ?_; conv => whnf)
      | (refine Case.strT (by assumption) ?_; conv => whnf)
      | (refine Case.strF (by assumption) ?_; conv => whnf)
      | (refine Case.strF (by simp only [*]; decide) ?_; conv => whnf)
      | (refine step_kinds 2 ?hk ?_; (case hk => decide +kernel); conv => whnf)
      | (refine step_kinds 3 ?hk ?_; (case hk => decide +kernel); conv => whnf)
      | (refine (vis_spec p).call ⟨rfl, rfl⟩ ?_; conv => whnf)
      | (refine Num.id (by omega) (by omega) ?_; conv => whnf)
      | (refine Case.strI (fun _ => ?_) (fun _ => ?_) <;> conv => whnf)
      | (refine Both.mk ?_ ?_ <;> conv => whnf)
      | (refine Case.dec (fun _ => ?_) (fun _ => ?_) <;> conv => whnf)
      | (refine Case.beqI (fun _ => ?_) (fun _ => ?_) <;> conv => whnf)
      | (refine Case.mk (fun _ => ?_) (fun _ => ?_) <;> conv => whnf)
      | (refine Way.fst ?_; conv => whnf)
    all_goals exact Fin.v3 rfl
theorem valive_spec : Pure 9 [] (bool true) := by
  have hp := vparse_spec 0 [{ kind := 3, text := [102, 48, 48] }] (by decide) (by decide)
  have e : parseW 0 [{ kind := 3, text := [102, 48, 48] }] = (6, 16711680, true) := by decide +kernel
  rw [e] at hp
  refine ⟨trivial, spec_mk tab_ok Tryd.func9 (by rfl) rfl ?_⟩
  conv => whnf
  repeat' first
    | (refine Case.not ?_; conv => whnf)
    | (refine Case.yes ?_; conv => whnf)
    | (refine Case.no ?_; conv => whnf)
    | (refine Case.isTrue (by assumption) ?_; conv => whnf)
    | (refine Case.isFalse (by assumption) ?_; conv => whnf)
    | (refine Case.decT (by assumption) ?_; conv => whnf)
    | (refine Case.decF (by assumption) ?_; conv => whnf)
    | (refine Case.decT (by omega) ?_; conv => whnf)
    | (refine Case.decF (by omega) ?_; conv => whnf)
    | (refine Case.beqT (by omega) ?_; conv => whnf)
    | (refine Case.beqF (by omega) ?_; conv => whnf)
    | (refine Case.strT (by assumption) ?_; conv => whnf)
    | (refine Case.strF (by assumption) ?_; conv => whnf)
    | (refine Case.strF (by simp only [*]; decide) ?_; conv => whnf)
    | (refine hp.call ⟨rfl, rfl, rfl⟩ ?_; conv => whnf)
    | (refine Case.isTrue (by decide) ?_; conv => whnf)
    | (refine Case.isFalse (by decide) ?_; conv => whnf)
    | (refine step_kinds 2 ?hk ?_; (case hk => decide +kernel); conv => whnf)
    | (refine step_kinds 3 ?hk ?_; (case hk => decide +kernel); conv => whnf)
    | (refine Num.id (by omega) (by omega) ?_; conv => whnf)
    | (refine Case.strI (fun _ => ?_) (fun _ => ?_) <;> conv => whnf)
    | (refine Both.mk ?_ ?_ <;> conv => whnf)
    | (refine Case.dec (fun _ => ?_) (fun _ => ?_) <;> conv => whnf)
    | (refine Case.beqI (fun _ => ?_) (fun _ => ?_) <;> conv => whnf)
    | (refine Case.mk (fun _ => ?_) (fun _ => ?_) <;> conv => whnf)
    | (refine Way.fst ?_; conv => whnf)
  exact Fin.isB rfl
end Go.Proofs.YtofjmhigfihhbaaDoor.Aw
