/- The statement ValueLengths of chapter 7. -/
import Derived.Test.YtofjmhigfihhbaaDoorXvB
import Derived.Test.YtofjmhigfihhbaaDoorXlG
namespace Go.Proofs.YtofjmhigfihhbaaDoor.Aw
open Go Go.RowKit Go.Lib
set_option linter.unusedVariables false
set_option linter.unusedSimpArgs false
set_option maxRecDepth 100000
/-- What lengths are to a property. -/
def takesP (p n : Int) : Prop := p = 5 ∨ ((p = 1 ∨ p = 4) ∧ 0 ≤ n)
theorem takes_t {p n : Int} (h : takesP p n) (k : Tok) (hk : k.kind ≠ 1 ∧ k.kind ≠ 3 ∧ k.kind ≠ 6) (hn : k.n = n) : parseW p [k] = lenW k := by
  unfold takesP at h
  show (if 0 ≤ p ∧ p < 8 then parse1 p k else (0, 0, false)) = _
  unfold parse1
  rw [if_pos (by omega), if_neg hk.1, if_neg (by omega), if_neg hk.2.2, if_pos (by omega)]
theorem takes_f {p n : Int} (h : ¬ takesP p n) (k : Tok) (hk : k.kind ≠ 1 ∧ k.kind ≠ 3 ∧ k.kind ≠ 6) (hn : k.n = n) : parseW p [k] = (0, 0, false) := by
  unfold takesP at h
  show (if 0 ≤ p ∧ p < 8 then parse1 p k else (0, 0, false)) = _
  unfold parse1
  split
  · rw [if_neg hk.1, if_neg (by omega), if_neg hk.2.2, if_neg (by omega)]
  · rfl
set_option maxHeartbeats 2000000 in
theorem valueLengths_spec (p n : Int) (hn : -9223372036854775808 ≤ n ∧ n < 9223372036854775808) (u : List UInt8) : Pure 5 [int p, int n, .str ⟨u.toArray⟩] (bool true) := by
  have hlen : (⟨u.toArray⟩ : ByteArray).size = u.length := rfl
  refine .mk trivial (spec_mk tab_ok Tryd.func5 (by rfl) rfl ?_)
  conv => whnf
  repeat' first
    | (refine Case.not ?_; conv => whnf)
    | (refine Case.yes ?_; conv => whnf)
    | (refine Case.no ?_; conv => whnf)
    | (refine Case.isTrue (by assumption) ?_; conv => whnf)
    | (refine Case.isFalse (by assumption) ?_; conv => whnf)
    | (refine Case.decT (by assumption) ?_; conv => whnf)
    | (refine Case.decF (by assumption) ?_; conv => whnf)
    | (refine Case.decT (by omega) ?_; conv => whnf)
    | (refine Case.decF (by omega) ?_; conv => whnf)
    | (refine Case.beqT (by omega) ?_; conv => whnf)
    | (refine Case.beqF (by omega) ?_; conv => whnf)
    | (refine Case.strT (by assumption) ?_; conv => whnf)
    | (refine Case.strF (by assumption) ?_; conv => whnf)
    | (refine Case.strF (by simp only [*]; decide) ?_; conv => whnf)
    | (refine valive_spec.call rfl ?_; conv => whnf)
    | (refine step_kinds 2 ?hk ?_; (case hk => decide +kernel); conv => whnf)
    | (refine step_kinds 3 ?hk ?_; (case hk => decide +kernel); conv => whnf)
    | (refine Num.id (by omega) (by omega) ?_; conv => whnf)
    | (refine Case.strI (fun _ => ?_) (fun _ => ?_) <;> conv => whnf)
    | (refine Both.mk ?_ ?_ <;> conv => whnf)
    | (refine Case.dec (fun _ => ?_) (fun _ => ?_) <;> conv => whnf)
    | (refine Case.beqI (fun _ => ?_) (fun _ => ?_) <;> conv => whnf)
    | (refine Case.mk (fun _ => ?_) (fun _ => ?_) <;> conv => whnf)
    | (refine Way.fst ?_; conv => whnf)
  · exact Fin.isB rfl
  · have c1 := vparse_spec p [{ kind := 8, n := n, text := u }] (by simp) (by simp; omega)
    have c2 := vparse_spec p [{ kind := 7, n := n }] (by simp) (by simp)
    by_cases ht : takesP p n
    · have e7 : parseW p [{ kind := 7, n := n }] = (4, n, true) := takes_t ht _ (by simp) rfl
      have e8 : parseW p [{ kind := 8, n := n, text := u }] = lenW { kind := 8, n := n, text := u } := takes_t ht _ (by simp) rfl
      by_cases h1 : lower u = [112, 120]
      · have e9 : lenW { kind := 8, n := n, text := u } = (2, n, true) := by unfold lenW; rw [if_pos ⟨rfl, h1⟩]
        · rw [e8, e9] at c1
          rw [e7] at c2
          unfold takesP at ht
          repeat' first
            | (refine Case.not ?_; conv => whnf)
            | (refine Case.yes ?_; conv => whnf)
            | (refine Case.no ?_; conv => whnf)
            | (refine Case.isTrue (by assumption) ?_; conv => whnf)
            | (refine Case.isFalse (by assumption) ?_; conv => whnf)
            | (refine Case.decT (by assumption) ?_; conv => whnf)
            | (refine Case.decF (by assumption) ?_; conv => whnf)
            | (refine Case.decT (by omega) ?_; conv => whnf)
            | (refine Case.decF (by omega) ?_; conv => whnf)
            | (refine Case.beqT (by omega) ?_; conv => whnf)
            | (refine Case.beqF (by omega) ?_; conv => whnf)
            | (refine Case.strT (by assumption) ?_; conv => whnf)
            | (refine Case.strF (by assumption) ?_; conv => whnf)
            | (refine Case.strF (by simp only [*]; decide) ?_; conv => whnf)
            | (refine c1.call ⟨rfl, rfl, rfl⟩ ?_; conv => whnf)
            | (refine c2.call ⟨rfl, rfl, rfl⟩ ?_; conv => whnf)
            | (refine (lower_specB u (by omega)).call ⟨rfl, rfl⟩ ?_; conv => whnf)
            | (refine Case.isTrue (by decide) ?_; conv => whnf)
            | (refine Case.isFalse (by decide) ?_; conv => whnf)
            | (refine Case.isTrue (by first | (simp; done) | fail "x") ?_; conv => whnf)
            | (refine Case.isFalse (by first | (simp; done) | fail "x") ?_; conv => whnf)
            | (refine step_kinds 2 ?hk ?_; (case hk => decide +kernel); conv => whnf)
            | (refine step_kinds 3 ?hk ?_; (case hk => decide +kernel); conv => whnf)
            | (refine Num.id (by omega) (by omega) ?_; conv => whnf)
            | (refine Case.strI (fun _ => ?_) (fun _ => ?_) <;> conv => whnf)
            | (refine Both.mk ?_ ?_ <;> conv => whnf)
            | (refine Case.dec (fun _ => ?_) (fun _ => ?_) <;> conv => whnf)
            | (refine Case.beqI (fun _ => ?_) (fun _ => ?_) <;> conv => whnf)
            | (refine Case.mk (fun _ => ?_) (fun _ => ?_) <;> conv => whnf)
            | (refine Way.fst ?_; conv => whnf)
          all_goals first | (exfalso; omega) | exact Fin.isB rfl | (exfalso; simp_all; done) | exact Fin.isB (by simp)
      · by_cases h2 : lower u = [101, 109]
        · have e9 : lenW { kind := 8, n := n, text := u } = (3, n, true) := by unfold lenW; rw [if_neg (fun h => h1 h.2), if_pos ⟨rfl, h2⟩]
          · rw [e8, e9] at c1
            rw [e7] at c2
            unfold takesP at ht
            repeat' first
              | (refine Case.not ?_; conv => whnf)
              | (refine Case.yes ?_; conv => whnf)
              | (refine Case.no ?_; conv => whnf)
              | (refine Case.isTrue (by assumption) ?_; conv => whnf)
              | (refine Case.isFalse (by assumption) ?_; conv => whnf)
              | (refine Case.decT (by assumption) ?_; conv => whnf)
              | (refine Case.decF (by assumption) ?_; conv => whnf)
              | (refine Case.decT (by omega) ?_; conv => whnf)
              | (refine Case.decF (by omega) ?_; conv => whnf)
              | (refine Case.beqT (by omega) ?_; conv => whnf)
              | (refine Case.beqF (by omega) ?_; conv => whnf)
              | (refine Case.strT (by assumption) ?_; conv => whnf)
              | (refine Case.strF (by assumption) ?_; conv => whnf)
              | (refine Case.strF (by simp only [*]; decide) ?_; conv => whnf)
              | (refine c1.call ⟨rfl, rfl, rfl⟩ ?_; conv => whnf)
              | (refine c2.call ⟨rfl, rfl, rfl⟩ ?_; conv => whnf)
              | (refine (lower_specB u (by omega)).call ⟨rfl, rfl⟩ ?_; conv => whnf)
              | (refine Case.isTrue (by decide) ?_; conv => whnf)
              | (refine Case.isFalse (by decide) ?_; conv => whnf)
              | (refine Case.isTrue (by first | (simp; done) | fail "x") ?_; conv => whnf)
              | (refine Case.isFalse (by first | (simp; done) | fail "x") ?_; conv => whnf)
              | (refine step_kinds 2 ?hk ?_; (case hk => decide +kernel); conv => whnf)
              | (refine step_kinds 3 ?hk ?_; (case hk => decide +kernel); conv => whnf)
              | (refine Num.id (by omega) (by omega) ?_; conv => whnf)
              | (refine Case.strI (fun _ => ?_) (fun _ => ?_) <;> conv => whnf)
              | (refine Both.mk ?_ ?_ <;> conv => whnf)
              | (refine Case.dec (fun _ => ?_) (fun _ => ?_) <;> conv => whnf)
              | (refine Case.beqI (fun _ => ?_) (fun _ => ?_) <;> conv => whnf)
              | (refine Case.mk (fun _ => ?_) (fun _ => ?_) <;> conv => whnf)
              | (refine Way.fst ?_; conv => whnf)
            all_goals first | (exfalso; omega) | exact Fin.isB rfl | (exfalso; simp_all; done) | exact Fin.isB (by simp)
        · have e9 : lenW { kind := 8, n := n, text := u } = (0, 0, false) := by unfold lenW; rw [if_neg (fun h => h1 h.2), if_neg (fun h => h2 h.2), if_neg (by simp)]
          · rw [e8, e9] at c1
            rw [e7] at c2
            unfold takesP at ht
            repeat' first
              | (refine Case.not ?_; conv => whnf)
              | (refine Case.yes ?_; conv => whnf)
              | (refine Case.no ?_; conv => whnf)
              | (refine Case.isTrue (by assumption) ?_; conv => whnf)
              | (refine Case.isFalse (by assumption) ?_; conv => whnf)
              | (refine Case.decT (by assumption) ?_; conv => whnf)
              | (refine Case.decF (by assumption) ?_; conv => whnf)
              | (refine Case.decT (by omega) ?_; conv => whnf)
              | (refine Case.decF (by omega) ?_; conv => whnf)
              | (refine Case.beqT (by omega) ?_; conv => whnf)
              | (refine Case.beqF (by omega) ?_; conv => whnf)
              | (refine Case.strT (by assumption) ?_; conv => whnf)
              | (refine Case.strF (by assumption) ?_; conv => whnf)
              | (refine Case.strF (by simp only [*]; decide) ?_; conv => whnf)
              | (refine c1.call ⟨rfl, rfl, rfl⟩ ?_; conv => whnf)
              | (refine c2.call ⟨rfl, rfl, rfl⟩ ?_; conv => whnf)
              | (refine (lower_specB u (by omega)).call ⟨rfl, rfl⟩ ?_; conv => whnf)
              | (refine Case.isTrue (by decide) ?_; conv => whnf)
              | (refine Case.isFalse (by decide) ?_; conv => whnf)
              | (refine Case.isTrue (by first | (simp; done) | fail "x") ?_; conv => whnf)
              | (refine Case.isFalse (by first | (simp; done) | fail "x") ?_; conv => whnf)
              | (refine step_kinds 2 ?hk ?_; (case hk => decide +kernel); conv => whnf)
              | (refine step_kinds 3 ?hk ?_; (case hk => decide +kernel); conv => whnf)
              | (refine Num.id (by omega) (by omega) ?_; conv => whnf)
              | (refine Case.strI (fun _ => ?_) (fun _ => ?_) <;> conv => whnf)
              | (refine Both.mk ?_ ?_ <;> conv => whnf)
              | (refine Case.dec (fun _ => ?_) (fun _ => ?_) <;> conv => whnf)
              | (refine Case.beqI (fun _ => ?_) (fun _ => ?_) <;> conv => whnf)
              | (refine Case.mk (fun _ => ?_) (fun _ => ?_) <;> conv => whnf)
              | (refine Way.fst ?_; conv => whnf)
            all_goals first | (exfalso; omega) | exact Fin.isB rfl | (exfalso; simp_all; done) | exact Fin.isB (by simp)
    · have e7 : parseW p [{ kind := 7, n := n }] = (0, 0, false) := takes_f ht _ (by simp) rfl
      have e8 : parseW p [{ kind := 8, n := n, text := u }] = (0, 0, false) := takes_f ht _ (by simp) rfl
      · rw [e8] at c1
        rw [e7] at c2
        unfold takesP at ht
        repeat' first
          | (refine Case.not ?_; conv => whnf)
          | (refine Case.yes ?_; conv => whnf)
          | (refine Case.no ?_; conv => whnf)
          | (refine Case.isTrue (by assumption) ?_; conv => whnf)
          | (refine Case.isFalse (by assumption) ?_; conv => whnf)
          | (refine Case.decT (by assumption) ?_; conv => whnf)
          | (refine Case.decF (by assumption) ?_; conv => whnf)
          | (refine Case.decT (by omega) ?_; conv => whnf)
          | (refine Case.decF (by omega) ?_; conv => whnf)
          | (refine Case.beqT (by omega) ?_; conv => whnf)
          | (refine Case.beqF (by omega) ?_; conv => whnf)
          | (refine Case.strT (by assumption) ?_; conv => whnf)
          | (refine Case.strF (by assumption) ?_; conv => whnf)
          | (refine Case.strF (by simp only [*]; decide) ?_; conv => whnf)
          | (refine c1.call ⟨rfl, rfl, rfl⟩ ?_; conv => whnf)
          | (refine c2.call ⟨rfl, rfl, rfl⟩ ?_; conv => whnf)
          | (refine (lower_specB u (by omega)).call ⟨rfl, rfl⟩ ?_; conv => whnf)
          | (refine Case.isTrue (by decide) ?_; conv => whnf)
          | (refine Case.isFalse (by decide) ?_; conv => whnf)
          | (refine Case.isTrue (by first | (simp; done) | fail "x") ?_; conv => whnf)
          | (refine Case.isFalse (by first | (simp; done) | fail "x") ?_; conv => whnf)
          | (refine step_kinds 2 ?hk ?_; (case hk => decide +kernel); conv => whnf)
          | (refine step_kinds 3 ?hk ?_; (case hk => decide +kernel); conv => whnf)
          | (refine Num.id (by omega) (by omega) ?_; conv => whnf)
          | (refine Case.strI (fun _ => ?_) (fun _ => ?_) <;> conv => whnf)
          | (refine Both.mk ?_ ?_ <;> conv => whnf)
          | (refine Case.dec (fun _ => ?_) (fun _ => ?_) <;> conv => whnf)
          | (refine Case.beqI (fun _ => ?_) (fun _ => ?_) <;> conv => whnf)
          | (refine Case.mk (fun _ => ?_) (fun _ => ?_) <;> conv => whnf)
          | (refine Way.fst ?_; conv => whnf)
        all_goals first | (exfalso; omega) | exact Fin.isB rfl | (exfalso; simp_all; done) | exact Fin.isB (by simp)
theorem wfI {a : Int} (h : (Lit.int .i64 a).wf = true) : -9223372036854775808 ≤ a ∧ a < 9223372036854775808 := by
  simp only [Lit.wf, Bool.and_eq_true, decide_eq_true_eq] at h
  have m1 : IntKind.i64.min = -9223372036854775808 := by decide
  have m2 : IntKind.i64.max = 9223372036854775807 := by decide
  omega
theorem walkValueLengths (a0 a1 : Int) (a2 : ByteArray) (W : World) (w0 : (Lit.int .i64 a0).wf = true) (w1 : (Lit.int .i64 a1).wf = true) (w2 : a2.size ≤ 140737488351232) : Calls Tryd.prog 5 #[.int .i64 a0, .int .i64 a1, .string a2] W fun e w' => e = .returned (.bool true) ∧ Below W.heap.size W w' :=
  calls_of_spec (valueLengths_spec a0 a1 (wfI w1) a2.data.toList).2 W (laidOk W) [.int .i64 a0, .int .i64 a1, .string a2] (repL_cons (rep_val rfl) (repL_cons (rep_val rfl) (repL_cons (rep_val rfl) repL_nil)))
end Go.Proofs.YtofjmhigfihhbaaDoor.Aw
