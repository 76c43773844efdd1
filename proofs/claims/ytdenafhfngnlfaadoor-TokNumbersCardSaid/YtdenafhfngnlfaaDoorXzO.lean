/- TokNumbers, the rest. -/
import Derived.Test.YtdenafhfngnlfaaDoorXzF
import Derived.Test.YtdenafhfngnlfaaDoorXzG
import Derived.Test.YtdenafhfngnlfaaDoorXlR
namespace Go.Proofs.YtdenafhfngnlfaaDoor.Aw
open Go Go.RowKit Go.Lib
set_option linter.unusedVariables false
set_option linter.unusedSimpArgs false
set_option maxRecDepth 100000
set_option maxHeartbeats 4000000 in
theorem numbers4_out (w x : Nat) (hw : w ≤ 2000000) (hx : x ≤ 999) (neg : Bool) (k : Int) (hk : k < 0 ∨ 7 ≤ k) : Pure 5 [int w, int x, bool neg, int k] (bool true) := by
  have d1 := digits_spec 6 w (by omega) (by omega)
  have d2 := digs_call x hx
  have l1 := dec_len' 6 w (by omega)
  have l2 := dec_len' 3 (1000 + x) (by omega)
  have l3 := digs_len x
  refine .mk trivial (spec_mk tab_ok Tryd.func5 (by rfl) rfl ?_)
  conv => whnf
  rcases Nat.eq_zero_or_pos x with h0 | h0
  · subst h0
    cases neg
    ·
      repeat' first
        | (refine Case.not ?_; conv => whnf)
        | (refine Case.yes ?_; conv => whnf)
        | (refine Case.no ?_; conv => whnf)
        | (refine Case.isTrue (by assumption) ?_; conv => whnf)
        | (refine Case.isFalse (by assumption) ?_; conv => whnf)
        | (refine Case.decT (by assumption) ?_; conv => whnf)
        | (refine Case.decF (by assumption) ?_; conv => whnf)
        | (refine Case.decT (by omega) ?_; conv => whnf)
        | (refine Case.decF (by omega) ?_; conv => whnf)
        | (refine Case.beqT (by omega) ?_; conv => whnf)
        | (refine Case.beqF (by omega) ?_; conv => whnf)
        | (refine Case.strT (by assumption) ?_; conv => whnf)
        | (refine Case.strF (by assumption) ?_; conv => whnf)
        | (refine Case.strF (by simp only [*]; decide) ?_; conv => whnf)
        | (refine alive4_spec.call rfl ?_; conv => whnf)
        | (refine d1.call ⟨rfl, rfl⟩ ?_; conv => whnf)
        | (refine Case.decT (by simp only [List.length_cons, List.length_nil]; omega) ?_; conv => whnf)
        | (refine Owes.mk (by first | (simp only [ByteArray.size_append, ByteArray.size_extract, bszB, List.size_toArray, List.length_cons, List.length_nil, List.length_append, List.length_map]; omega) | (simp only [ByteArray.size_append, bszB, List.size_toArray, List.length_cons, List.length_nil]; done) | fail "x") ?_; conv => whnf)
        | (refine step_kinds 2 ?hk ?_; (case hk => decide +kernel); conv => whnf)
        | (refine step_kinds 3 ?hk ?_; (case hk => decide +kernel); conv => whnf)
        | (refine step_auto 2 ?hk ?_; (case hk => decide +kernel); conv => whnf)
        | (refine step_auto 3 ?hk ?_; (case hk => decide +kernel); conv => whnf)
        | (refine V2.step_auto 2 ?hk ?_; (case hk => decide +kernel); conv => whnf)
        | (refine V2.step_auto 3 ?hk ?_; (case hk => decide +kernel); conv => whnf)
        | (refine Num.id (by omega) (by omega) ?_; conv => whnf)
        | (refine Case.strI (fun _ => ?_) (fun _ => ?_) <;> conv => whnf)
        | (refine Both.mk ?_ ?_ <;> conv => whnf)
        | (refine Case.dec (fun _ => ?_) (fun _ => ?_) <;> conv => whnf)
        | (refine Case.beqI (fun _ => ?_) (fun _ => ?_) <;> conv => whnf)
        | (refine Case.mk (fun _ => ?_) (fun _ => ?_) <;> conv => whnf)
        | (refine Way.fst ?_; conv => whnf)
      all_goals exact Fin.isB rfl
    ·
      repeat' first
        | (refine Case.not ?_; conv => whnf)
        | (refine Case.yes ?_; conv => whnf)
        | (refine Case.no ?_; conv => whnf)
        | (refine Case.isTrue (by assumption) ?_; conv => whnf)
        | (refine Case.isFalse (by assumption) ?_; conv => whnf)
        | (refine Case.decT (by assumption) ?_; conv => whnf)
        | (refine Case.decF (by assumption) ?_; conv => whnf)
        | (refine Case.decT (by omega) ?_; conv => whnf)
        | (refine Case.decF (by omega) ?_; conv => whnf)
        | (refine Case.beqT (by omega) ?_; conv => whnf)
        | (refine Case.beqF (by omega) ?_; conv => whnf)
        | (refine Case.strT (by assumption) ?_; conv => whnf)
        | (refine Case.strF (by assumption) ?_; conv => whnf)
        | (refine Case.strF (by simp only [*]; decide) ?_; conv => whnf)
        | (refine alive4_spec.call rfl ?_; conv => whnf)
        | (refine d1.call ⟨rfl, rfl⟩ ?_; conv => whnf)
        | (refine Case.decT (by simp only [List.length_cons, List.length_nil]; omega) ?_; conv => whnf)
        | (refine Owes.mk (by first | (simp only [ByteArray.size_append, ByteArray.size_extract, bszB, List.size_toArray, List.length_cons, List.length_nil, List.length_append, List.length_map]; omega) | (simp only [ByteArray.size_append, bszB, List.size_toArray, List.length_cons, List.length_nil]; done) | fail "x") ?_; conv => whnf)
        | (refine step_kinds 2 ?hk ?_; (case hk => decide +kernel); conv => whnf)
        | (refine step_kinds 3 ?hk ?_; (case hk => decide +kernel); conv => whnf)
        | (refine step_auto 2 ?hk ?_; (case hk => decide +kernel); conv => whnf)
        | (refine step_auto 3 ?hk ?_; (case hk => decide +kernel); conv => whnf)
        | (refine V2.step_auto 2 ?hk ?_; (case hk => decide +kernel); conv => whnf)
        | (refine V2.step_auto 3 ?hk ?_; (case hk => decide +kernel); conv => whnf)
        | (refine Num.id (by omega) (by omega) ?_; conv => whnf)
        | (refine Case.strI (fun _ => ?_) (fun _ => ?_) <;> conv => whnf)
        | (refine Both.mk ?_ ?_ <;> conv => whnf)
        | (refine Case.dec (fun _ => ?_) (fun _ => ?_) <;> conv => whnf)
        | (refine Case.beqI (fun _ => ?_) (fun _ => ?_) <;> conv => whnf)
        | (refine Case.mk (fun _ => ?_) (fun _ => ?_) <;> conv => whnf)
        | (refine Way.fst ?_; conv => whnf)
      all_goals exact Fin.isB rfl
  · cases neg
    ·
      repeat' first
        | (refine Case.not ?_; conv => whnf)
        | (refine Case.yes ?_; conv => whnf)
        | (refine Case.no ?_; conv => whnf)
        | (refine Case.isTrue (by assumption) ?_; conv => whnf)
        | (refine Case.isFalse (by assumption) ?_; conv => whnf)
        | (refine Case.decT (by assumption) ?_; conv => whnf)
        | (refine Case.decF (by assumption) ?_; conv => whnf)
        | (refine Case.decT (by omega) ?_; conv => whnf)
        | (refine Case.decF (by omega) ?_; conv => whnf)
        | (refine Case.beqT (by omega) ?_; conv => whnf)
        | (refine Case.beqF (by omega) ?_; conv => whnf)
        | (refine Case.strT (by assumption) ?_; conv => whnf)
        | (refine Case.strF (by assumption) ?_; conv => whnf)
        | (refine Case.strF (by simp only [*]; decide) ?_; conv => whnf)
        | (refine alive4_spec.call rfl ?_; conv => whnf)
        | (refine d1.call ⟨rfl, rfl⟩ ?_; conv => whnf)
        | (refine Case.decT (by simp only [List.length_cons, List.length_nil]; omega) ?_; conv => whnf)
        | (refine d2.call ⟨rfl, rfl⟩ ?_; conv => whnf)
        | (refine Owes.mk (by first | (simp only [ByteArray.size_append, ByteArray.size_extract, bszB, List.size_toArray, List.length_cons, List.length_nil, List.length_append, List.length_map]; omega) | (simp only [ByteArray.size_append, bszB, List.size_toArray, List.length_cons, List.length_nil]; done) | fail "x") ?_; conv => whnf)
        | (refine step_kinds 2 ?hk ?_; (case hk => decide +kernel); conv => whnf)
        | (refine step_kinds 3 ?hk ?_; (case hk => decide +kernel); conv => whnf)
        | (refine step_auto 2 ?hk ?_; (case hk => decide +kernel); conv => whnf)
        | (refine step_auto 3 ?hk ?_; (case hk => decide +kernel); conv => whnf)
        | (refine V2.step_auto 2 ?hk ?_; (case hk => decide +kernel); conv => whnf)
        | (refine V2.step_auto 3 ?hk ?_; (case hk => decide +kernel); conv => whnf)
        | (refine Num.id (by omega) (by omega) ?_; conv => whnf)
        | (refine Case.strI (fun _ => ?_) (fun _ => ?_) <;> conv => whnf)
        | (refine Both.mk ?_ ?_ <;> conv => whnf)
        | (refine Case.dec (fun _ => ?_) (fun _ => ?_) <;> conv => whnf)
        | (refine Case.beqI (fun _ => ?_) (fun _ => ?_) <;> conv => whnf)
        | (refine Case.mk (fun _ => ?_) (fun _ => ?_) <;> conv => whnf)
        | (refine Way.fst ?_; conv => whnf)
      all_goals exact Fin.isB rfl
    ·
      repeat' first
        | (refine Case.not ?_; conv => whnf)
        | (refine Case.yes ?_; conv => whnf)
        | (refine Case.no ?_; conv => whnf)
        | (refine Case.isTrue (by assumption) ?_; conv => whnf)
        | (refine Case.isFalse (by assumption) ?_; conv => whnf)
        | (refine Case.decT (by assumption) ?_; conv => whnf)
        | (refine Case.decF (by assumption) ?_; conv => whnf)
        | (refine Case.decT (by omega) ?_; conv => whnf)
        | (refine Case.decF (by omega) ?_; conv => whnf)
        | (refine Case.beqT (by omega) ?_; conv => whnf)
        | (refine Case.beqF (by omega) ?_; conv => whnf)
        | (refine Case.strT (by assumption) ?_; conv => whnf)
        | (refine Case.strF (by assumption) ?_; conv => whnf)
        | (refine Case.strF (by simp only [*]; decide) ?_; conv => whnf)
        | (refine alive4_spec.call rfl ?_; conv => whnf)
        | (refine d1.call ⟨rfl, rfl⟩ ?_; conv => whnf)
        | (refine Case.decT (by simp only [List.length_cons, List.length_nil]; omega) ?_; conv => whnf)
        | (refine d2.call ⟨rfl, rfl⟩ ?_; conv => whnf)
        | (refine Owes.mk (by first | (simp only [ByteArray.size_append, ByteArray.size_extract, bszB, List.size_toArray, List.length_cons, List.length_nil, List.length_append, List.length_map]; omega) | (simp only [ByteArray.size_append, bszB, List.size_toArray, List.length_cons, List.length_nil]; done) | fail "x") ?_; conv => whnf)
        | (refine step_kinds 2 ?hk ?_; (case hk => decide +kernel); conv => whnf)
        | (refine step_kinds 3 ?hk ?_; (case hk => decide +kernel); conv => whnf)
        | (refine step_auto 2 ?hk ?_; (case hk => decide +kernel); conv => whnf)
        | (refine step_auto 3 ?hk ?_; (case hk => decide +kernel); conv => whnf)
        | (refine V2.step_auto 2 ?hk ?_; (case hk => decide +kernel); conv => whnf)
        | (refine V2.step_auto 3 ?hk ?_; (case hk => decide +kernel); conv => whnf)
        | (refine Num.id (by omega) (by omega) ?_; conv => whnf)
        | (refine Case.strI (fun _ => ?_) (fun _ => ?_) <;> conv => whnf)
        | (refine Both.mk ?_ ?_ <;> conv => whnf)
        | (refine Case.dec (fun _ => ?_) (fun _ => ?_) <;> conv => whnf)
        | (refine Case.beqI (fun _ => ?_) (fun _ => ?_) <;> conv => whnf)
        | (refine Case.mk (fun _ => ?_) (fun _ => ?_) <;> conv => whnf)
        | (refine Way.fst ?_; conv => whnf)
      all_goals exact Fin.isB rfl
set_option maxHeartbeats 4000000 in
theorem numbers4_spec (w x k : Int) (neg : Bool) : Pure 5 [int w, int x, bool neg, int k] (bool true) := by
  by_cases hv : 0 ≤ w ∧ w ≤ 2000000 ∧ 0 ≤ x ∧ x ≤ 999
  · obtain ⟨h1, h2, h3, h4⟩ := hv
    obtain ⟨w, rfl⟩ : ∃ m : Nat, w = m := ⟨w.toNat, by omega⟩
    obtain ⟨x, rfl⟩ : ∃ m : Nat, x = m := ⟨x.toNat, by omega⟩
    by_cases hk : k < 0 ∨ 7 ≤ k
    · exact numbers4_out w x (by omega) (by omega) neg k hk
    · have hk : k = 0 ∨ k = 1 ∨ k = 2 ∨ k = 3 ∨ k = 4 ∨ k = 5 ∨ k = 6 := by omega
      rcases hk with rfl | rfl | rfl | rfl | rfl | rfl | rfl
      · exact numbers4_0 w x (by omega) (by omega) neg
      · exact numbers4_1 w x (by omega) (by omega) neg
      · exact numbers4_2 w x (by omega) (by omega) neg
      · exact numbers4_3 w x (by omega) (by omega) neg
      · exact numbers4_4 w x (by omega) (by omega) neg
      · exact numbers4_5 w x (by omega) (by omega) neg
      · exact numbers4_6 w x (by omega) (by omega) neg
  · refine .mk trivial (spec_mk tab_ok Tryd.func5 (by rfl) rfl ?_)
    conv => whnf
    have hv : w < 0 ∨ w > 2000000 ∨ x < 0 ∨ x > 999 := by omega
    by_cases g1 : w < 0
    ·
      repeat' first
        | (refine Case.not ?_; conv => whnf)
        | (refine Case.yes ?_; conv => whnf)
        | (refine Case.no ?_; conv => whnf)
        | (refine Case.isTrue (by assumption) ?_; conv => whnf)
        | (refine Case.isFalse (by assumption) ?_; conv => whnf)
        | (refine Case.decT (by assumption) ?_; conv => whnf)
        | (refine Case.decF (by assumption) ?_; conv => whnf)
        | (refine Case.decT (by omega) ?_; conv => whnf)
        | (refine Case.decF (by omega) ?_; conv => whnf)
        | (refine Case.beqT (by omega) ?_; conv => whnf)
        | (refine Case.beqF (by omega) ?_; conv => whnf)
        | (refine Case.strT (by assumption) ?_; conv => whnf)
        | (refine Case.strF (by assumption) ?_; conv => whnf)
        | (refine Case.strF (by simp only [*]; decide) ?_; conv => whnf)
        | (refine alive4_spec.call rfl ?_; conv => whnf)
        | (refine step_kinds 2 ?hk ?_; (case hk => decide +kernel); conv => whnf)
        | (refine step_kinds 3 ?hk ?_; (case hk => decide +kernel); conv => whnf)
        | (refine step_auto 2 ?hk ?_; (case hk => decide +kernel); conv => whnf)
        | (refine step_auto 3 ?hk ?_; (case hk => decide +kernel); conv => whnf)
        | (refine V2.step_auto 2 ?hk ?_; (case hk => decide +kernel); conv => whnf)
        | (refine V2.step_auto 3 ?hk ?_; (case hk => decide +kernel); conv => whnf)
        | (refine Num.id (by omega) (by omega) ?_; conv => whnf)
        | (refine Case.strI (fun _ => ?_) (fun _ => ?_) <;> conv => whnf)
        | (refine Both.mk ?_ ?_ <;> conv => whnf)
        | (refine Case.dec (fun _ => ?_) (fun _ => ?_) <;> conv => whnf)
        | (refine Case.beqI (fun _ => ?_) (fun _ => ?_) <;> conv => whnf)
        | (refine Case.mk (fun _ => ?_) (fun _ => ?_) <;> conv => whnf)
        | (refine Way.fst ?_; conv => whnf)
      all_goals exact Fin.isB rfl
    · by_cases g2 : w > 2000000
      ·
        repeat' first
          | (refine Case.not ?_; conv => whnf)
          | (refine Case.yes ?_; conv => whnf)
          | (refine Case.no ?_; conv => whnf)
          | (refine Case.isTrue (by assumption) ?_; conv => whnf)
          | (refine Case.isFalse (by assumption) ?_; conv => whnf)
          | (refine Case.decT (by assumption) ?_; conv => whnf)
          | (refine Case.decF (by assumption) ?_; conv => whnf)
          | (refine Case.decT (by omega) ?_; conv => whnf)
          | (refine Case.decF (by omega) ?_; conv => whnf)
          | (refine Case.beqT (by omega) ?_; conv => whnf)
          | (refine Case.beqF (by omega) ?_; conv => whnf)
          | (refine Case.strT (by assumption) ?_; conv => whnf)
          | (refine Case.strF (by assumption) ?_; conv => whnf)
          | (refine Case.strF (by simp only [*]; decide) ?_; conv => whnf)
          | (refine alive4_spec.call rfl ?_; conv => whnf)
          | (refine step_kinds 2 ?hk ?_; (case hk => decide +kernel); conv => whnf)
          | (refine step_kinds 3 ?hk ?_; (case hk => decide +kernel); conv => whnf)
          | (refine step_auto 2 ?hk ?_; (case hk => decide +kernel); conv => whnf)
          | (refine step_auto 3 ?hk ?_; (case hk => decide +kernel); conv => whnf)
          | (refine V2.step_auto 2 ?hk ?_; (case hk => decide +kernel); conv => whnf)
          | (refine V2.step_auto 3 ?hk ?_; (case hk => decide +kernel); conv => whnf)
          | (refine Num.id (by omega) (by omega) ?_; conv => whnf)
          | (refine Case.strI (fun _ => ?_) (fun _ => ?_) <;> conv => whnf)
          | (refine Both.mk ?_ ?_ <;> conv => whnf)
          | (refine Case.dec (fun _ => ?_) (fun _ => ?_) <;> conv => whnf)
          | (refine Case.beqI (fun _ => ?_) (fun _ => ?_) <;> conv => whnf)
          | (refine Case.mk (fun _ => ?_) (fun _ => ?_) <;> conv => whnf)
          | (refine Way.fst ?_; conv => whnf)
        all_goals exact Fin.isB rfl
      · by_cases g3 : x < 0
        ·
          repeat' first
            | (refine Case.not ?_; conv => whnf)
            | (refine Case.yes ?_; conv => whnf)
            | (refine Case.no ?_; conv => whnf)
            | (refine Case.isTrue (by assumption) ?_; conv => whnf)
            | (refine Case.isFalse (by assumption) ?_; conv => whnf)
            | (refine Case.decT (by assumption) ?_; conv => whnf)
            | (refine Case.decF (by assumption) ?_; conv => whnf)
            | (refine Case.decT (by omega) ?_; conv => whnf)
            | (refine Case.decF (by omega) ?_; conv => whnf)
            | (refine Case.beqT (by omega) ?_; conv => whnf)
            | (refine Case.beqF (by omega) ?_; conv => whnf)
            | (refine Case.strT (by assumption) ?_; conv => whnf)
            | (refine Case.strF (by assumption) ?_; conv => whnf)
            | (refine Case.strF (by simp only [*]; decide) ?_; conv => whnf)
            | (refine alive4_spec.call rfl ?_; conv => whnf)
            | (refine step_kinds 2 ?hk ?_; (case hk => decide +kernel); conv => whnf)
            | (refine step_kinds 3 ?hk ?_; (case hk => decide +kernel); conv => whnf)
            | (refine step_auto 2 ?hk ?_; (case hk => decide +kernel); conv => whnf)
            | (refine step_auto 3 ?hk ?_; (case hk => decide +kernel); conv => whnf)
            | (refine V2.step_auto 2 ?hk ?_; (case hk => decide +kernel); conv => whnf)
            | (refine V2.step_auto 3 ?hk ?_; (case hk => decide +kernel); conv => whnf)
            | (refine Num.id (by omega) (by omega) ?_; conv => whnf)
            | (refine Case.strI (fun _ => ?_) (fun _ => ?_) <;> conv => whnf)
            | (refine Both.mk ?_ ?_ <;> conv => whnf)
            | (refine Case.dec (fun _ => ?_) (fun _ => ?_) <;> conv => whnf)
            | (refine Case.beqI (fun _ => ?_) (fun _ => ?_) <;> conv => whnf)
            | (refine Case.mk (fun _ => ?_) (fun _ => ?_) <;> conv => whnf)
            | (refine Way.fst ?_; conv => whnf)
          all_goals exact Fin.isB rfl
        · have g4 : x > 999 := by omega
          clear hv
          repeat' first
            | (refine Case.not ?_; conv => whnf)
            | (refine Case.yes ?_; conv => whnf)
            | (refine Case.no ?_; conv => whnf)
            | (refine Case.isTrue (by assumption) ?_; conv => whnf)
            | (refine Case.isFalse (by assumption) ?_; conv => whnf)
            | (refine Case.decT (by assumption) ?_; conv => whnf)
            | (refine Case.decF (by assumption) ?_; conv => whnf)
            | (refine Case.decT (by omega) ?_; conv => whnf)
            | (refine Case.decF (by omega) ?_; conv => whnf)
            | (refine Case.beqT (by omega) ?_; conv => whnf)
            | (refine Case.beqF (by omega) ?_; conv => whnf)
            | (refine Case.strT (by assumption) ?_; conv => whnf)
            | (refine Case.strF (by assumption) ?_; conv => whnf)
            | (refine Case.strF (by simp only [*]; decide) ?_; conv => whnf)
            | (refine alive4_spec.call rfl ?_; conv => whnf)
            | (refine step_kinds 2 ?hk ?_; (case hk => decide +kernel); conv => whnf)
            | (refine step_kinds 3 ?hk ?_; (case hk => decide +kernel); conv => whnf)
            | (refine step_auto 2 ?hk ?_; (case hk => decide +kernel); conv => whnf)
            | (refine step_auto 3 ?hk ?_; (case hk => decide +kernel); conv => whnf)
            | (refine V2.step_auto 2 ?hk ?_; (case hk => decide +kernel); conv => whnf)
            | (refine V2.step_auto 3 ?hk ?_; (case hk => decide +kernel); conv => whnf)
            | (refine Num.id (by omega) (by omega) ?_; conv => whnf)
            | (refine Case.strI (fun _ => ?_) (fun _ => ?_) <;> conv => whnf)
            | (refine Both.mk ?_ ?_ <;> conv => whnf)
            | (refine Case.dec (fun _ => ?_) (fun _ => ?_) <;> conv => whnf)
            | (refine Case.beqI (fun _ => ?_) (fun _ => ?_) <;> conv => whnf)
            | (refine Case.mk (fun _ => ?_) (fun _ => ?_) <;> conv => whnf)
            | (refine Way.fst ?_; conv => whnf)
          all_goals exact Fin.isB rfl
theorem walkTokNumbers (a b : Int) (c : Bool) (d : Int) (W : World) (_ : (Lit.int .i64 a).wf = true) (_ : (Lit.int .i64 b).wf = true) (_ : (Lit.int .i64 d).wf = true) (ht : tabP W) : Calls Tryd.prog 5 #[.int .i64 a, .int .i64 b, .bool c, .int .i64 d] W fun e w' => e = .returned (.bool true) ∧ Below W.heap.size W w' :=
  calls_of_spec (numbers4_spec a b d c).2 W (globU ht) [.int .i64 a, .int .i64 b, .bool c, .int .i64 d] (repL_cons (rep_val rfl) (repL_cons (rep_val rfl) (repL_cons (rep_val rfl) (repL_cons (rep_val rfl) repL_nil))))
end Go.Proofs.YtdenafhfngnlfaaDoor.Aw
