/- The program's reader of selectors: operators, combinators, plain pseudo-classes. -/
import Derived.Test.YtdfiegleaknleaaXsA
namespace Go.Proofs.Ytdfiegleaknleaa.Aw
open Go Go.RowKit Go.Lib
set_option linter.unusedVariables false
set_option linter.unusedSimpArgs false
set_option maxRecDepth 100000
def sOp (t : List Tok) (i : Nat) : Int × Bool × Nat :=
  if isD t i 61 = true then (1, true, i + 1) else if (tk t i).kind = 10 ∧ opIx (tk t i).c ≠ 0 ∧ isD t (i + 1) 61 = true then (opIx (tk t i).c, true, i + 2) else (0, false, i)
theorem Fin.ibs {x : Int} {b : Bool} {t : List Tok} {p q : Int} {r : Int × Bool × Nat} {more : Hp} {n : Nat} (h1 : p = r.2.2) (h2 : x = r.1) (h3 : b = r.2.1) : Fin (.tup [int x, bool b]) (some [.f (.sl (toksF t)), int p, int q] :: more) n 1 0 (fun d H => d = .tup [int r.1, bool r.2.1] ∧ H = [some (srd t r.2.2 q)]) := by
  subst h1 h2 h3
  refine Fin.sk r.2.2 ?_ rfl rfl ⟨rfl, rfl⟩
  exact ⟨rfl, rfl, rfl⟩
theorem take_step {α : Type} {l : List α} {i : Nat} {c : α} {p : α → Prop} (h : ∀ x ∈ l.take i, p x) (hi : l[i]? = some c) (hc : p c) : ∀ x ∈ l.take (i + 1), p x := by
  intro x hx
  rw [List.take_add_one, hi, List.mem_append] at hx
  rcases hx with hx | hx
  · exact h x hx
  · simp at hx; subst hx; exact hc
theorem sdelim_at (t : List Tok) (i : Nat) (c : Int) : Pure 68 [(tk t i).d, int c] (bool (isD t i c)) := sdelim_spec (tk t i) c
theorem isD_iff {t : List Tok} {i : Nat} {c : Int} : isD t i c = true ↔ (tk t i).kind = 10 ∧ (tk t i).c = c := by simp [isD]
theorem opIx_ne {c : Int} (h : opIx c ≠ 0) : c ∈ opsL := by
  unfold opIx at h
  repeat' split at h
  all_goals simp_all [opsL]
theorem sop_spec (t : List Tok) (ht : t.length < 1000000000) (a : Nat) (q : Int) (ha : a < 1800000000) : SMeth 74 [] t a q (.tup [int (sOp t a).1, bool (sOp t a).2.1]) (sOp t a).2.2 := by
  refine ⟨trivial, ⟨trivial, trivial, trivial⟩, spec_mk tab_ok Try.func74 (by rfl) rfl ?_⟩
  have hsp := ssign_spec t ht a q (by omega) 61
  unfold sSign at hsp
  conv => whnf
  by_cases h61 : isD t a 61 = true
  · rw [if_pos h61] at hsp
    repeat' first
      | (refine Case.not ?_; conv => whnf)
      | (refine Case.yes ?_; conv => whnf)
      | (refine Case.no ?_; conv => whnf)
      | (refine Case.isTrue (by assumption) ?_; conv => whnf)
      | (refine Case.isFalse (by assumption) ?_; conv => whnf)
      | (refine Case.decT (by assumption) ?_; conv => whnf)
      | (refine Case.decF (by assumption) ?_; conv => whnf)
      | (refine Case.decT (by omega) ?_; conv => whnf)
      | (refine Case.decF (by omega) ?_; conv => whnf)
      | (refine Case.beqT (by omega) ?_; conv => whnf)
      | (refine Case.beqF (by omega) ?_; conv => whnf)
      | (refine Case.strT (by assumption) ?_; conv => whnf)
      | (refine Case.strF (by assumption) ?_; conv => whnf)
      | (refine Case.strF (by simp only [*]; decide) ?_; conv => whnf)
      | (refine step_kinds 2 ?hk ?_; (case hk => decide +kernel); conv => whnf)
      | (refine step_kinds 3 ?hk ?_; (case hk => decide +kernel); conv => whnf)
      | (refine hsp.call ?_; conv => whnf)
      | (refine Num.id (by omega) (by omega) ?_; conv => whnf)
      | (refine Case.strI (fun _ => ?_) (fun _ => ?_) <;> conv => whnf)
      | (refine Both.mk ?_ ?_ <;> conv => whnf)
      | (refine Case.dec (fun _ => ?_) (fun _ => ?_) <;> conv => whnf)
      | (refine Case.beqI (fun _ => ?_) (fun _ => ?_) <;> conv => whnf)
      | (refine Case.mk (fun _ => ?_) (fun _ => ?_) <;> conv => whnf)
      | (refine Way.fst ?_; conv => whnf)
    refine Fin.ibs ?_ ?_ ?_ <;> unfold sOp <;> rw [if_pos h61] <;> rfl
  · rw [if_neg h61] at hsp
    repeat' first
      | (refine Case.not ?_; conv => whnf)
      | (refine Case.yes ?_; conv => whnf)
      | (refine Case.no ?_; conv => whnf)
      | (refine Case.isTrue (by assumption) ?_; conv => whnf)
      | (refine Case.isFalse (by assumption) ?_; conv => whnf)
      | (refine Case.decT (by assumption) ?_; conv => whnf)
      | (refine Case.decF (by assumption) ?_; conv => whnf)
      | (refine Case.decT (by omega) ?_; conv => whnf)
      | (refine Case.decF (by omega) ?_; conv => whnf)
      | (refine Case.beqT (by omega) ?_; conv => whnf)
      | (refine Case.beqF (by omega) ?_; conv => whnf)
      | (refine Case.strT (by assumption) ?_; conv => whnf)
      | (refine Case.strF (by assumption) ?_; conv => whnf)
      | (refine Case.strF (by simp only [*]; decide) ?_; conv => whnf)
      | (refine step_kinds 2 ?hk ?_; (case hk => decide +kernel); conv => whnf)
      | (refine step_kinds 3 ?hk ?_; (case hk => decide +kernel); conv => whnf)
      | (refine hsp.call ?_; conv => whnf)
      | (refine Num.id (by omega) (by omega) ?_; conv => whnf)
      | (refine Case.strI (fun _ => ?_) (fun _ => ?_) <;> conv => whnf)
      | (refine Both.mk ?_ ?_ <;> conv => whnf)
      | (refine Case.dec (fun _ => ?_) (fun _ => ?_) <;> conv => whnf)
      | (refine Case.beqI (fun _ => ?_) (fun _ => ?_) <;> conv => whnf)
      | (refine Case.mk (fun _ => ?_) (fun _ => ?_) <;> conv => whnf)
      | (refine Way.fst ?_; conv => whnf)
    refine step_loop tab_ok (fun i : Nat => padK [.ptr 0 0, .junk, .junk, .junk, .junk, .junk, .junk, .junk, .own 0 3 1 (ptsF opsL), int 5, int i] 34) (fun i => [some (srd t a q)]) 1 (fun i => i ≤ 5 ∧ ∀ c ∈ opsL.take i, ¬ (isD t a c = true ∧ isD t (a + 1) 61 = true)) (fun i => 5 - i) 0 ⟨by omega, by simp⟩ (fun _ => rfl) ?_ ?_
    ·
      repeat' first | exact trivial | exact rfl | exact Nat.zero_le _ | exact Nat.zero_lt_succ _ | exact (by decide : (0 : Nat) < 1) | exact (by decide : (1 : Nat) < 4) | exact (by decide : (2 : Nat) < 4) | exact (by decide : (3 : Nat) < 4) | exact (by decide : (1 : Nat) < 2) | exact (by decide : (2 : Nat) < 3) | exact congrArg int (by (try dsimp only); omega) | exact congrArg bool (by (try dsimp only); simp; omega) | (show _ < List.length _; simp; done) | apply And.intro
    · rintro i ⟨h1, h2⟩
      have h5 : i = 0 ∨ i = 1 ∨ i = 2 ∨ i = 3 ∨ i = 4 ∨ i = 5 := by omega
      rcases h5 with rfl | rfl | rfl | rfl | rfl | rfl
      · have hc : opsL[0]? = some 126 := rfl
        conv => whnf
        repeat' first
          | (refine Case.not ?_; conv => whnf)
          | (refine Case.yes ?_; conv => whnf)
          | (refine Case.no ?_; conv => whnf)
          | (refine Case.isTrue (by assumption) ?_; conv => whnf)
          | (refine Case.isFalse (by assumption) ?_; conv => whnf)
          | (refine Case.decT (by assumption) ?_; conv => whnf)
          | (refine Case.decF (by assumption) ?_; conv => whnf)
          | (refine Case.decT (by omega) ?_; conv => whnf)
          | (refine Case.decF (by omega) ?_; conv => whnf)
          | (refine Case.beqT (by omega) ?_; conv => whnf)
          | (refine Case.beqF (by omega) ?_; conv => whnf)
          | (refine Case.strT (by assumption) ?_; conv => whnf)
          | (refine Case.strF (by assumption) ?_; conv => whnf)
          | (refine Case.strF (by simp only [*]; decide) ?_; conv => whnf)
          | (refine step_kinds 2 ?hk ?_; (case hk => decide +kernel); conv => whnf)
          | (refine step_kinds 3 ?hk ?_; (case hk => decide +kernel); conv => whnf)
          | (refine (sat_at t (by omega) a q (by omega) _ a (by omega) (by omega) (by omega)).call ⟨⟨rfl, rfl, rfl, trivial⟩, rfl, rfl⟩ ?_; conv => whnf)
          | (refine (sat_at t (by omega) a q (by omega) _ a (by omega) (by omega) (by omega)).callB ⟨⟨rfl, rfl, rfl, trivial⟩, rfl, rfl⟩ ?_; conv => whnf)
          | (refine (sat_at t (by omega) a q (by omega) _ (a + 1) (by omega) (by omega) (by omega)).call ⟨⟨rfl, rfl, rfl, trivial⟩, rfl, rfl⟩ ?_; conv => whnf)
          | (refine (sat_at t (by omega) a q (by omega) _ (a + 1) (by omega) (by omega) (by omega)).callB ⟨⟨rfl, rfl, rfl, trivial⟩, rfl, rfl⟩ ?_; conv => whnf)
          | (refine (sdelim_at t a _).call ⟨⟨rfl, rfl, rfl, rfl, rfl, rfl⟩, rfl, rfl⟩ ?_; conv => whnf)
          | (refine (sdelim_at t a _).callB ⟨⟨rfl, rfl, rfl, rfl, rfl, rfl⟩, rfl, rfl⟩ ?_; conv => whnf)
          | (refine (sdelim_at t (a + 1) _).call ⟨⟨rfl, rfl, rfl, rfl, rfl, rfl⟩, rfl, rfl⟩ ?_; conv => whnf)
          | (refine (sdelim_at t (a + 1) _).callB ⟨⟨rfl, rfl, rfl, rfl, rfl, rfl⟩, rfl, rfl⟩ ?_; conv => whnf)
          | (refine Elem.mk 0 _ rfl (ptsF_get hc) ?_; conv => whnf)
          | (refine Owes.mk (by decide) ?_; conv => whnf)
          | (refine Owes.mk rfl ?_; conv => whnf)
          | (refine Owes.mk ptsF_row ?_; conv => whnf)
          | (refine Num.id (by omega) (by omega) ?_; conv => whnf)
          | (refine Case.strI (fun _ => ?_) (fun _ => ?_) <;> conv => whnf)
          | (refine Both.mk ?_ ?_ <;> conv => whnf)
          | (refine Case.dec (fun _ => ?_) (fun _ => ?_) <;> conv => whnf)
          | (refine Case.beqI (fun _ => ?_) (fun _ => ?_) <;> conv => whnf)
          | (refine Case.mk (fun _ => ?_) (fun _ => ?_) <;> conv => whnf)
          | (refine Way.fst ?_; conv => whnf)
        · have h1 := isD_iff.1 (by assumption : isD t a 126 = true)
          have e : sOp t a = (2 + 0, true, a + 2) := by
            unfold sOp
            rw [if_neg h61, if_pos ⟨h1.1, by rw [h1.2]; decide, by assumption⟩, h1.2]
            rfl
          refine Fin.ibs ?_ ?_ ?_ <;> rw [e] <;> rfl
        · refine ⟨0 + 1, ⟨by omega, take_step h2 hc (by simp [*])⟩, by omega, ?_⟩
          repeat' first | exact trivial | exact rfl | exact Nat.zero_le _ | exact Nat.zero_lt_succ _ | exact (by decide : (0 : Nat) < 1) | exact (by decide : (1 : Nat) < 4) | exact (by decide : (2 : Nat) < 4) | exact (by decide : (3 : Nat) < 4) | exact (by decide : (1 : Nat) < 2) | exact (by decide : (2 : Nat) < 3) | exact congrArg int (by (try dsimp only); omega) | exact congrArg bool (by (try dsimp only); simp; omega) | (show _ < List.length _; simp; done) | apply And.intro
        · refine ⟨0 + 1, ⟨by omega, take_step h2 hc (by simp [*])⟩, by omega, ?_⟩
          repeat' first | exact trivial | exact rfl | exact Nat.zero_le _ | exact Nat.zero_lt_succ _ | exact (by decide : (0 : Nat) < 1) | exact (by decide : (1 : Nat) < 4) | exact (by decide : (2 : Nat) < 4) | exact (by decide : (3 : Nat) < 4) | exact (by decide : (1 : Nat) < 2) | exact (by decide : (2 : Nat) < 3) | exact congrArg int (by (try dsimp only); omega) | exact congrArg bool (by (try dsimp only); simp; omega) | (show _ < List.length _; simp; done) | apply And.intro
      · have hc : opsL[1]? = some 124 := rfl
        conv => whnf
        repeat' first
          | (refine Case.not ?_; conv => whnf)
          | (refine Case.yes ?_; conv => whnf)
          | (refine Case.no ?_; conv => whnf)
          | (refine Case.isTrue (by assumption) ?_; conv => whnf)
          | (refine Case.isFalse (by assumption) ?_; conv => whnf)
          | (refine Case.decT (by assumption) ?_; conv => whnf)
          | (refine Case.decF (by assumption) ?_; conv => whnf)
          | (refine Case.decT (by omega) ?_; conv => whnf)
          | (refine Case.decF (by omega) ?_; conv => whnf)
          | (refine Case.beqT (by omega) ?_; conv => whnf)
          | (refine Case.beqF (by omega) ?_; conv => whnf)
          | (refine Case.strT (by assumption) ?_; conv => whnf)
          | (refine Case.strF (by assumption) ?_; conv => whnf)
          | (refine Case.strF (by simp only [*]; decide) ?_; conv => whnf)
          | (refine step_kinds 2 ?hk ?_; (case hk => decide +kernel); conv => whnf)
          | (refine step_kinds 3 ?hk ?_; (case hk => decide +kernel); conv => whnf)
          | (refine (sat_at t (by omega) a q (by omega) _ a (by omega) (by omega) (by omega)).call ⟨⟨rfl, rfl, rfl, trivial⟩, rfl, rfl⟩ ?_; conv => whnf)
          | (refine (sat_at t (by omega) a q (by omega) _ a (by omega) (by omega) (by omega)).callB ⟨⟨rfl, rfl, rfl, trivial⟩, rfl, rfl⟩ ?_; conv => whnf)
          | (refine (sat_at t (by omega) a q (by omega) _ (a + 1) (by omega) (by omega) (by omega)).call ⟨⟨rfl, rfl, rfl, trivial⟩, rfl, rfl⟩ ?_; conv => whnf)
          | (refine (sat_at t (by omega) a q (by omega) _ (a + 1) (by omega) (by omega) (by omega)).callB ⟨⟨rfl, rfl, rfl, trivial⟩, rfl, rfl⟩ ?_; conv => whnf)
          | (refine (sdelim_at t a _).call ⟨⟨rfl, rfl, rfl, rfl, rfl, rfl⟩, rfl, rfl⟩ ?_; conv => whnf)
          | (refine (sdelim_at t a _).callB ⟨⟨rfl, rfl, rfl, rfl, rfl, rfl⟩, rfl, rfl⟩ ?_; conv => whnf)
          | (refine (sdelim_at t (a + 1) _).call ⟨⟨rfl, rfl, rfl, rfl, rfl, rfl⟩, rfl, rfl⟩ ?_; conv => whnf)
          | (refine (sdelim_at t (a + 1) _).callB ⟨⟨rfl, rfl, rfl, rfl, rfl, rfl⟩, rfl, rfl⟩ ?_; conv => whnf)
          | (refine Elem.mk 1 _ rfl (ptsF_get hc) ?_; conv => whnf)
          | (refine Owes.mk (by decide) ?_; conv => whnf)
          | (refine Owes.mk rfl ?_; conv => whnf)
          | (refine Owes.mk ptsF_row ?_; conv => whnf)
          | (refine Num.id (by omega) (by omega) ?_; conv => whnf)
          | (refine Case.strI (fun _ => ?_) (fun _ => ?_) <;> conv => whnf)
          | (refine Both.mk ?_ ?_ <;> conv => whnf)
          | (refine Case.dec (fun _ => ?_) (fun _ => ?_) <;> conv => whnf)
          | (refine Case.beqI (fun _ => ?_) (fun _ => ?_) <;> conv => whnf)
          | (refine Case.mk (fun _ => ?_) (fun _ => ?_) <;> conv => whnf)
          | (refine Way.fst ?_; conv => whnf)
        · have h1 := isD_iff.1 (by assumption : isD t a 124 = true)
          have e : sOp t a = (2 + 1, true, a + 2) := by
            unfold sOp
            rw [if_neg h61, if_pos ⟨h1.1, by rw [h1.2]; decide, by assumption⟩, h1.2]
            rfl
          refine Fin.ibs ?_ ?_ ?_ <;> rw [e] <;> rfl
        · refine ⟨1 + 1, ⟨by omega, take_step h2 hc (by simp [*])⟩, by omega, ?_⟩
          repeat' first | exact trivial | exact rfl | exact Nat.zero_le _ | exact Nat.zero_lt_succ _ | exact (by decide : (0 : Nat) < 1) | exact (by decide : (1 : Nat) < 4) | exact (by decide : (2 : Nat) < 4) | exact (by decide : (3 : Nat) < 4) | exact (by decide : (1 : Nat) < 2) | exact (by decide : (2 : Nat) < 3) | exact congrArg int (by (try dsimp only); omega) | exact congrArg bool (by (try dsimp only); simp; omega) | (show _ < List.length _; simp; done) | apply And.intro
        · refine ⟨1 + 1, ⟨by omega, take_step h2 hc (by simp [*])⟩, by omega, ?_⟩
          repeat' first | exact trivial | exact rfl | exact Nat.zero_le _ | exact Nat.zero_lt_succ _ | exact (by decide : (0 : Nat) < 1) | exact (by decide : (1 : Nat) < 4) | exact (by decide : (2 : Nat) < 4) | exact (by decide : (3 : Nat) < 4) | exact (by decide : (1 : Nat) < 2) | exact (by decide : (2 : Nat) < 3) | exact congrArg int (by (try dsimp only); omega) | exact congrArg bool (by (try dsimp only); simp; omega) | (show _ < List.length _; simp; done) | apply And.intro
      · have hc : opsL[2]? = some 94 := rfl
        conv => whnf
        repeat' first
          | (refine Case.not ?_; conv => whnf)
          | (refine Case.yes ?_; conv => whnf)
          | (refine Case.no ?_; conv => whnf)
          | (refine Case.isTrue (by assumption) ?_; conv => whnf)
          | (refine Case.isFalse (by assumption) ?_; conv => whnf)
          | (refine Case.decT (by assumption) ?_; conv => whnf)
          | (refine Case.decF (by assumption) ?_; conv => whnf)
          | (refine Case.decT (by omega) ?_; conv => whnf)
          | (refine Case.decF (by omega) ?_; conv => whnf)
          | (refine Case.beqT (by omega) ?_; conv => whnf)
          | (refine Case.beqF (by omega) ?_; conv => whnf)
          | (refine Case.strT (by assumption) ?_; conv => whnf)
          | (refine Case.strF (by assumption) ?_; conv => whnf)
          | (refine Case.strF (by simp only [*]; decide) ?_; conv => whnf)
          | (refine step_kinds 2 ?hk ?_; (case hk => decide +kernel); conv => whnf)
          | (refine step_kinds 3 ?hk ?_; (case hk => decide +kernel); conv => whnf)
          | (refine (sat_at t (by omega) a q (by omega) _ a (by omega) (by omega) (by omega)).call ⟨⟨rfl, rfl, rfl, trivial⟩, rfl, rfl⟩ ?_; conv => whnf)
          | (refine (sat_at t (by omega) a q (by omega) _ a (by omega) (by omega) (by omega)).callB ⟨⟨rfl, rfl, rfl, trivial⟩, rfl, rfl⟩ ?_; conv => whnf)
          | (refine (sat_at t (by omega) a q (by omega) _ (a + 1) (by omega) (by omega) (by omega)).call ⟨⟨rfl, rfl, rfl, trivial⟩, rfl, rfl⟩ ?_; conv => whnf)
          | (refine (sat_at t (by omega) a q (by omega) _ (a + 1) (by omega) (by omega) (by omega)).callB ⟨⟨rfl, rfl, rfl, trivial⟩, rfl, rfl⟩ ?_; conv => whnf)
          | (refine (sdelim_at t a _).call ⟨⟨rfl, rfl, rfl, rfl, rfl, rfl⟩, rfl, rfl⟩ ?_; conv => whnf)
          | (refine (sdelim_at t a _).callB ⟨⟨rfl, rfl, rfl, rfl, rfl, rfl⟩, rfl, rfl⟩ ?_; conv => whnf)
          | (refine (sdelim_at t (a + 1) _).call ⟨⟨rfl, rfl, rfl, rfl, rfl, rfl⟩, rfl, rfl⟩ ?_; conv => whnf)
          | (refine (sdelim_at t (a + 1) _).callB ⟨⟨rfl, rfl, rfl, rfl, rfl, rfl⟩, rfl, rfl⟩ ?_; conv => whnf)
          | (refine Elem.mk 2 _ rfl (ptsF_get hc) ?_; conv => whnf)
          | (refine Owes.mk (by decide) ?_; conv => whnf)
          | (refine Owes.mk rfl ?_; conv => whnf)
          | (refine Owes.mk ptsF_row ?_; conv => whnf)
          | (refine Num.id (by omega) (by omega) ?_; conv => whnf)
          | (refine Case.strI (fun _ => ?_) (fun _ => ?_) <;> conv => whnf)
          | (refine Both.mk ?_ ?_ <;> conv => whnf)
          | (refine Case.dec (fun _ => ?_) (fun _ => ?_) <;> conv => whnf)
          | (refine Case.beqI (fun _ => ?_) (fun _ => ?_) <;> conv => whnf)
          | (refine Case.mk (fun _ => ?_) (fun _ => ?_) <;> conv => whnf)
          | (refine Way.fst ?_; conv => whnf)
        · have h1 := isD_iff.1 (by assumption : isD t a 94 = true)
          have e : sOp t a = (2 + 2, true, a + 2) := by
            unfold sOp
            rw [if_neg h61, if_pos ⟨h1.1, by rw [h1.2]; decide, by assumption⟩, h1.2]
            rfl
          refine Fin.ibs ?_ ?_ ?_ <;> rw [e] <;> rfl
        · refine ⟨2 + 1, ⟨by omega, take_step h2 hc (by simp [*])⟩, by omega, ?_⟩
          repeat' first | exact trivial | exact rfl | exact Nat.zero_le _ | exact Nat.zero_lt_succ _ | exact (by decide : (0 : Nat) < 1) | exact (by decide : (1 : Nat) < 4) | exact (by decide : (2 : Nat) < 4) | exact (by decide : (3 : Nat) < 4) | exact (by decide : (1 : Nat) < 2) | exact (by decide : (2 : Nat) < 3) | exact congrArg int (by (try dsimp only); omega) | exact congrArg bool (by (try dsimp only); simp; omega) | (show _ < List.length _; simp; done) | apply And.intro
        · refine ⟨2 + 1, ⟨by omega, take_step h2 hc (by simp [*])⟩, by omega, ?_⟩
          repeat' first | exact trivial | exact rfl | exact Nat.zero_le _ | exact Nat.zero_lt_succ _ | exact (by decide : (0 : Nat) < 1) | exact (by decide : (1 : Nat) < 4) | exact (by decide : (2 : Nat) < 4) | exact (by decide : (3 : Nat) < 4) | exact (by decide : (1 : Nat) < 2) | exact (by decide : (2 : Nat) < 3) | exact congrArg int (by (try dsimp only); omega) | exact congrArg bool (by (try dsimp only); simp; omega) | (show _ < List.length _; simp; done) | apply And.intro
      · have hc : opsL[3]? = some 36 := rfl
        conv => whnf
        repeat' first
          | (refine Case.not ?_; conv => whnf)
          | (refine Case.yes ?_; conv => whnf)
          | (refine Case.no ?_; conv => whnf)
          | (refine Case.isTrue (by assumption) ?_; conv => whnf)
          | (refine Case.isFalse (by assumption) ?_; conv => whnf)
          | (refine Case.decT (by assumption) ?_; conv => whnf)
          | (refine Case.decF (by assumption) ?_; conv => whnf)
          | (refine Case.decT (by omega) ?_; conv => whnf)
          | (refine Case.decF (by omega) ?_; conv => whnf)
          | (refine Case.beqT (by omega) ?_; conv => whnf)
          | (refine Case.beqF (by omega) ?_; conv => whnf)
          | (refine Case.strT (by assumption) ?_; conv => whnf)
          | (refine Case.strF (by assumption) ?_; conv => whnf)
          | (refine Case.strF (by simp only [*]; decide) ?_; conv => whnf)
          | (refine step_kinds 2 ?hk ?_; (case hk => decide +kernel); conv => whnf)
          | (refine step_kinds 3 ?hk ?_; (case hk => decide +kernel); conv => whnf)
          | (refine (sat_at t (by omega) a q (by omega) _ a (by omega) (by omega) (by omega)).call ⟨⟨rfl, rfl, rfl, trivial⟩, rfl, rfl⟩ ?_; conv => whnf)
          | (refine (sat_at t (by omega) a q (by omega) _ a (by omega) (by omega) (by omega)).callB ⟨⟨rfl, rfl, rfl, trivial⟩, rfl, rfl⟩ ?_; conv => whnf)
          | (refine (sat_at t (by omega) a q (by omega) _ (a + 1) (by omega) (by omega) (by omega)).call ⟨⟨rfl, rfl, rfl, trivial⟩, rfl, rfl⟩ ?_; conv => whnf)
          | (refine (sat_at t (by omega) a q (by omega) _ (a + 1) (by omega) (by omega) (by omega)).callB ⟨⟨rfl, rfl, rfl, trivial⟩, rfl, rfl⟩ ?_; conv => whnf)
          | (refine (sdelim_at t a _).call ⟨⟨rfl, rfl, rfl, rfl, rfl, rfl⟩, rfl, rfl⟩ ?_; conv => whnf)
          | (refine (sdelim_at t a _).callB ⟨⟨rfl, rfl, rfl, rfl, rfl, rfl⟩, rfl, rfl⟩ ?_; conv => whnf)
          | (refine (sdelim_at t (a + 1) _).call ⟨⟨rfl, rfl, rfl, rfl, rfl, rfl⟩, rfl, rfl⟩ ?_; conv => whnf)
          | (refine (sdelim_at t (a + 1) _).callB ⟨⟨rfl, rfl, rfl, rfl, rfl, rfl⟩, rfl, rfl⟩ ?_; conv => whnf)
          | (refine Elem.mk 3 _ rfl (ptsF_get hc) ?_; conv => whnf)
          | (refine Owes.mk (by decide) ?_; conv => whnf)
          | (refine Owes.mk rfl ?_; conv => whnf)
          | (refine Owes.mk ptsF_row ?_; conv => whnf)
          | (refine Num.id (by omega) (by omega) ?_; conv => whnf)
          | (refine Case.strI (fun _ => ?_) (fun _ => ?_) <;> conv => whnf)
          | (refine Both.mk ?_ ?_ <;> conv => whnf)
          | (refine Case.dec (fun _ => ?_) (fun _ => ?_) <;> conv => whnf)
          | (refine Case.beqI (fun _ => ?_) (fun _ => ?_) <;> conv => whnf)
          | (refine Case.mk (fun _ => ?_) (fun _ => ?_) <;> conv => whnf)
          | (refine Way.fst ?_; conv => whnf)
        · have h1 := isD_iff.1 (by assumption : isD t a 36 = true)
          have e : sOp t a = (2 + 3, true, a + 2) := by
            unfold sOp
            rw [if_neg h61, if_pos ⟨h1.1, by rw [h1.2]; decide, by assumption⟩, h1.2]
            rfl
          refine Fin.ibs ?_ ?_ ?_ <;> rw [e] <;> rfl
        · refine ⟨3 + 1, ⟨by omega, take_step h2 hc (by simp [*])⟩, by omega, ?_⟩
          repeat' first | exact trivial | exact rfl | exact Nat.zero_le _ | exact Nat.zero_lt_succ _ | exact (by decide : (0 : Nat) < 1) | exact (by decide : (1 : Nat) < 4) | exact (by decide : (2 : Nat) < 4) | exact (by decide : (3 : Nat) < 4) | exact (by decide : (1 : Nat) < 2) | exact (by decide : (2 : Nat) < 3) | exact congrArg int (by (try dsimp only); omega) | exact congrArg bool (by (try dsimp only); simp; omega) | (show _ < List.length _; simp; done) | apply And.intro
        · refine ⟨3 + 1, ⟨by omega, take_step h2 hc (by simp [*])⟩, by omega, ?_⟩
          repeat' first | exact trivial | exact rfl | exact Nat.zero_le _ | exact Nat.zero_lt_succ _ | exact (by decide : (0 : Nat) < 1) | exact (by decide : (1 : Nat) < 4) | exact (by decide : (2 : Nat) < 4) | exact (by decide : (3 : Nat) < 4) | exact (by decide : (1 : Nat) < 2) | exact (by decide : (2 : Nat) < 3) | exact congrArg int (by (try dsimp only); omega) | exact congrArg bool (by (try dsimp only); simp; omega) | (show _ < List.length _; simp; done) | apply And.intro
      · have hc : opsL[4]? = some 42 := rfl
        conv => whnf
        repeat' first
          | (refine Case.not ?_; conv => whnf)
          | (refine Case.yes ?_; conv => whnf)
          | (refine Case.no ?_; conv => whnf)
          | (refine Case.isTrue (by assumption) ?_; conv => whnf)
          | (refine Case.isFalse (by assumption) ?_; conv => whnf)
          | (refine Case.decT (by assumption) ?_; conv => whnf)
          | (refine Case.decF (by assumption) ?_; conv => whnf)
          | (refine Case.decT (by omega) ?_; conv => whnf)
          | (refine Case.decF (by omega) ?_; conv => whnf)
          | (refine Case.beqT (by omega) ?_; conv => whnf)
          | (refine Case.beqF (by omega) ?_; conv => whnf)
          | (refine Case.strT (by assumption) ?_; conv => whnf)
          | (refine Case.strF (by assumption) ?_; conv => whnf)
          | (refine Case.strF (by simp only [*]; decide) ?_; conv => whnf)
          | (refine step_kinds 2 ?hk ?_; (case hk => decide +kernel); conv => whnf)
          | (refine step_kinds 3 ?hk ?_; (case hk => decide +kernel); conv => whnf)
          | (refine (sat_at t (by omega) a q (by omega) _ a (by omega) (by omega) (by omega)).call ⟨⟨rfl, rfl, rfl, trivial⟩, rfl, rfl⟩ ?_; conv => whnf)
          | (refine (sat_at t (by omega) a q (by omega) _ a (by omega) (by omega) (by omega)).callB ⟨⟨rfl, rfl, rfl, trivial⟩, rfl, rfl⟩ ?_; conv => whnf)
          | (refine (sat_at t (by omega) a q (by omega) _ (a + 1) (by omega) (by omega) (by omega)).call ⟨⟨rfl, rfl, rfl, trivial⟩, rfl, rfl⟩ ?_; conv => whnf)
          | (refine (sat_at t (by omega) a q (by omega) _ (a + 1) (by omega) (by omega) (by omega)).callB ⟨⟨rfl, rfl, rfl, trivial⟩, rfl, rfl⟩ ?_; conv => whnf)
          | (refine (sdelim_at t a _).call ⟨⟨rfl, rfl, rfl, rfl, rfl, rfl⟩, rfl, rfl⟩ ?_; conv => whnf)
          | (refine (sdelim_at t a _).callB ⟨⟨rfl, rfl, rfl, rfl, rfl, rfl⟩, rfl, rfl⟩ ?_; conv => whnf)
          | (refine (sdelim_at t (a + 1) _).call ⟨⟨rfl, rfl, rfl, rfl, rfl, rfl⟩, rfl, rfl⟩ ?_; conv => whnf)
          | (refine (sdelim_at t (a + 1) _).callB ⟨⟨rfl, rfl, rfl, rfl, rfl, rfl⟩, rfl, rfl⟩ ?_; conv => whnf)
          | (refine Elem.mk 4 _ rfl (ptsF_get hc) ?_; conv => whnf)
          | (refine Owes.mk (by decide) ?_; conv => whnf)
          | (refine Owes.mk rfl ?_; conv => whnf)
          | (refine Owes.mk ptsF_row ?_; conv => whnf)
          | (refine Num.id (by omega) (by omega) ?_; conv => whnf)
          | (refine Case.strI (fun _ => ?_) (fun _ => ?_) <;> conv => whnf)
          | (refine Both.mk ?_ ?_ <;> conv => whnf)
          | (refine Case.dec (fun _ => ?_) (fun _ => ?_) <;> conv => whnf)
          | (refine Case.beqI (fun _ => ?_) (fun _ => ?_) <;> conv => whnf)
          | (refine Case.mk (fun _ => ?_) (fun _ => ?_) <;> conv => whnf)
          | (refine Way.fst ?_; conv => whnf)
        · have h1 := isD_iff.1 (by assumption : isD t a 42 = true)
          have e : sOp t a = (2 + 4, true, a + 2) := by
            unfold sOp
            rw [if_neg h61, if_pos ⟨h1.1, by rw [h1.2]; decide, by assumption⟩, h1.2]
            rfl
          refine Fin.ibs ?_ ?_ ?_ <;> rw [e] <;> rfl
        · refine ⟨4 + 1, ⟨by omega, take_step h2 hc (by simp [*])⟩, by omega, ?_⟩
          repeat' first | exact trivial | exact rfl | exact Nat.zero_le _ | exact Nat.zero_lt_succ _ | exact (by decide : (0 : Nat) < 1) | exact (by decide : (1 : Nat) < 4) | exact (by decide : (2 : Nat) < 4) | exact (by decide : (3 : Nat) < 4) | exact (by decide : (1 : Nat) < 2) | exact (by decide : (2 : Nat) < 3) | exact congrArg int (by (try dsimp only); omega) | exact congrArg bool (by (try dsimp only); simp; omega) | (show _ < List.length _; simp; done) | apply And.intro
        · refine ⟨4 + 1, ⟨by omega, take_step h2 hc (by simp [*])⟩, by omega, ?_⟩
          repeat' first | exact trivial | exact rfl | exact Nat.zero_le _ | exact Nat.zero_lt_succ _ | exact (by decide : (0 : Nat) < 1) | exact (by decide : (1 : Nat) < 4) | exact (by decide : (2 : Nat) < 4) | exact (by decide : (3 : Nat) < 4) | exact (by decide : (1 : Nat) < 2) | exact (by decide : (2 : Nat) < 3) | exact congrArg int (by (try dsimp only); omega) | exact congrArg bool (by (try dsimp only); simp; omega) | (show _ < List.length _; simp; done) | apply And.intro
      · have e : sOp t a = (0, false, a) := by
          unfold sOp
          rw [if_neg h61, if_neg ?_]
          rintro ⟨g1, g2, g3⟩
          exact h2 _ (opIx_ne g2) ⟨isD_iff.2 ⟨g1, rfl⟩, g3⟩
        conv => whnf
        refine Case.decF (by decide) ?_
        conv => whnf
        repeat' first
          | (refine Case.not ?_; conv => whnf)
          | (refine Case.yes ?_; conv => whnf)
          | (refine Case.no ?_; conv => whnf)
          | (refine Case.isTrue (by assumption) ?_; conv => whnf)
          | (refine Case.isFalse (by assumption) ?_; conv => whnf)
          | (refine Case.decT (by assumption) ?_; conv => whnf)
          | (refine Case.decF (by assumption) ?_; conv => whnf)
          | (refine Case.decT (by omega) ?_; conv => whnf)
          | (refine Case.decF (by omega) ?_; conv => whnf)
          | (refine Case.beqT (by omega) ?_; conv => whnf)
          | (refine Case.beqF (by omega) ?_; conv => whnf)
          | (refine Case.strT (by assumption) ?_; conv => whnf)
          | (refine Case.strF (by assumption) ?_; conv => whnf)
          | (refine Case.strF (by simp only [*]; decide) ?_; conv => whnf)
          | (refine step_kinds 2 ?hk ?_; (case hk => decide +kernel); conv => whnf)
          | (refine step_kinds 3 ?hk ?_; (case hk => decide +kernel); conv => whnf)
          | (refine Num.id (by omega) (by omega) ?_; conv => whnf)
          | (refine Case.strI (fun _ => ?_) (fun _ => ?_) <;> conv => whnf)
          | (refine Both.mk ?_ ?_ <;> conv => whnf)
          | (refine Case.dec (fun _ => ?_) (fun _ => ?_) <;> conv => whnf)
          | (refine Case.beqI (fun _ => ?_) (fun _ => ?_) <;> conv => whnf)
          | (refine Case.mk (fun _ => ?_) (fun _ => ?_) <;> conv => whnf)
          | (refine Way.fst ?_; conv => whnf)
        refine Fin.ibs ?_ ?_ ?_ <;> rw [e] <;> rfl
def sComb (t : List Tok) (i : Nat) (q : Int) : Int × Bool × Nat :=
  if 0 < pcomb t (ws t i) then (pcomb t (ws t i), true, ws t (ws t i + 1)) else if sEnds t (ws t i) q = true then (0, true, ws t i) else (1, decide (i < ws t i), ws t i)
def combL : List Int := [62, 43, 126]
theorem scomb_spec (t : List Tok) (ht : t.length < 1000000000) (a : Nat) (q : Int) (ha : a < 1700000000) : SMeth 46 [] t a q (.tup [int (sComb t a q).1, bool (sComb t a q).2.1]) (sComb t a q).2.2 := by
  refine ⟨trivial, ⟨trivial, trivial, trivial⟩, spec_mk tab_ok Try.func46 (by rfl) rfl ?_⟩
  have k1 := ws_le t a
  conv => whnf
  repeat' first
    | (refine Case.not ?_; conv => whnf)
    | (refine Case.yes ?_; conv => whnf)
    | (refine Case.no ?_; conv => whnf)
    | (refine Case.isTrue (by assumption) ?_; conv => whnf)
    | (refine Case.isFalse (by assumption) ?_; conv => whnf)
    | (refine Case.decT (by assumption) ?_; conv => whnf)
    | (refine Case.decF (by assumption) ?_; conv => whnf)
    | (refine Case.decT (by omega) ?_; conv => whnf)
    | (refine Case.decF (by omega) ?_; conv => whnf)
    | (refine Case.beqT (by omega) ?_; conv => whnf)
    | (refine Case.beqF (by omega) ?_; conv => whnf)
    | (refine Case.strT (by assumption) ?_; conv => whnf)
    | (refine Case.strF (by assumption) ?_; conv => whnf)
    | (refine Case.strF (by simp only [*]; decide) ?_; conv => whnf)
    | (refine step_kinds 2 ?hk ?_; (case hk => decide +kernel); conv => whnf)
    | (refine step_kinds 3 ?hk ?_; (case hk => decide +kernel); conv => whnf)
    | (refine (swhite_spec t ht a q (by omega)).call ?_; conv => whnf)
    | (refine Num.id (by omega) (by omega) ?_; conv => whnf)
    | (refine Case.strI (fun _ => ?_) (fun _ => ?_) <;> conv => whnf)
    | (refine Both.mk ?_ ?_ <;> conv => whnf)
    | (refine Case.dec (fun _ => ?_) (fun _ => ?_) <;> conv => whnf)
    | (refine Case.beqI (fun _ => ?_) (fun _ => ?_) <;> conv => whnf)
    | (refine Case.mk (fun _ => ?_) (fun _ => ?_) <;> conv => whnf)
    | (refine Way.fst ?_; conv => whnf)
  refine step_loop tab_ok (fun i : Nat => padK [.ptr 0 0, .junk, .junk, .junk, bool (decide (a < ws t a)), .junk, .junk, .junk, .junk, .own 0 3 1 (ptsF combL), int 3, int i] 27) (fun i => [some (srd t (ws t a) q)]) 1 (fun i => i ≤ 3 ∧ ∀ c ∈ combL.take i, ¬ isD t (ws t a) c = true) (fun i => 3 - i) 0 ⟨by omega, by simp⟩ (fun _ => rfl) ?_ ?_
  ·
    repeat' first | exact trivial | exact rfl | exact Nat.zero_le _ | exact Nat.zero_lt_succ _ | exact (by decide : (0 : Nat) < 1) | exact (by decide : (1 : Nat) < 4) | exact (by decide : (2 : Nat) < 4) | exact (by decide : (3 : Nat) < 4) | exact (by decide : (1 : Nat) < 2) | exact (by decide : (2 : Nat) < 3) | exact congrArg int (by (try dsimp only); omega) | exact congrArg bool (by (try dsimp only); simp; omega) | (show _ < List.length _; simp; done) | apply And.intro
  · rintro i ⟨h1, h2⟩
    generalize hw : ws t a = w at *
    have k2 := ws_le t (w + 1)
    have h5 : i = 0 ∨ i = 1 ∨ i = 2 ∨ i = 3 := by omega
    rcases h5 with rfl | rfl | rfl | rfl
    · have hc : combL[0]? = some 62 := rfl
      have hsp := ssign_spec t ht w q (by omega) 62
      unfold sSign at hsp
      conv => whnf
      by_cases hs : isD t w 62 = true
      · rw [if_pos hs] at hsp
        repeat' first
          | (refine Case.not ?_; conv => whnf)
          | (refine Case.yes ?_; conv => whnf)
          | (refine Case.no ?_; conv => whnf)
          | (refine Case.isTrue (by assumption) ?_; conv => whnf)
          | (refine Case.isFalse (by assumption) ?_; conv => whnf)
          | (refine Case.decT (by assumption) ?_; conv => whnf)
          | (refine Case.decF (by assumption) ?_; conv => whnf)
          | (refine Case.decT (by omega) ?_; conv => whnf)
          | (refine Case.decF (by omega) ?_; conv => whnf)
          | (refine Case.beqT (by omega) ?_; conv => whnf)
          | (refine Case.beqF (by omega) ?_; conv => whnf)
          | (refine Case.strT (by assumption) ?_; conv => whnf)
          | (refine Case.strF (by assumption) ?_; conv => whnf)
          | (refine Case.strF (by simp only [*]; decide) ?_; conv => whnf)
          | (refine step_kinds 2 ?hk ?_; (case hk => decide +kernel); conv => whnf)
          | (refine step_kinds 3 ?hk ?_; (case hk => decide +kernel); conv => whnf)
          | (refine Elem.mk 0 _ rfl (ptsF_get hc) ?_; conv => whnf)
          | (refine Owes.mk (by decide) ?_; conv => whnf)
          | (refine Owes.mk rfl ?_; conv => whnf)
          | (refine Owes.mk ptsF_row ?_; conv => whnf)
          | (refine hsp.call ?_; conv => whnf)
          | (refine (swhite_spec t ht (w + 1) q (by omega)).call ?_; conv => whnf)
          | (refine Num.id (by omega) (by omega) ?_; conv => whnf)
          | (refine Case.strI (fun _ => ?_) (fun _ => ?_) <;> conv => whnf)
          | (refine Both.mk ?_ ?_ <;> conv => whnf)
          | (refine Case.dec (fun _ => ?_) (fun _ => ?_) <;> conv => whnf)
          | (refine Case.beqI (fun _ => ?_) (fun _ => ?_) <;> conv => whnf)
          | (refine Case.mk (fun _ => ?_) (fun _ => ?_) <;> conv => whnf)
          | (refine Way.fst ?_; conv => whnf)
        have e : pcomb t w = 2 + 0 := by
          unfold pcomb
          simp [*, h2, combL] <;> (have := isD_iff.1 hs; simp_all [isD])
        refine Fin.ibs ?_ ?_ ?_ <;> unfold sComb <;> rw [hw, if_pos (by omega)] <;> first | rfl | (dsimp only; omega)
      · rw [if_neg hs] at hsp
        repeat' first
          | (refine Case.not ?_; conv => whnf)
          | (refine Case.yes ?_; conv => whnf)
          | (refine Case.no ?_; conv => whnf)
          | (refine Case.isTrue (by assumption) ?_; conv => whnf)
          | (refine Case.isFalse (by assumption) ?_; conv => whnf)
          | (refine Case.decT (by assumption) ?_; conv => whnf)
          | (refine Case.decF (by assumption) ?_; conv => whnf)
          | (refine Case.decT (by omega) ?_; conv => whnf)
          | (refine Case.decF (by omega) ?_; conv => whnf)
          | (refine Case.beqT (by omega) ?_; conv => whnf)
          | (refine Case.beqF (by omega) ?_; conv => whnf)
          | (refine Case.strT (by assumption) ?_; conv => whnf)
          | (refine Case.strF (by assumption) ?_; conv => whnf)
          | (refine Case.strF (by simp only [*]; decide) ?_; conv => whnf)
          | (refine step_kinds 2 ?hk ?_; (case hk => decide +kernel); conv => whnf)
          | (refine step_kinds 3 ?hk ?_; (case hk => decide +kernel); conv => whnf)
          | (refine Elem.mk 0 _ rfl (ptsF_get hc) ?_; conv => whnf)
          | (refine Owes.mk (by decide) ?_; conv => whnf)
          | (refine Owes.mk rfl ?_; conv => whnf)
          | (refine Owes.mk ptsF_row ?_; conv => whnf)
          | (refine hsp.call ?_; conv => whnf)
          | (refine Num.id (by omega) (by omega) ?_; conv => whnf)
          | (refine Case.strI (fun _ => ?_) (fun _ => ?_) <;> conv => whnf)
          | (refine Both.mk ?_ ?_ <;> conv => whnf)
          | (refine Case.dec (fun _ => ?_) (fun _ => ?_) <;> conv => whnf)
          | (refine Case.beqI (fun _ => ?_) (fun _ => ?_) <;> conv => whnf)
          | (refine Case.mk (fun _ => ?_) (fun _ => ?_) <;> conv => whnf)
          | (refine Way.fst ?_; conv => whnf)
        refine ⟨0 + 1, ⟨by omega, take_step h2 hc hs⟩, by omega, ?_⟩
        repeat' first | exact trivial | exact rfl | exact Nat.zero_le _ | exact Nat.zero_lt_succ _ | exact (by decide : (0 : Nat) < 1) | exact (by decide : (1 : Nat) < 4) | exact (by decide : (2 : Nat) < 4) | exact (by decide : (3 : Nat) < 4) | exact (by decide : (1 : Nat) < 2) | exact (by decide : (2 : Nat) < 3) | exact congrArg int (by (try dsimp only); omega) | exact congrArg bool (by (try dsimp only); simp; omega) | (show _ < List.length _; simp; done) | apply And.intro
    · have hc : combL[1]? = some 43 := rfl
      have hsp := ssign_spec t ht w q (by omega) 43
      unfold sSign at hsp
      conv => whnf
      by_cases hs : isD t w 43 = true
      · rw [if_pos hs] at hsp
        repeat' first
          | (refine Case.not ?_; conv => whnf)
          | (refine Case.yes ?_; conv => whnf)
          | (refine Case.no ?_; conv => whnf)
          | (refine Case.isTrue (by assumption) ?_; conv => whnf)
          | (refine Case.isFalse (by assumption) ?_; conv => whnf)
          | (refine Case.decT (by assumption) ?_; conv => whnf)
          | (refine Case.decF (by assumption) ?_; conv => whnf)
          | (refine Case.decT (by omega) ?_; conv => whnf)
          | (refine Case.decF (by omega) ?_; conv => whnf)
          | (refine Case.beqT (by omega) ?_; conv => whnf)
          | (refine Case.beqF (by omega) ?_; conv => whnf)
          | (refine Case.strT (by assumption) ?_; conv => whnf)
          | (refine Case.strF (by assumption) ?_; conv => whnf)
          | (refine Case.strF (by simp only [*]; decide) ?_; conv => whnf)
          | (refine step_kinds 2 ?hk ?_; (case hk => decide +kernel); conv => whnf)
          | (refine step_kinds 3 ?hk ?_; (case hk => decide +kernel); conv => whnf)
          | (refine Elem.mk 1 _ rfl (ptsF_get hc) ?_; conv => whnf)
          | (refine Owes.mk (by decide) ?_; conv => whnf)
          | (refine Owes.mk rfl ?_; conv => whnf)
          | (refine Owes.mk ptsF_row ?_; conv => whnf)
          | (refine hsp.call ?_; conv => whnf)
          | (refine (swhite_spec t ht (w + 1) q (by omega)).call ?_; conv => whnf)
          | (refine Num.id (by omega) (by omega) ?_; conv => whnf)
          | (refine Case.strI (fun _ => ?_) (fun _ => ?_) <;> conv => whnf)
          | (refine Both.mk ?_ ?_ <;> conv => whnf)
          | (refine Case.dec (fun _ => ?_) (fun _ => ?_) <;> conv => whnf)
          | (refine Case.beqI (fun _ => ?_) (fun _ => ?_) <;> conv => whnf)
          | (refine Case.mk (fun _ => ?_) (fun _ => ?_) <;> conv => whnf)
          | (refine Way.fst ?_; conv => whnf)
        have e : pcomb t w = 2 + 1 := by
          unfold pcomb
          simp [*, h2, combL] <;> (have := isD_iff.1 hs; simp_all [isD])
        refine Fin.ibs ?_ ?_ ?_ <;> unfold sComb <;> rw [hw, if_pos (by omega)] <;> first | rfl | (dsimp only; omega)
      · rw [if_neg hs] at hsp
        repeat' first
          | (refine Case.not ?_; conv => whnf)
          | (refine Case.yes ?_; conv => whnf)
          | (refine Case.no ?_; conv => whnf)
          | (refine Case.isTrue (by assumption) ?_; conv => whnf)
          | (refine Case.isFalse (by assumption) ?_; conv => whnf)
          | (refine Case.decT (by assumption) ?_; conv => whnf)
          | (refine Case.decF (by assumption) ?_; conv => whnf)
          | (refine Case.decT (by omega) ?_; conv => whnf)
          | (refine Case.decF (by omega) ?_; conv => whnf)
          | (refine Case.beqT (by omega) ?_; conv => whnf)
          | (refine Case.beqF (by omega) ?_; conv => whnf)
          | (refine Case.strT (by assumption) ?_; conv => whnf)
          | (refine Case.strF (by assumption) ?_; conv => whnf)
          | (refine Case.strF (by simp only [*]; decide) ?_; conv => whnf)
          | (refine step_kinds 2 ?hk ?_; (case hk => decide +kernel); conv => whnf)
          | (refine step_kinds 3 ?hk ?_; (case hk => decide +kernel); conv => whnf)
          | (refine Elem.mk 1 _ rfl (ptsF_get hc) ?_; conv => whnf)
          | (refine Owes.mk (by decide) ?_; conv => whnf)
          | (refine Owes.mk rfl ?_; conv => whnf)
          | (refine Owes.mk ptsF_row ?_; conv => whnf)
          | (refine hsp.call ?_; conv => whnf)
          | (refine Num.id (by omega) (by omega) ?_; conv => whnf)
          | (refine Case.strI (fun _ => ?_) (fun _ => ?_) <;> conv => whnf)
          | (refine Both.mk ?_ ?_ <;> conv => whnf)
          | (refine Case.dec (fun _ => ?_) (fun _ => ?_) <;> conv => whnf)
          | (refine Case.beqI (fun _ => ?_) (fun _ => ?_) <;> conv => whnf)
          | (refine Case.mk (fun _ => ?_) (fun _ => ?_) <;> conv => whnf)
          | (refine Way.fst ?_; conv => whnf)
        refine ⟨1 + 1, ⟨by omega, take_step h2 hc hs⟩, by omega, ?_⟩
        repeat' first | exact trivial | exact rfl | exact Nat.zero_le _ | exact Nat.zero_lt_succ _ | exact (by decide : (0 : Nat) < 1) | exact (by decide : (1 : Nat) < 4) | exact (by decide : (2 : Nat) < 4) | exact (by decide : (3 : Nat) < 4) | exact (by decide : (1 : Nat) < 2) | exact (by decide : (2 : Nat) < 3) | exact congrArg int (by (try dsimp only); omega) | exact congrArg bool (by (try dsimp only); simp; omega) | (show _ < List.length _; simp; done) | apply And.intro
    · have hc : combL[2]? = some 126 := rfl
      have hsp := ssign_spec t ht w q (by omega) 126
      unfold sSign at hsp
      conv => whnf
      by_cases hs : isD t w 126 = true
      · rw [if_pos hs] at hsp
        repeat' first
          | (refine Case.not ?_; conv => whnf)
          | (refine Case.yes ?_; conv => whnf)
          | (refine Case.no ?_; conv => whnf)
          | (refine Case.isTrue (by assumption) ?_; conv => whnf)
          | (refine Case.isFalse (by assumption) ?_; conv => whnf)
          | (refine Case.decT (by assumption) ?_; conv => whnf)
          | (refine Case.decF (by assumption) ?_; conv => whnf)
          | (refine Case.decT (by omega) ?_; conv => whnf)
          | (refine Case.decF (by omega) ?_; conv => whnf)
          | (refine Case.beqT (by omega) ?_; conv => whnf)
          | (refine Case.beqF (by omega) ?_; conv => whnf)
          | (refine Case.strT (by assumption) ?_; conv => whnf)
          | (refine Case.strF (by assumption) ?_; conv => whnf)
          | (refine Case.strF (by simp only [*]; decide) ?_; conv => whnf)
          | (refine step_kinds 2 ?hk ?_; (case hk => decide +kernel); conv => whnf)
          | (refine step_kinds 3 ?hk ?_; (case hk => decide +kernel); conv => whnf)
          | (refine Elem.mk 2 _ rfl (ptsF_get hc) ?_; conv => whnf)
          | (refine Owes.mk (by decide) ?_; conv => whnf)
          | (refine Owes.mk rfl ?_; conv => whnf)
          | (refine Owes.mk ptsF_row ?_; conv => whnf)
          | (refine hsp.call ?_; conv => whnf)
          | (refine (swhite_spec t ht (w + 1) q (by omega)).call ?_; conv => whnf)
          | (refine Num.id (by omega) (by omega) ?_; conv => whnf)
          | (refine Case.strI (fun _ => ?_) (fun _ => ?_) <;> conv => whnf)
          | (refine Both.mk ?_ ?_ <;> conv => whnf)
          | (refine Case.dec (fun _ => ?_) (fun _ => ?_) <;> conv => whnf)
          | (refine Case.beqI (fun _ => ?_) (fun _ => ?_) <;> conv => whnf)
          | (refine Case.mk (fun _ => ?_) (fun _ => ?_) <;> conv => whnf)
          | (refine Way.fst ?_; conv => whnf)
        have e : pcomb t w = 2 + 2 := by
          unfold pcomb
          simp [*, h2, combL] <;> (have := isD_iff.1 hs; simp_all [isD])
        refine Fin.ibs ?_ ?_ ?_ <;> unfold sComb <;> rw [hw, if_pos (by omega)] <;> first | rfl | (dsimp only; omega)
      · rw [if_neg hs] at hsp
        repeat' first
          | (refine Case.not ?_; conv => whnf)
          | (refine Case.yes ?_; conv => whnf)
          | (refine Case.no ?_; conv => whnf)
          | (refine Case.isTrue (by assumption) ?_; conv => whnf)
          | (refine Case.isFalse (by assumption) ?_; conv => whnf)
          | (refine Case.decT (by assumption) ?_; conv => whnf)
          | (refine Case.decF (by assumption) ?_; conv => whnf)
          | (refine Case.decT (by omega) ?_; conv => whnf)
          | (refine Case.decF (by omega) ?_; conv => whnf)
          | (refine Case.beqT (by omega) ?_; conv => whnf)
          | (refine Case.beqF (by omega) ?_; conv => whnf)
          | (refine Case.strT (by assumption) ?_; conv => whnf)
          | (refine Case.strF (by assumption) ?_; conv => whnf)
          | (refine Case.strF (by simp only [*]; decide) ?_; conv => whnf)
          | (refine step_kinds 2 ?hk ?_; (case hk => decide +kernel); conv => whnf)
          | (refine step_kinds 3 ?hk ?_; (case hk => decide +kernel); conv => whnf)
          | (refine Elem.mk 2 _ rfl (ptsF_get hc) ?_; conv => whnf)
          | (refine Owes.mk (by decide) ?_; conv => whnf)
          | (refine Owes.mk rfl ?_; conv => whnf)
          | (refine Owes.mk ptsF_row ?_; conv => whnf)
          | (refine hsp.call ?_; conv => whnf)
          | (refine Num.id (by omega) (by omega) ?_; conv => whnf)
          | (refine Case.strI (fun _ => ?_) (fun _ => ?_) <;> conv => whnf)
          | (refine Both.mk ?_ ?_ <;> conv => whnf)
          | (refine Case.dec (fun _ => ?_) (fun _ => ?_) <;> conv => whnf)
          | (refine Case.beqI (fun _ => ?_) (fun _ => ?_) <;> conv => whnf)
          | (refine Case.mk (fun _ => ?_) (fun _ => ?_) <;> conv => whnf)
          | (refine Way.fst ?_; conv => whnf)
        refine ⟨2 + 1, ⟨by omega, take_step h2 hc hs⟩, by omega, ?_⟩
        repeat' first | exact trivial | exact rfl | exact Nat.zero_le _ | exact Nat.zero_lt_succ _ | exact (by decide : (0 : Nat) < 1) | exact (by decide : (1 : Nat) < 4) | exact (by decide : (2 : Nat) < 4) | exact (by decide : (3 : Nat) < 4) | exact (by decide : (1 : Nat) < 2) | exact (by decide : (2 : Nat) < 3) | exact congrArg int (by (try dsimp only); omega) | exact congrArg bool (by (try dsimp only); simp; omega) | (show _ < List.length _; simp; done) | apply And.intro
    · have e0 : pcomb t w = 0 := by
        have g1 := h2 62 (by simp [combL])
        have g2 := h2 43 (by simp [combL])
        have g3 := h2 126 (by simp [combL])
        unfold pcomb
        rw [if_neg g1, if_neg g2, if_neg g3]
      conv => whnf
      refine Case.decF (by decide) ?_
      conv => whnf
      repeat' first
        | (refine Case.not ?_; conv => whnf)
        | (refine Case.yes ?_; conv => whnf)
        | (refine Case.no ?_; conv => whnf)
        | (refine Case.isTrue (by assumption) ?_; conv => whnf)
        | (refine Case.isFalse (by assumption) ?_; conv => whnf)
        | (refine Case.decT (by assumption) ?_; conv => whnf)
        | (refine Case.decF (by assumption) ?_; conv => whnf)
        | (refine Case.decT (by omega) ?_; conv => whnf)
        | (refine Case.decF (by omega) ?_; conv => whnf)
        | (refine Case.beqT (by omega) ?_; conv => whnf)
        | (refine Case.beqF (by omega) ?_; conv => whnf)
        | (refine Case.strT (by assumption) ?_; conv => whnf)
        | (refine Case.strF (by assumption) ?_; conv => whnf)
        | (refine Case.strF (by simp only [*]; decide) ?_; conv => whnf)
        | (refine step_kinds 2 ?hk ?_; (case hk => decide +kernel); conv => whnf)
        | (refine step_kinds 3 ?hk ?_; (case hk => decide +kernel); conv => whnf)
        | (refine (sends_spec t ht w q (by omega)).call ⟨⟨rfl, rfl, rfl, trivial⟩, rfl⟩ ?_; conv => whnf)
        | (refine Num.id (by omega) (by omega) ?_; conv => whnf)
        | (refine Case.strI (fun _ => ?_) (fun _ => ?_) <;> conv => whnf)
        | (refine Both.mk ?_ ?_ <;> conv => whnf)
        | (refine Case.dec (fun _ => ?_) (fun _ => ?_) <;> conv => whnf)
        | (refine Case.beqI (fun _ => ?_) (fun _ => ?_) <;> conv => whnf)
        | (refine Case.mk (fun _ => ?_) (fun _ => ?_) <;> conv => whnf)
        | (refine Way.fst ?_; conv => whnf)
      · refine Fin.ibs ?_ ?_ ?_ <;> unfold sComb <;> rw [hw, if_neg (by omega), if_pos (by assumption)] <;> rfl
      · refine Fin.ibs ?_ ?_ ?_ <;> unfold sComb <;> rw [hw, if_neg (by omega), if_neg (by simp [*])] <;> rfl
def fiveN (s : List UInt8) : Int := if (wordV (lower s) fiveW).2 = true then 1 + (wordV (lower s) fiveW).1 else 0
theorem fiveN_eq (s : List UInt8) : fiveN s = if lower s = [114, 111, 111, 116] then 1 else if lower s = [102, 105, 114, 115, 116, 45, 99, 104, 105, 108, 100] then 2 else if lower s = [108, 97, 115, 116, 45, 99, 104, 105, 108, 100] then 3 else if lower s = [111, 110, 108, 121, 45, 99, 104, 105, 108, 100] then 4 else if lower s = [101, 109, 112, 116, 121] then 5 else 0 := by
  unfold fiveN wordV fiveW
  simp only [wordRun, eq_comm (b := lower s)]
  repeat' split
  all_goals simp_all
theorem splain_spec (s : List UInt8) (hs : s.length < 1000000000) : Pure 75 [.str ⟨s.toArray⟩] (int (fiveN s)) := by
  refine .mk trivial (spec_mk tab_ok Try.func75 (by rfl) rfl ?_)
  rw [fiveN_eq]
  conv => whnf
  repeat' first
    | (refine Case.not ?_; conv => whnf)
    | (refine Case.yes ?_; conv => whnf)
    | (refine Case.no ?_; conv => whnf)
    | (refine Case.isTrue (by assumption) ?_; conv => whnf)
    | (refine Case.isFalse (by assumption) ?_; conv => whnf)
    | (refine Case.decT (by assumption) ?_; conv => whnf)
    | (refine Case.decF (by assumption) ?_; conv => whnf)
    | (refine Case.decT (by omega) ?_; conv => whnf)
    | (refine Case.decF (by omega) ?_; conv => whnf)
    | (refine Case.beqT (by omega) ?_; conv => whnf)
    | (refine Case.beqF (by omega) ?_; conv => whnf)
    | (refine Case.strT (by assumption) ?_; conv => whnf)
    | (refine Case.strF (by assumption) ?_; conv => whnf)
    | (refine Case.strF (by simp only [*]; decide) ?_; conv => whnf)
    | (refine step_kinds 2 ?hk ?_; (case hk => decide +kernel); conv => whnf)
    | (refine step_kinds 3 ?hk ?_; (case hk => decide +kernel); conv => whnf)
    | (refine (lowerP_spec s hs).call ⟨rfl, rfl⟩ ?_; conv => whnf)
    | (refine Num.id (by omega) (by omega) ?_; conv => whnf)
    | (refine Case.strI (fun _ => ?_) (fun _ => ?_) <;> conv => whnf)
    | (refine Both.mk ?_ ?_ <;> conv => whnf)
    | (refine Case.dec (fun _ => ?_) (fun _ => ?_) <;> conv => whnf)
    | (refine Case.beqI (fun _ => ?_) (fun _ => ?_) <;> conv => whnf)
    | (refine Case.mk (fun _ => ?_) (fun _ => ?_) <;> conv => whnf)
    | (refine Way.fst ?_; conv => whnf)
  all_goals (refine Fin.isI ?_; simp [*])
end Go.Proofs.Ytdfiegleaknleaa.Aw
