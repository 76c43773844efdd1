/- The reference's str. -/
import Derived.Test.YtdfiegleaknleaaXrG
namespace Go.Proofs.Ytdfiegleaknleaa.Aw
open Go Go.RowKit Go.Lib
set_option linter.unusedVariables false
set_option linter.unusedSimpArgs false
set_option maxRecDepth 100000
def strRun (l : List Int) (e : Int) : Nat → Nat → List UInt8 → Tok × Nat
  | 0, p, bs => ({}, p)
  | f + 1, p, bs => if see l p < 0 then ({ kind := 4, text := bs }, p)
    else if see l p = e then ({ kind := 4, text := bs }, p + 1)
    else if see l p = 10 then ({ kind := 5 }, p)
    else if see l p = 92 then
      (if see l (p + 1) < 0 then strRun l e f (p + 1) bs
       else if see l (p + 1) = 10 then strRun l e f (p + 2) bs
       else strRun l e f (escapedP l p) (bs ++ putB (escapedV l p)))
    else strRun l e f (p + 1) (bs ++ putB (see l p))
theorem escape_of {l : List Int} {p : Nat} (h1 : see l p = 92) (h2 : ¬ see l (p + 1) < 0) (h3 : ¬ see l (p + 1) = 10) : escape l p = true := by
  simp only [escape, Bool.and_eq_true, decide_eq_true_eq, Bool.not_eq_true', decide_eq_false_iff_not]
  omega
theorem strRun_fuel (l : List Int) (e : Int) : ∀ (f g p : Nat) (bs : List UInt8), l.length - p < f → l.length - p < g → strRun l e f p bs = strRun l e g p bs
  | 0, _, _, _, h, _ => by omega
  | f + 1, 0, _, _, _, h => by omega
  | f + 1, g + 1, p, bs, h1, h2 => by
    unfold strRun
    split
    · rfl
    · rename_i h0
      have hlt := see_lt (l := l) (i := p) (by omega)
      split
      · rfl
      · split
        · rfl
        · split
          · split
            · exact strRun_fuel l e f g _ _ (by omega) (by omega)
            · split
              · exact strRun_fuel l e f g _ _ (by omega) (by omega)
              · rename_i h92 hn h10
                have := escapedP_le (escape_of h92 hn h10)
                exact strRun_fuel l e f g _ _ (by omega) (by omega)
          · exact strRun_fuel l e f g _ _ (by omega) (by omega)
def strT (l : List Int) (a : Nat) : Tok := (strRun l (see l a) (l.length + 1) (a + 1) []).1
def strP (l : List Int) (a : Nat) : Nat := (strRun l (see l a) (l.length + 1) (a + 1) []).2
structure StrI (l : List Int) (a : Nat) (s : Nat × List UInt8) : Prop where
  p : s.1 ≤ l.length
  b : s.2.length ≤ 4 * s.1
  run : ∀ f, l.length - s.1 < f → strRun l (see l a) f s.1 s.2 = strRun l (see l a) (l.length + 1) (a + 1) []
theorem str_spec (l : List Int) (hl : l.length < 100000000) (a : Nat) (ha : a < l.length) : Meth 38 l a (strT l a).d (strP l a) := by
  refine ⟨⟨trivial, trivial, trivial, trivial, trivial, trivial⟩, spec_mk tab_ok Try.func38 (by rfl) rfl ?_⟩
  conv => whnf
  repeat' first
    | (refine Case.not ?_; conv => whnf)
    | (refine Case.yes ?_; conv => whnf)
    | (refine Case.no ?_; conv => whnf)
    | (refine Case.isTrue (by assumption) ?_; conv => whnf)
    | (refine Case.isFalse (by assumption) ?_; conv => whnf)
    | (refine Case.decT (by assumption) ?_; conv => whnf)
    | (refine Case.decF (by assumption) ?_; conv => whnf)
    | (refine Case.decT (by omega) ?_; conv => whnf)
    | (refine Case.decF (by omega) ?_; conv => whnf)
    | (refine Case.beqT (by omega) ?_; conv => whnf)
    | (refine Case.beqF (by omega) ?_; conv => whnf)
    | (refine (see_at l (by omega) a (by omega) _ a (by omega) (by omega) (by omega)).call ⟨⟨rfl, rfl, trivial⟩, rfl, rfl⟩ ?_; conv => whnf)
    | (refine Num.id (by omega) (by omega) ?_; conv => whnf)
    | (refine Case.dec (fun _ => ?_) (fun _ => ?_) <;> conv => whnf)
    | (refine Case.beqI (fun _ => ?_) (fun _ => ?_) <;> conv => whnf)
    | (refine Case.mk (fun _ => ?_) (fun _ => ?_) <;> conv => whnf)
  refine step_loop tab_ok (fun s => padK [.ptr 0 0, .junk, .ptr 1 0, int (see l a), .own 0 5 1 (s.2.map byteRow)] 90) (fun s => [some (rdr l s.1), some tok0]) 1 (StrI l a) (fun s => l.length - s.1) (a + 1, []) ⟨by dsimp only; omega, by simp, fun f hf => strRun_fuel l _ _ _ _ _ hf (by dsimp only at hf; omega)⟩ (fun _ => rfl) ?_ ?_
  ·
    repeat' first | exact trivial | exact rfl | exact (by decide : (0 : Nat) < 1) | exact Nat.le_refl _ | exact Nat.zero_lt_succ _ | exact congrArg int (by (try dsimp only); omega) | exact congrArg bool (by (try dsimp only); simp; omega) | (show _ < List.length _; simp; done) | apply And.intro
  · rintro ⟨p, bs⟩ ⟨h1, h2, h3⟩
    simp only at h1 h2 h3
    have e0 := h3 (l.length - p + 1) (by omega)
    rw [strRun] at e0
    dsimp only
    conv => whnf
    repeat' first
      | (refine Case.not ?_; conv => whnf)
      | (refine Case.yes ?_; conv => whnf)
      | (refine Case.no ?_; conv => whnf)
      | (refine Case.isTrue (by assumption) ?_; conv => whnf)
      | (refine Case.isFalse (by assumption) ?_; conv => whnf)
      | (refine Case.decT (by assumption) ?_; conv => whnf)
      | (refine Case.decF (by assumption) ?_; conv => whnf)
      | (refine Case.decT (by omega) ?_; conv => whnf)
      | (refine Case.decF (by omega) ?_; conv => whnf)
      | (refine Case.beqT (by omega) ?_; conv => whnf)
      | (refine Case.beqF (by omega) ?_; conv => whnf)
      | (refine (see_at l (by omega) p (by omega) _ p (by omega) (by omega) (by omega)).call ⟨⟨rfl, rfl, trivial⟩, rfl, rfl⟩ ?_; conv => whnf)
      | (refine (see_at l (by omega) p (by omega) _ (p + 1) (by omega) (by omega) (by omega)).call ⟨⟨rfl, rfl, trivial⟩, rfl, rfl⟩ ?_; conv => whnf)
      | (refine (escaped_meth l (by omega) p (by omega)).call ?_; conv => whnf)
      | (refine put_call (by omega) ?_; conv => whnf)
      | (refine Owes.mk rfl ?_; conv => whnf)
      | (refine AsBytes.mk bs rfl ?_; conv => whnf)
      | (refine Num.id (by omega) (by omega) ?_; conv => whnf)
      | (refine Case.dec (fun _ => ?_) (fun _ => ?_) <;> conv => whnf)
      | (refine Case.beqI (fun _ => ?_) (fun _ => ?_) <;> conv => whnf)
      | (refine Case.mk (fun _ => ?_) (fun _ => ?_) <;> conv => whnf)
    · rw [if_pos (by assumption)] at e0
      exact Fin.rd (p) ⟨trivial, trivial, trivial, trivial, trivial, trivial⟩ rfl ⟨by unfold strT; rw [← e0]; rfl, by unfold strP; rw [← e0]⟩
    · rw [if_neg (by assumption), if_pos (by assumption)] at e0
      exact Fin.rd (p + 1) ⟨trivial, trivial, trivial, trivial, trivial, trivial⟩ rfl ⟨by unfold strT; rw [← e0]; rfl, by unfold strP; rw [← e0]⟩
    · rw [if_neg (by assumption), if_neg (by assumption), if_pos (by assumption)] at e0
      exact Fin.rd (p) ⟨trivial, trivial, trivial, trivial, trivial, trivial⟩ rfl ⟨by unfold strT; rw [← e0]; rfl, by unfold strP; rw [← e0]⟩
    · rw [if_neg (by assumption), if_neg (by assumption), if_neg (by assumption), if_pos (by assumption), if_pos (by assumption)] at e0
      have hp := see_lt (l := l) (i := p) (by omega)
      refine ⟨(p + 1, bs), ⟨by dsimp only; omega, by dsimp only; (try rw [List.length_append]); omega, fun f hf => ?_⟩, by dsimp only; omega, ?_⟩
      · dsimp only at hf ⊢
        rw [← e0]
        exact strRun_fuel l _ f _ _ _ hf (by omega)
      ·
        repeat' first | exact trivial | exact rfl | exact (by decide : (0 : Nat) < 1) | exact Nat.le_refl _ | exact Nat.zero_lt_succ _ | exact congrArg int (by (try dsimp only); omega) | exact congrArg bool (by (try dsimp only); simp; omega) | (show _ < List.length _; simp; done) | apply And.intro
    · rw [if_neg (by assumption), if_neg (by assumption), if_neg (by assumption), if_pos (by assumption), if_neg (by assumption), if_pos (by assumption)] at e0
      have hp := see_lt (l := l) (i := p) (by omega)
      have hp1 := see_lt (l := l) (i := p + 1) (by omega)
      refine ⟨(p + 2, bs), ⟨by dsimp only; omega, by dsimp only; (try rw [List.length_append]); omega, fun f hf => ?_⟩, by dsimp only; omega, ?_⟩
      · dsimp only at hf ⊢
        rw [← e0]
        exact strRun_fuel l _ f _ _ _ hf (by omega)
      ·
        repeat' first | exact trivial | exact rfl | exact (by decide : (0 : Nat) < 1) | exact Nat.le_refl _ | exact Nat.zero_lt_succ _ | exact congrArg int (by (try dsimp only); omega) | exact congrArg bool (by (try dsimp only); simp; omega) | (show _ < List.length _; simp; done) | apply And.intro
    · rw [if_neg (by assumption), if_neg (by assumption), if_neg (by assumption), if_pos (by assumption), if_neg (by assumption), if_neg (by assumption)] at e0
      have hp := see_lt (l := l) (i := p) (by omega)
      have hp1 := escapedP_le (escape_of (by assumption) (by assumption) (by assumption))
      have hb := putB_le (escapedV l p)
      refine ⟨(escapedP l p, bs ++ putB (escapedV l p)), ⟨by dsimp only; omega, by dsimp only; (try rw [List.length_append]); omega, fun f hf => ?_⟩, by dsimp only; omega, ?_⟩
      · dsimp only at hf ⊢
        rw [← e0]
        exact strRun_fuel l _ f _ _ _ hf (by omega)
      ·
        repeat' first | exact trivial | exact rfl | exact (by decide : (0 : Nat) < 1) | exact Nat.le_refl _ | exact Nat.zero_lt_succ _ | exact congrArg int (by (try dsimp only); omega) | exact congrArg bool (by (try dsimp only); simp; omega) | (show _ < List.length _; simp; done) | apply And.intro
    · rw [if_neg (by assumption), if_neg (by assumption), if_neg (by assumption), if_neg (by assumption)] at e0
      have hp := see_lt (l := l) (i := p) (by omega)
      have hb := putB_le (see l p)
      refine ⟨(p + 1, bs ++ putB (see l p)), ⟨by dsimp only; omega, by dsimp only; (try rw [List.length_append]); omega, fun f hf => ?_⟩, by dsimp only; omega, ?_⟩
      · dsimp only at hf ⊢
        rw [← e0]
        exact strRun_fuel l _ f _ _ _ hf (by omega)
      ·
        repeat' first | exact trivial | exact rfl | exact (by decide : (0 : Nat) < 1) | exact Nat.le_refl _ | exact Nat.zero_lt_succ _ | exact congrArg int (by (try dsimp only); omega) | exact congrArg bool (by (try dsimp only); simp; omega) | (show _ < List.length _; simp; done) | apply And.intro
end Go.Proofs.Ytdfiegleaknleaa.Aw
