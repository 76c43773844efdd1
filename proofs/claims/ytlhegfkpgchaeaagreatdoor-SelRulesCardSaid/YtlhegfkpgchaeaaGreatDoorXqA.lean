/- What a token opens, and the place behind a thing: the program's and the reference's. -/
import Derived.Test.YtlhegfkpgchaeaaGreatDoorXrQ
import Derived.Test.YtlhegfkpgchaeaaGreatDoorAwVD
namespace Go.Proofs.YtlhegfkpgchaeaaGreatDoor.Aw
open Go Go.RowKit Go.Lib
set_option linter.unusedVariables false
set_option linter.unusedSimpArgs false
set_option maxRecDepth 100000
def closeK (k : Int) : Int := if k = 14 then 15 else if k = 16 ∨ k = 20 then 17 else if k = 18 then 19 else 0
theorem yclosing_spec (k : Int) : Pure 60 [int k] (int (closeK k)) := by
 refine .mk trivial (spec_mk tab_ok Tryz.func60 (by rfl) rfl ?_)
 unfold closeK
 by_cases h1 : k = 14
 ·subst h1
  conv => whnf
  repeat' (refine Case.yes ?_; conv => whnf)
  exact Fin.isI rfl
 by_cases h2 : k = 16
 ·subst h2
  conv => whnf
  repeat' ((first | refine Case.yes ?_ | refine Case.no ?_); conv => whnf)
  exact Fin.isI rfl
 by_cases h3 : k = 20
 ·subst h3
  conv => whnf
  repeat' ((first | refine Case.yes ?_ | refine Case.no ?_); conv => whnf)
  exact Fin.isI rfl
 by_cases h4 : k = 18
 ·subst h4
  conv => whnf
  repeat' ((first | refine Case.yes ?_ | refine Case.no ?_); conv => whnf)
  exact Fin.isI rfl
 rw [if_neg h1, if_neg (by omega), if_neg h4]
 conv => whnf
 repeat' (refine Case.decF (by with_reducible assumption) ?_; conv => whnf)
 all_goals exact Fin.isI rfl
theorem rclosing_spec (k : Int) : Pure 76 [int k] (int (closeK k)) := by
 refine .mk trivial (spec_mk tab_ok Tryz.func76 (by rfl) rfl ?_)
 unfold closeK
 by_cases h1 : k = 14
 ·subst h1
  conv => whnf
  repeat' (refine Case.yes ?_; conv => whnf)
  exact Fin.isI rfl
 by_cases h2 : k = 16
 ·subst h2
  conv => whnf
  repeat' ((first | refine Case.yes ?_ | refine Case.no ?_); conv => whnf)
  exact Fin.isI rfl
 by_cases h3 : k = 20
 ·subst h3
  conv => whnf
  repeat' ((first | refine Case.yes ?_ | refine Case.no ?_); conv => whnf)
  exact Fin.isI rfl
 by_cases h4 : k = 18
 ·subst h4
  conv => whnf
  repeat' ((first | refine Case.yes ?_ | refine Case.no ?_); conv => whnf)
  exact Fin.isI rfl
 rw [if_neg h1, if_neg (by omega), if_neg h4]
 conv => whnf
 repeat' (refine Case.decF (by with_reducible assumption) ?_; conv => whnf)
 all_goals exact Fin.isI rfl
def stepO (o : List Int) (k : Int) : List Int := if closeK k ≠ 0 then o ++ [closeK k] else if o.getLast? = some k then o.dropLast else o
def skipRun (t : List Tok) : Nat → Nat → List Int → Nat × List Int
 | 0, i, o => (i, o)
 | f + 1, i, o => if i < t.length then (if stepO o (tk t i).kind = [] then (i + 1, []) else skipRun t f (i + 1) (stepO o (tk t i).kind)) else (i, o)
def skipP (t : List Tok) (i : Nat) : Nat := (skipRun t (t.length + 1) i []).1
theorem skipRun_fuel (t : List Tok) : ∀ (f g i : Nat) (o : List Int), t.length - i < f → t.length - i < g → skipRun t f i o = skipRun t g i o
 | 0, _, _, _, h, _ => by omega
 | f + 1, 0, _, _, _, h => by omega
 | f + 1, g + 1, i, o, h1, h2 => by
  unfold skipRun
  split
  ·split
   ·rfl
   ·exact skipRun_fuel t f g (i + 1) _ (by omega) (by omega)
  ·rfl
theorem skipRun_le (t : List Tok) : ∀ (f i : Nat) (o : List Int), i ≤ t.length → (skipRun t f i o).1 ≤ t.length ∧ i ≤ (skipRun t f i o).1
 | 0, i, o, h => ⟨h, Nat.le_refl _⟩
 | f + 1, i, o, h => by
  unfold skipRun
  split
  ·split
   ·exact ⟨by dsimp only; omega, by dsimp only; omega⟩
   ·have := skipRun_le t f (i + 1) (stepO o (tk t i).kind) (by omega)
    exact ⟨this.1, by omega⟩
  ·exact ⟨h, Nat.le_refl _⟩
theorem skipP_gt {t : List Tok} {i : Nat} (h : i < t.length) : i < skipP t i ∧ skipP t i ≤ t.length := by
 unfold skipP skipRun
 rw [if_pos h]
 split
 ·exact ⟨by dsimp only; omega, by dsimp only; omega⟩
 ·have := skipRun_le t t.length (i + 1) (stepO [] (tk t i).kind) (by omega)
  exact ⟨by omega, this.1⟩
theorem skipP_out {t : List Tok} {i : Nat} (h : t.length ≤ i) : skipP t i = i := by
 unfold skipP skipRun
 rw [if_neg (by omega)]
def Closers (o : List Int) : Prop := ∀ c ∈ o, c = 15 ∨ c = 17 ∨ c = 19
theorem closeK_is (k : Int) : closeK k = 0 ∨ closeK k = 15 ∨ closeK k = 17 ∨ closeK k = 19 := by
 unfold closeK
 split
 ·simp
 split
 ·simp
 split <;> simp
theorem closeK_0 {k : Int} (h : k = 15 ∨ k = 17 ∨ k = 19) : closeK k = 0 := by
 rcases h with rfl | rfl | rfl <;> decide
theorem Closers.step {o : List Int} (h : Closers o) (k : Int) : Closers (stepO o k) := by
 unfold stepO
 split
 ·intro c hc
  rcases List.mem_append.1 hc with hc | hc
  ·exact h c hc
  ·have := closeK_is k
   simp at hc
   subst hc
   rename_i h0
   rcases this with h1 | h1
   ·exact absurd h1 h0
   ·exact h1
 split
 ·intro c hc
  exact h c (List.dropLast_subset o hc)
 ·exact h
theorem stepO_len (o : List Int) (k : Int) : (stepO o k).length ≤ o.length + 1 := by
 unfold stepO
 split
 ·simp
 split <;> simp
 omega
structure SkipI (t : List Tok) (p : Nat) (s : Nat × List Int) : Prop where
 i : p ≤ s.1 ∧ s.1 ≤ t.length
 o : s.2.length ≤ s.1
 c : Closers s.2
 run : ∀ f, t.length - s.1 < f → skipRun t f s.1 s.2 = skipRun t (t.length + 1) p []
theorem SkipI.next {t : List Tok} {p i : Nat} {o : List Int} (h : SkipI t p (i, o)) (hi : i < t.length) (hn : stepO o (tk t i).kind ≠ []) : SkipI t p (i + 1, stepO o (tk t i).kind) := by
 refine ⟨⟨by have := h.i.1; dsimp only at *; omega, by dsimp only; omega⟩, ?_, h.c.step _, fun f hf => ?_⟩
 ·have := stepO_len o (tk t i).kind
  have := h.o
  dsimp only at *
  omega
 ·dsimp only at hf ⊢
  have := h.run (f + 1) (by dsimp only; omega)
  dsimp only at this
  rw [← this, skipRun, if_pos hi, if_neg hn]
theorem SkipI.last {t : List Tok} {p i : Nat} {o : List Int} (h : SkipI t p (i, o)) (hi : i < t.length) (hn : stepO o (tk t i).kind = []) : skipP t p = i + 1 := by
 have := h.run (t.length + 1) (by dsimp only; omega)
 dsimp only at this
 unfold skipP
 rw [← this, skipRun, if_pos hi, if_pos hn]
theorem SkipI.out {t : List Tok} {p i : Nat} {o : List Int} (h : SkipI t p (i, o)) (hi : ¬ i < t.length) : skipP t p = i := by
 have := h.run (t.length + 1) (by dsimp only; omega)
 dsimp only at this
 unfold skipP
 rw [← this, skipRun, if_neg hi]
theorem tk_get {t : List Tok} {i : Nat} {k : Tok} (h : t[i]? = some k) : tk t i = k := by unfold tk; rw [h]
theorem ptsF_last (p : List Int) (c : Int) : (ptsF (p ++ [c]))[p.length]? = some [.v (.int .i64 c)] := by simp [ptsF]
theorem ptsF_cut (p : List Int) (c : Int) : ((ptsF (p ++ [c])).take p.length).drop 0 = ptsF p := by simp [ptsF]
set_option maxHeartbeats 1000000 in
theorem yskip_spec {t : List Tok} (hl : t.length < 100000000) (p : Nat) (hp : p ≤ t.length) : Pure 30 [.f (.sl (toksF t)), int p] (int (skipP t p)) := by
 have hlen : (toksF t).length = t.length := by simp
 refine .mk trivial (spec_mk tab_ok Tryz.func30 (by rfl) rfl ?_)
 rcases Nat.lt_or_ge p t.length with hpl | hpl
 ·conv => whnf
  repeat' ((first | refine Case.no ?_ | refine Case.decF (by omega) ?_); conv => whnf)
  refine step_loop tab_ok (fun s : Nat × List Int => padK [.f (.sl (toksF t)), int s.1, .junk, .junk, .junk, .own 0 3 1 (ptsF s.2)] 62) (fun _ => []) 1 (SkipI t p) (fun s => t.length - s.1) (p, []) ⟨⟨by simp, by simp; omega⟩, by simp, fun c hc => by simp at hc, fun f hf => skipRun_fuel t _ _ _ _ hf (by omega)⟩ (fun _ => rfl) ?_ ?_
  ·
   repeat' first | exact trivial | exact rfl | exact Nat.zero_le _ | exact Nat.zero_lt_succ _ | apply And.intro
  ·rintro ⟨i, o⟩ hI
   have h1 := hI.i
   have h2 := hI.o
   dsimp only at h1 h2 ⊢
   have l2 := ptsF_length o
   by_cases hi : i < t.length
   ·obtain ⟨k, hk⟩ : ∃ k, t[i]? = some k := ⟨_, List.getElem?_eq_getElem hi⟩
    have hkk := tk_get hk
    have hn := hI.next hi
    have hla := hI.last hi
    have hcl := yclosing_spec k.kind
    rw [hkk] at hn hla
    have hcc := hI.c
    clear hI
    rcases List.eq_nil_or_concat o with rfl | ⟨q, c, rfl⟩
    ·by_cases h0 : closeK k.kind = 0
     ·have e : stepO [] k.kind = [] := by unfold stepO; rw [if_neg (by simpa using h0)]; rfl
      have := hla e
      rw [h0] at hcl
      conv => whnf
      repeat' ((first | refine Case.not ?_ | refine Case.yes ?_ | refine Case.no ?_ | refine Case.decT (by omega) ?_ | refine Owes.mk toksF_row ?_ | refine Elem.mk i _ rfl (toksF_get hk) ?_ | refine hcl.call ⟨rfl, rfl⟩ ?_ | (refine step_kinds 2 ?hk ?_; (case hk => decide +kernel)) | refine Num.id (by omega) (by omega) ?_); conv => whnf)
      all_goals exact Fin.isI (by omega)
     ·have e : stepO [] k.kind = [closeK k.kind] := by unfold stepO; rw [if_pos h0]; rfl
      have hn := hn (by rw [e]; simp)
      rw [e] at hn
      conv => whnf
      repeat' ((first | refine Case.not ?_ | refine Case.no ?_ | refine Case.decF (by with_reducible assumption) ?_ | refine Case.decT (by omega) ?_ | refine Owes.mk toksF_row ?_ | refine Elem.mk i _ rfl (toksF_get hk) ?_ | refine hcl.call ⟨rfl, rfl⟩ ?_ | (refine Owes.mk (by simp; omega) ?_) | (refine step_kinds 2 ?hk ?_; (case hk => decide +kernel)) | refine Num.id (by omega) (by omega) ?_); conv => whnf)
      refine ⟨(i + 1, [closeK k.kind]), hn, by dsimp only; omega, ?_⟩
      repeat' first | exact trivial | exact rfl | exact Nat.zero_lt_succ _ | apply And.intro
    ·simp only [List.concat_eq_append] at *
     have hc := hcc c (by simp)
     have hlq : (q ++ [c]).length = q.length + 1 := by simp
     have hcut := ptsF_cut q c
     have hget : (ptsF (q ++ [c]))[(((ptsF (q ++ [c])).length : Int) - 1).toNat]? = some [.v (.int .i64 c)] := by
      rw [l2, hlq, show (((q.length + 1 : Nat) : Int) - 1).toNat = q.length by omega]
      exact ptsF_last q c
     by_cases hkc : k.kind = c
     ·have e : stepO (q ++ [c]) k.kind = q := by
       unfold stepO
       rw [if_neg (by rw [closeK_0 (by omega)]; simp), if_pos (by rw [hkc]; simp)]
       simp
      by_cases hq : q = []
      ·have := hla (e.trans hq)
       have hl0 : (ptsF q).length = 0 := by rw [hq]; rfl
       conv => whnf
       repeat' ((first | refine Case.decT (by with_reducible assumption) ?_ | refine Case.decT (by omega) ?_ | refine Owes.mk toksF_row ?_ | refine Elem.mk i _ rfl (toksF_get hk) ?_ | refine Owes.mk rfl ?_ | (refine Elem.mk q.length _ (by rw [l2, hlq]; omega) (ptsF_last q c) ?_) | rw [hget] | (refine Part.mk 0 q.length rfl (by rw [l2, hlq]; omega) (by omega) (by rw [l2, hlq]; omega) ?_) | rw [hcut] | (refine step_kinds 2 ?hk ?_; (case hk => decide +kernel)) | refine Num.id (by omega) (by omega) ?_); conv => whnf)
       all_goals exact Fin.isI (by omega)
      ·have hn := hn (by rw [e]; exact hq)
       rw [e] at hn
       have hl0 : 0 < (ptsF q).length := by rw [ptsF_length]; exact List.length_pos_iff.2 hq
       conv => whnf
       repeat' ((first | refine Case.decT (by with_reducible assumption) ?_ | refine Case.decT (by omega) ?_ | refine Case.decF (by omega) ?_ | refine Owes.mk toksF_row ?_ | refine Elem.mk i _ rfl (toksF_get hk) ?_ | refine Owes.mk rfl ?_ | (refine Elem.mk q.length _ (by rw [l2, hlq]; omega) (ptsF_last q c) ?_) | rw [hget] | (refine Part.mk 0 q.length rfl (by rw [l2, hlq]; omega) (by omega) (by rw [l2, hlq]; omega) ?_) | rw [hcut] | (refine step_kinds 2 ?hk ?_; (case hk => decide +kernel)) | refine Num.id (by omega) (by omega) ?_); conv => whnf)
       refine ⟨(i + 1, q), hn, by dsimp only; omega, ?_⟩
       repeat' first | exact trivial | exact rfl | exact Nat.zero_lt_succ _ | apply And.intro
     ·by_cases h0 : closeK k.kind = 0
      ·have e : stepO (q ++ [c]) k.kind = q ++ [c] := by
        unfold stepO
        rw [if_neg (by simpa using h0), if_neg (by simp; omega)]
       have hn := hn (by rw [e]; simp)
       rw [e] at hn
       rw [h0] at hcl
       conv => whnf
       repeat' first
        | (refine Case.not ?_; conv => whnf)
        | (refine Case.yes ?_; conv => whnf)
        | (refine Case.decF (by with_reducible assumption) ?_; conv => whnf)
        | (refine Case.decT (by omega) ?_; conv => whnf)
        | (refine Case.decF (by omega) ?_; conv => whnf)
        | (refine Owes.mk toksF_row ?_; conv => whnf)
        | (refine Elem.mk i _ rfl (toksF_get hk) ?_; conv => whnf)
        | (refine Owes.mk rfl ?_; conv => whnf)
        | (refine Elem.mk q.length _ (by rw [l2, hlq]; omega) (ptsF_last q c) ?_; conv => whnf)
        | (rw [hget]; conv => whnf)
        | (refine hcl.call ⟨rfl, rfl⟩ ?_; conv => whnf)
        | (refine step_kinds 2 ?hk ?_; (case hk => decide +kernel); conv => whnf)
        | (refine Num.id (by omega) (by omega) ?_; conv => whnf)
       refine ⟨(i + 1, q ++ [c]), hn, by dsimp only; omega, ?_⟩
       repeat' first | exact trivial | exact rfl | exact Nat.zero_lt_succ _ | apply And.intro
      ·have e : stepO (q ++ [c]) k.kind = q ++ [c] ++ [closeK k.kind] := by
        unfold stepO
        rw [if_pos h0]
       have hn := hn (by rw [e]; simp)
       rw [e] at hn
       have l3 : (ptsF (q ++ [c]) ++ [[F.v (.int .i64 (closeK k.kind))]]).length = q.length + 2 := by rw [List.length_append, l2, hlq]; rfl
       conv => whnf
       repeat' first
        | (refine Case.not ?_; conv => whnf)
        | (refine Case.decF (by with_reducible assumption) ?_; conv => whnf)
        | (refine Case.decT (by omega) ?_; conv => whnf)
        | (refine Case.decF (by omega) ?_; conv => whnf)
        | (refine Owes.mk toksF_row ?_; conv => whnf)
        | (refine Elem.mk i _ rfl (toksF_get hk) ?_; conv => whnf)
        | (refine Owes.mk rfl ?_; conv => whnf)
        | (refine Elem.mk q.length _ (by rw [l2, hlq]; omega) (ptsF_last q c) ?_; conv => whnf)
        | (rw [hget]; conv => whnf)
        | (refine hcl.call ⟨rfl, rfl⟩ ?_; conv => whnf)
        | (refine Owes.mk (by simp; omega) ?_; conv => whnf)
        | (refine step_kinds 2 ?hk ?_; (case hk => decide +kernel); conv => whnf)
        | (refine Num.id (by omega) (by omega) ?_; conv => whnf)
       refine ⟨(i + 1, q ++ [c] ++ [closeK k.kind]), hn, by dsimp only; omega, ?_⟩
       repeat' first | exact trivial | exact rfl | exact Nat.zero_lt_succ _ | exact congrArg (D.own _ _ _) (by simp [ptsF]; done) | apply And.intro
   ·have := hI.out hi
    conv => whnf
    repeat' (refine Case.decF (by omega) ?_; conv => whnf)
    all_goals exact Fin.isI (by omega)
 ·rw [skipP_out hpl]
  conv => whnf
  repeat' ((first | refine Case.no ?_ | refine Case.decT (by omega) ?_); conv => whnf)
  all_goals exact Fin.isI rfl
end Go.Proofs.YtlhegfkpgchaeaaGreatDoor.Aw
