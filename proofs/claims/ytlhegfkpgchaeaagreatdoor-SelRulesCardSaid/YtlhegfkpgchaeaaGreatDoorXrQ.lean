/- The picker's pseudo and compound. -/
import Derived.Test.YtlhegfkpgchaeaaGreatDoorXrP
namespace Go.Proofs.YtlhegfkpgchaeaaGreatDoor.Aw
open Go Go.RowKit Go.Lib
set_option linter.unusedVariables false
set_option linter.unusedSimpArgs false
set_option maxRecDepth 100000
structure Fit (t : List Tok) : Prop where
 len : t.length < 100000000
 text : ∀ i, (tk t i).text.length < 1000000000
 n : ∀ i, -9223372036854775808 ≤ (tk t i).n ∧ (tk t i).n < 9223372036854775808
theorem tk_or (t : List Tok) (i : Nat) : (tk t i).kind = 0 ∨ i < t.length := by
 by_cases h : (tk t i).kind = 0
 ·exact .inl h
 ·exact .inr (tk_lt h)
theorem wordRun_le (s : List UInt8) : ∀ (l : List (List UInt8)) (k : Nat), (wordRun s l k).1 ≤ k + l.length
 | [], k => by simp [wordRun]
 | x :: r, k => by
  have := wordRun_le s r (k + 1)
  unfold wordRun
  split
  ·simp
  ·simp only [List.length_cons]; omega
theorem wordV_le (s : List UInt8) (l : List (List UInt8)) : (wordV s l).1 ≤ l.length := by
 have := wordRun_le s l 0
 unfold wordV
 omega
theorem rNth_list (t : List Tok) (i : Nat) : (rNth t i).1.list = [] := by
 unfold rNth rNthP
 dsimp only
 repeat' split
 all_goals rfl
theorem beq0 (n : Nat) : ((n : Int) == 0) = decide (n = 0) := by
 rw [Bool.eq_iff_iff]
 simp
def InnerOk (nest : Nest) (t : List Tok) (q : Int) : Prop := ∀ a, a ≤ t.length → PMeth 152 t a false q (.f (.sl ((nest a).1.map selRow))) (nest a).2.1 (nest a).2.2
theorem Fin.pkc {d d' : D} {t : List Tok} {p : Int} {b b' : Bool} {q q' : Int} {more : Hp} {n : Nat} {R : D → Hp → Prop} (a : Nat) (hd : intoD n 0 1 d d') (hp : p = a) (hb : b = b') (hq : q = q') (hR : R d' [some (pkr t a b' q')]) : Fin d (some [.f (.sl (toksF t)), int p, bool b, int q] :: more) n 1 0 R := by
 subst hp hb hq
 exact Fin.mk d' [some (pkr t a b q)] hR rfl ⟨by unfold intoL; exact ⟨hd, by unfold intoL; rfl⟩, ⟨rfl, rfl, rfl, rfl, rfl⟩, by unfold intoH; cases more <;> trivial⟩
set_option maxHeartbeats 2000000 in
theorem rpseudo_spec {nest : Nest} {t : List Tok} (hf : Fit t) {q : Int} (hN : InnerOk nest t q) (a : Nat) (ha : a ≤ t.length) : PMeth 135 t a false q (rPseudo nest t a).1.d (rPseudo nest t a).2.1 (rPseudo nest t a).2.2 := by
 refine ⟨⟨trivial, trivial, trivial, trivial, trivial⟩, spec_mk tab_ok Tryz.func135 (by rfl) rfl ?_⟩
 have hl := hf.len
 unfold rPseudo
 have hlt := tk_or t a
 have hw := wordV_le (lower (tk t a).text) fiveW
 have hw5 : fiveW.length = 5 := rfl
 conv => whnf
 repeat' first | ((first | refine Case.not ?_ | refine Case.strT (by assumption) ?_ | (refine Case.strF (by simp only [*]; decide) ?_) | refine (psee_at t (by omega) a false q (by omega) _ a (by omega) (by omega) (by omega)).call ⟨⟨rfl, rfl, rfl, rfl, trivial⟩, rfl, rfl⟩ ?_ | refine (lower_spec _ (hf.text _)).call ⟨rfl, rfl⟩ ?_ | refine (word_spec _ fiveW (by decide)).call ⟨rfl, rfl, rfl⟩ ?_ | refine (rnth_spec t hl hf.text hf.n (a + 1) q (by omega)).call ?_ | refine (hN (a + 1) (by omega)).call ?_ | refine Num.id (by omega) (by omega) ?_); conv => whnf) | (refine Case.strI (fun _ => ?_) (fun _ => ?_) <;> conv => whnf) | (refine Case.dec (fun _ => ?_) (fun _ => ?_) <;> conv => whnf) | (refine Case.mk (fun _ => ?_) (fun _ => ?_) <;> conv => whnf)
 ·rw [if_pos (by assumption), if_pos (by assumption)]
  refine Fin.pkc _ ?_ rfl rfl rfl ⟨rfl, rfl⟩
  repeat' first | exact rfl | exact trivial | apply And.intro
 ·rw [if_pos (by assumption), if_neg (by simp [*])]
  refine Fin.pkc _ ?_ rfl rfl rfl ⟨rfl, rfl⟩
  repeat' first | exact rfl | exact trivial | apply And.intro
 ·rw [if_neg (by assumption), if_neg (by omega), if_pos (by assumption)]
  refine Fin.pkc _ ?_ rfl rfl rfl ⟨rfl, rfl⟩
  repeat' first | exact rfl | exact trivial | exact rNth_list t _ | apply And.intro
 ·rw [if_neg (by assumption), if_neg (by omega), if_neg (by assumption), if_pos (by assumption)]
  refine Fin.pkc _ ?_ rfl rfl rfl ⟨rfl, rfl⟩
  repeat' first | exact rfl | exact trivial | apply And.intro
 ·rw [if_neg (by assumption), if_neg (by omega), if_neg (by assumption), if_neg (by assumption), if_pos (by assumption)]
  refine Fin.pkc _ ?_ rfl rfl rfl ⟨rfl, rfl⟩
  repeat' first | exact rfl | exact trivial | apply And.intro
 ·rw [if_neg (by assumption), if_neg (by omega), if_neg (by assumption), if_neg (by assumption), if_neg (by assumption)]
  refine Fin.pkc _ ?_ rfl rfl rfl ⟨rfl, rfl⟩
  repeat' first | exact rfl | exact trivial | apply And.intro
 ·rw [if_neg (by assumption), if_pos (by omega)]
  refine Fin.pkc _ ?_ rfl rfl rfl ⟨rfl, rfl⟩
  repeat' first | exact rfl | exact trivial | apply And.intro
abbrev idsD (c : Cmp) : D := .own 0 9 1 (strs c.ids)
abbrev clsO (c : Cmp) : D := .own 1 9 1 (strs c.cls)
abbrev attsD (c : Cmp) : D := .own 2 103 3 (c.atts.map Att.row)
abbrev pssD (c : Cmp) : D := .own 3 105 4 (c.pss.map Psd.row)
abbrev Cmp.own (c : Cmp) : Cells := [.str ⟨c.tag.toArray⟩, idsD c, clsO c, attsD c, pssD c]
structure CmpI (nest : Nest) (t : List Tok) (a : Nat) (s : Cmp × Nat × Bool × Nat) : Prop where
 len : s.2.1 ≤ t.length + 4
 ok : s.2.2.1 = false → a ≤ s.2.1 ∧ s.2.1 ≤ t.length
 n : s.2.2.2 ≤ t.length + 4 ∧ (s.2.2.1 = false → s.2.2.2 ≤ s.2.1)
 sz : s.1.ids.length ≤ s.2.2.2 ∧ s.1.cls.length ≤ s.2.2.2 ∧ s.1.atts.length ≤ s.2.2.2 ∧ s.1.pss.length ≤ s.2.2.2
 run : s.2.2.1 = false → ∀ f, t.length - s.2.1 < f → rCmpRun nest t f s.2.1 s.2.2.2 s.1 = rCmp nest t a
 bad : s.2.2.1 = true → rCmp nest t a = (s.1, s.2.1, true)
theorem rCmpRun_fuel {nest : Nest} {t : List Tok} (hF : ∀ i, i ≤ t.length → Far t i (nest i).2.1 (nest i).2.2) : ∀ (f g i n : Nat) (c : Cmp), i ≤ t.length → t.length - i < f → t.length - i < g → rCmpRun nest t f i n c = rCmpRun nest t g i n c
 | 0, _, _, _, _, _, h, _ => by omega
 | f + 1, 0, _, _, _, _, _, h => by omega
 | f + 1, g + 1, i, n, c, hi, h1, h2 => by
  unfold rCmpRun
  split
  ·have := tk_lt (t := t) (i := i) (by omega)
   exact rCmpRun_fuel hF f g _ _ _ (by omega) (by omega) (by omega)
  split
  ·have := tk_lt (t := t) (i := i + 1) (by omega)
   exact rCmpRun_fuel hF f g _ _ _ (by omega) (by omega) (by omega)
  split
  ·have := tk_lt (t := t) (i := i) (by omega)
   have ha := rAttr_far (t := t) (i := i + 1) (by omega)
   split
   ·rfl
   ·rename_i hb
    have hb := ha.ok (by simpa using hb)
    exact rCmpRun_fuel hF f g _ _ _ (by omega) (by omega) (by omega)
  split
  ·have := tk_lt (t := t) (i := i) (by omega)
   have ha := rPseudo_far hF (t := t) (i := i + 1) (by omega)
   split
   ·rfl
   ·rename_i hb
    have hb := ha.ok (by simpa using hb)
    exact rCmpRun_fuel hF f g _ _ _ (by omega) (by omega) (by omega)
  ·rfl
theorem Fin.cmp {c : Cmp} {t : List Tok} {p : Int} {b b' : Bool} {q q' : Int} {more : Hp} {R : D → Hp → Prop} (a : Nat) (hp : p = a) (hb : b = b') (hq : q = q') (hR : R c.d [some (pkr t a b' q')]) : Fin (.agg c.own) (some [.f (.sl (toksF t)), int p, bool b, int q] :: more) 4 1 0 R := by
 refine Fin.frz 0 (Fin.frz 1 (Fin.frz 2 (Fin.frz 3 ?_)))
 refine Fin.pkc (d' := c.d) a ?_ hp hb hq hR
 repeat' first | exact rfl | exact trivial | apply And.intro
set_option maxHeartbeats 4000000 in
theorem rcmp_spec {nest : Nest} {t : List Tok} (hf : Fit t) {q : Int} (hF : ∀ i, i ≤ t.length → Far t i (nest i).2.1 (nest i).2.2) (hN : InnerOk nest t q) (a : Nat) (ha : a ≤ t.length) : PMeth 115 t a false q (rCmp nest t a).1.d (rCmp nest t a).2.1 (rCmp nest t a).2.2 := by
 refine ⟨⟨trivial, trivial, trivial, trivial, trivial, trivial⟩, spec_mk tab_ok Tryz.func115 (by rfl) rfl ?_⟩
 have hl := hf.len
 have hlt := tk_or t a
 conv => whnf
 repeat' first | ((first | refine (psee_at t (by omega) a false q (by omega) _ a (by omega) (by omega) (by omega)).call ⟨⟨rfl, rfl, rfl, rfl, trivial⟩, rfl, rfl⟩ ?_ | refine (lower_spec _ (hf.text _)).call ⟨rfl, rfl⟩ ?_ | refine (pdelim_at t (by omega) a false q (by omega) _ _ a (by omega) (by omega) (by omega)).call ⟨⟨rfl, rfl, rfl, rfl, trivial⟩, rfl, rfl, rfl⟩ ?_ | refine Num.id (by omega) (by omega) ?_); conv => whnf) | (refine Case.dec (fun _ => ?_) (fun _ => ?_) <;> conv => whnf) | (refine Case.mk (fun _ => ?_) (fun _ => ?_) <;> conv => whnf)
 ·have e0 : rCmp nest t a = rCmpRun nest t (t.length + 1) (a + 1) 1 { tag := lower (tk t a).text } := by unfold rCmp; rw [if_pos (by assumption)]
  refine step_loop tab_ok (fun s : Cmp × Nat × Bool × Nat => padK [.ptr 0 0, .junk, .ptr 1 0, .ptr 2 0, int s.2.2.2] 133) (fun s => [some (pkr t s.2.1 s.2.2.1 q), some [.junk, .junk, .junk, .junk, .junk], some s.1.own]) 4 (CmpI nest t a) (fun s => if s.2.2.1 = true then 0 else t.length + 1 - s.2.1) ({ tag := lower (tk t a).text }, (a + 1), false, 1) ⟨by dsimp only; omega, fun _ => ⟨by dsimp only; omega, by dsimp only; omega⟩, ⟨by dsimp only; omega, fun _ => by dsimp only; omega⟩, by simp, fun _ f hf => by dsimp only at hf ⊢; rw [e0]; exact rCmpRun_fuel hF _ _ _ _ _ (by omega) hf (by omega), fun h => by simp at h⟩ (fun _ => rfl) ?_ ?_
  ·
   repeat' first | exact trivial | exact rfl | exact Nat.zero_le _ | exact Nat.zero_lt_succ _ | exact (by decide : 1 < 4) | exact (by decide : 2 < 4) | exact (by decide : 3 < 4) | exact (by decide : 2 < 3) | (show _ < List.length _; simp; done) | apply And.intro
  ·rintro ⟨c, i, b, n⟩ ⟨h1, h2, h3, hz, h4, h5⟩
   simp only at h1 h2 h3 hz h4 h5
   cases b with
   | true =>
    have h5 := h5 rfl
    conv => whnf
    repeat' ((first | refine Case.not ?_ | refine Case.yes ?_); conv => whnf)
    rw [h5]
    exact Fin.cmp i rfl rfl rfl ⟨rfl, rfl⟩
   | false =>
    have h2 := h2 rfl
    have h3 := h3.2 rfl
    have h4 := h4 rfl
    clear h5
    have e1 := h4 (t.length - i + 1) (by omega)
    rw [rCmpRun] at e1
    have hlt := tk_or t i
    have hlt1 := tk_or t (i + 1)
    have hA := fun h => rattr_spec t hl hf.text (i + 1) q h
    have hP := fun h => rpseudo_spec hf hN (i + 1) h
    have l1 := strs_length c.ids
    have l2 := strs_length c.cls
    have l3 : (c.atts.map Att.row).length = c.atts.length := List.length_map ..
    have l4 : (c.pss.map Psd.row).length = c.pss.length := List.length_map ..
    dsimp only
    conv => whnf
    repeat' first
     | (refine Case.not ?_; conv => whnf)
     | (refine Case.no ?_; conv => whnf)
     | (refine Case.isTrue (by assumption) ?_; conv => whnf)
     | (refine Case.isFalse (by assumption) ?_; conv => whnf)
     | (refine step_kinds 2 ?hk ?_; (case hk => decide +kernel); conv => whnf)
     | (refine (psee_at t (by omega) i false q (by omega) _ i (by omega) (by omega) (by omega)).call ⟨⟨rfl, rfl, rfl, rfl, trivial⟩, rfl, rfl⟩ ?_; conv => whnf)
     | (refine (psee_at t (by omega) i false q (by omega) _ (i + 1) (by omega) (by omega) (by omega)).call ⟨⟨rfl, rfl, rfl, rfl, trivial⟩, rfl, rfl⟩ ?_; conv => whnf)
     | (refine (pdelim_at t (by omega) i false q (by omega) _ _ i (by omega) (by omega) (by omega)).call ⟨⟨rfl, rfl, rfl, rfl, trivial⟩, rfl, rfl, rfl⟩ ?_; conv => whnf)
     | (refine (hA (by omega)).call ?_; conv => whnf)
     | (refine (hP (by omega)).call ?_; conv => whnf)
     | (refine (psee_at t (by omega) i false q (by omega) _ i (by omega) (by omega) (by omega)).callB ⟨⟨rfl, rfl, rfl, rfl, trivial⟩, rfl, rfl⟩ ?_; conv => whnf)
     | (refine (psee_at t (by omega) i false q (by omega) _ (i + 1) (by omega) (by omega) (by omega)).callB ⟨⟨rfl, rfl, rfl, rfl, trivial⟩, rfl, rfl⟩ ?_; conv => whnf)
     | (refine Owes.mk (by first | (dsimp only [List.length]; omega) | (simp only [List.length_cons, List.length_nil]; omega)) ?_; conv => whnf)
     | (refine Num.id (by omega) (by omega) ?_; conv => whnf)
     | (refine Case.dec (fun _ => ?_) (fun _ => ?_) <;> conv => whnf)
     | (refine Case.mk (fun _ => ?_) (fun _ => ?_) <;> conv => whnf)
    ·rw [if_pos (by assumption)] at e1
     refine ⟨({ c with ids := c.ids ++ [(tk t i).text] }, i + 1, false, n + 1), ⟨by dsimp only; omega, fun _ => ⟨by dsimp only; omega, by dsimp only; omega⟩, ⟨by dsimp only; omega, fun _ => by dsimp only; omega⟩, by dsimp only; simp only [List.length_append, List.length_cons, List.length_nil]; omega, fun _ f hf => ?_, fun h => by simp at h⟩, by dsimp only; simp; omega, ?_⟩
     ·dsimp only at hf ⊢
      rw [← e1]
      exact rCmpRun_fuel hF _ _ _ _ _ (by omega) hf (by omega)
     ·
      repeat' first | exact trivial | exact rfl | exact Nat.zero_lt_succ _ | exact (by decide : 1 < 4) | exact (by decide : 2 < 4) | exact (by decide : 3 < 4) | exact (by decide : 2 < 3) | exact congrArg (D.own _ _ _) (by simp [strs]; done) | (show _ < List.length _; simp; done) | apply And.intro
    ·rw [if_neg (by assumption), if_pos ⟨by assumption, by assumption⟩] at e1
     refine ⟨({ c with cls := c.cls ++ [(tk t (i + 1)).text] }, i + 2, false, n + 1), ⟨by dsimp only; omega, fun _ => ⟨by dsimp only; omega, by dsimp only; omega⟩, ⟨by dsimp only; omega, fun _ => by dsimp only; omega⟩, by dsimp only; simp only [List.length_append, List.length_cons, List.length_nil]; omega, fun _ f hf => ?_, fun h => by simp at h⟩, by dsimp only; simp; omega, ?_⟩
     ·dsimp only at hf ⊢
      rw [← e1]
      exact rCmpRun_fuel hF _ _ _ _ _ (by omega) hf (by omega)
     ·
      repeat' first | exact trivial | exact rfl | exact Nat.zero_lt_succ _ | exact (by decide : 1 < 4) | exact (by decide : 2 < 4) | exact (by decide : 3 < 4) | exact (by decide : 2 < 3) | exact congrArg (D.own _ _ _) (by simp [strs]; done) | (show _ < List.length _; simp; done) | apply And.intro
    ·rw [if_neg (by assumption), if_neg (by simp [*]), if_pos (by assumption)] at e1
     have hfar := rAttr_far (t := t) (i := i + 1) (by omega)
     rcases hb : (rAttr t (i + 1)).2.2 with _ | _
     ·have hb2 := hfar.ok hb
      rw [if_neg (by simp [hb])] at e1
      refine ⟨({ c with atts := c.atts ++ [(rAttr t (i + 1)).1] }, (rAttr t (i + 1)).2.1, false, n + 1), ⟨by dsimp only; omega, fun _ => ⟨by dsimp only; omega, by dsimp only; omega⟩, ⟨by dsimp only; omega, fun _ => by dsimp only; omega⟩, by dsimp only; simp only [List.length_append, List.length_cons, List.length_nil]; omega, fun _ f hf => ?_, fun h => by simp at h⟩, by dsimp only; simp; omega, ?_⟩
      ·dsimp only at hf ⊢
       rw [← e1]
       exact rCmpRun_fuel hF _ _ _ _ _ (by omega) hf (by omega)
      ·
       repeat' first | exact trivial | exact rfl | exact Nat.zero_lt_succ _ | exact (by decide : 1 < 4) | exact (by decide : 2 < 4) | exact (by decide : 3 < 4) | exact (by decide : 2 < 3) | exact congrArg (D.own _ _ _) (by simp [Att.row]; done) | (show _ < List.length _; simp; done) | apply And.intro
     ·have hup := hfar.up
      rw [if_pos hb] at e1
      refine ⟨({ c with atts := c.atts ++ [(rAttr t (i + 1)).1] }, (rAttr t (i + 1)).2.1, true, n + 1), ⟨hup, fun h => by simp at h, ⟨by dsimp only; omega, fun h => by simp at h⟩, ?_, fun h => by simp at h, fun _ => e1.symm⟩, by dsimp only; simp; omega, ?_⟩
      ·dsimp only; simp only [List.length_append, List.length_cons, List.length_nil]; omega
      ·
       repeat' first | exact trivial | exact rfl | exact Nat.zero_lt_succ _ | exact (by decide : 1 < 4) | exact (by decide : 2 < 4) | exact (by decide : 3 < 4) | exact (by decide : 2 < 3) | exact congrArg (D.own _ _ _) (by simp [Att.row]; done) | (show _ < List.length _; simp; done) | apply And.intro
    ·rw [if_neg (by assumption), if_neg (by simp [*]), if_neg (by assumption), if_pos (by assumption)] at e1
     have hfar := rPseudo_far hF (t := t) (i := i + 1) (by omega)
     rcases hb : (rPseudo nest t (i + 1)).2.2 with _ | _
     ·have hb2 := hfar.ok hb
      rw [if_neg (by simp [hb])] at e1
      refine ⟨({ c with pss := c.pss ++ [(rPseudo nest t (i + 1)).1] }, (rPseudo nest t (i + 1)).2.1, false, n + 1), ⟨by dsimp only; omega, fun _ => ⟨by dsimp only; omega, by dsimp only; omega⟩, ⟨by dsimp only; omega, fun _ => by dsimp only; omega⟩, by dsimp only; simp only [List.length_append, List.length_cons, List.length_nil]; omega, fun _ f hf => ?_, fun h => by simp at h⟩, by dsimp only; simp; omega, ?_⟩
      ·dsimp only at hf ⊢
       rw [← e1]
       exact rCmpRun_fuel hF _ _ _ _ _ (by omega) hf (by omega)
      ·
       repeat' first | exact trivial | exact rfl | exact Nat.zero_lt_succ _ | exact (by decide : 1 < 4) | exact (by decide : 2 < 4) | exact (by decide : 3 < 4) | exact (by decide : 2 < 3) | exact congrArg (D.own _ _ _) (by simp [Psd.row]; done) | (show _ < List.length _; simp; done) | apply And.intro
     ·have hup := hfar.up
      rw [if_pos hb] at e1
      refine ⟨({ c with pss := c.pss ++ [(rPseudo nest t (i + 1)).1] }, (rPseudo nest t (i + 1)).2.1, true, n + 1), ⟨hup, fun h => by simp at h, ⟨by dsimp only; omega, fun h => by simp at h⟩, ?_, fun h => by simp at h, fun _ => e1.symm⟩, by dsimp only; simp; omega, ?_⟩
      ·dsimp only; simp only [List.length_append, List.length_cons, List.length_nil]; omega
      ·
       repeat' first | exact trivial | exact rfl | exact Nat.zero_lt_succ _ | exact (by decide : 1 < 4) | exact (by decide : 2 < 4) | exact (by decide : 3 < 4) | exact (by decide : 2 < 3) | exact congrArg (D.own _ _ _) (by simp [Psd.row]; done) | (show _ < List.length _; simp; done) | apply And.intro
    ·rw [if_neg (by assumption), if_neg (by simp [*]), if_neg (by assumption), if_neg (by assumption)] at e1
     rw [← e1]
     exact Fin.cmp i rfl (beq0 n) rfl ⟨rfl, rfl⟩
    ·rw [if_neg (by assumption), if_neg (by simp [*]), if_pos (by assumption)] at e1
     have hfar := rAttr_far (t := t) (i := i + 1) (by omega)
     rcases hb : (rAttr t (i + 1)).2.2 with _ | _
     ·have hb2 := hfar.ok hb
      rw [if_neg (by simp [hb])] at e1
      refine ⟨({ c with atts := c.atts ++ [(rAttr t (i + 1)).1] }, (rAttr t (i + 1)).2.1, false, n + 1), ⟨by dsimp only; omega, fun _ => ⟨by dsimp only; omega, by dsimp only; omega⟩, ⟨by dsimp only; omega, fun _ => by dsimp only; omega⟩, by dsimp only; simp only [List.length_append, List.length_cons, List.length_nil]; omega, fun _ f hf => ?_, fun h => by simp at h⟩, by dsimp only; simp; omega, ?_⟩
      ·dsimp only at hf ⊢
       rw [← e1]
       exact rCmpRun_fuel hF _ _ _ _ _ (by omega) hf (by omega)
      ·
       repeat' first | exact trivial | exact rfl | exact Nat.zero_lt_succ _ | exact (by decide : 1 < 4) | exact (by decide : 2 < 4) | exact (by decide : 3 < 4) | exact (by decide : 2 < 3) | exact congrArg (D.own _ _ _) (by simp [Att.row]; done) | (show _ < List.length _; simp; done) | apply And.intro
     ·have hup := hfar.up
      rw [if_pos hb] at e1
      refine ⟨({ c with atts := c.atts ++ [(rAttr t (i + 1)).1] }, (rAttr t (i + 1)).2.1, true, n + 1), ⟨hup, fun h => by simp at h, ⟨by dsimp only; omega, fun h => by simp at h⟩, ?_, fun h => by simp at h, fun _ => e1.symm⟩, by dsimp only; simp; omega, ?_⟩
      ·dsimp only; simp only [List.length_append, List.length_cons, List.length_nil]; omega
      ·
       repeat' first | exact trivial | exact rfl | exact Nat.zero_lt_succ _ | exact (by decide : 1 < 4) | exact (by decide : 2 < 4) | exact (by decide : 3 < 4) | exact (by decide : 2 < 3) | exact congrArg (D.own _ _ _) (by simp [Att.row]; done) | (show _ < List.length _; simp; done) | apply And.intro
    ·rw [if_neg (by assumption), if_neg (by simp [*]), if_neg (by assumption), if_pos (by assumption)] at e1
     have hfar := rPseudo_far hF (t := t) (i := i + 1) (by omega)
     rcases hb : (rPseudo nest t (i + 1)).2.2 with _ | _
     ·have hb2 := hfar.ok hb
      rw [if_neg (by simp [hb])] at e1
      refine ⟨({ c with pss := c.pss ++ [(rPseudo nest t (i + 1)).1] }, (rPseudo nest t (i + 1)).2.1, false, n + 1), ⟨by dsimp only; omega, fun _ => ⟨by dsimp only; omega, by dsimp only; omega⟩, ⟨by dsimp only; omega, fun _ => by dsimp only; omega⟩, by dsimp only; simp only [List.length_append, List.length_cons, List.length_nil]; omega, fun _ f hf => ?_, fun h => by simp at h⟩, by dsimp only; simp; omega, ?_⟩
      ·dsimp only at hf ⊢
       rw [← e1]
       exact rCmpRun_fuel hF _ _ _ _ _ (by omega) hf (by omega)
      ·
       repeat' first | exact trivial | exact rfl | exact Nat.zero_lt_succ _ | exact (by decide : 1 < 4) | exact (by decide : 2 < 4) | exact (by decide : 3 < 4) | exact (by decide : 2 < 3) | exact congrArg (D.own _ _ _) (by simp [Psd.row]; done) | (show _ < List.length _; simp; done) | apply And.intro
     ·have hup := hfar.up
      rw [if_pos hb] at e1
      refine ⟨({ c with pss := c.pss ++ [(rPseudo nest t (i + 1)).1] }, (rPseudo nest t (i + 1)).2.1, true, n + 1), ⟨hup, fun h => by simp at h, ⟨by dsimp only; omega, fun h => by simp at h⟩, ?_, fun h => by simp at h, fun _ => e1.symm⟩, by dsimp only; simp; omega, ?_⟩
      ·dsimp only; simp only [List.length_append, List.length_cons, List.length_nil]; omega
      ·
       repeat' first | exact trivial | exact rfl | exact Nat.zero_lt_succ _ | exact (by decide : 1 < 4) | exact (by decide : 2 < 4) | exact (by decide : 3 < 4) | exact (by decide : 2 < 3) | exact congrArg (D.own _ _ _) (by simp [Psd.row]; done) | (show _ < List.length _; simp; done) | apply And.intro
    ·rw [if_neg (by assumption), if_neg (by simp [*]), if_neg (by assumption), if_neg (by assumption)] at e1
     rw [← e1]
     exact Fin.cmp i rfl (beq0 n) rfl ⟨rfl, rfl⟩
 ·have e0 : rCmp nest t a = rCmpRun nest t (t.length + 1) (a + 1) 1 {} := by unfold rCmp; rw [if_neg (by assumption), if_pos (by assumption)]
  have := isD_lt (by assumption : isD t a 42 = true)
  refine step_loop tab_ok (fun s : Cmp × Nat × Bool × Nat => padK [.ptr 0 0, .junk, .ptr 1 0, .ptr 2 0, int s.2.2.2] 133) (fun s => [some (pkr t s.2.1 s.2.2.1 q), some [.junk, .junk, .junk, .junk, .junk], some s.1.own]) 4 (CmpI nest t a) (fun s => if s.2.2.1 = true then 0 else t.length + 1 - s.2.1) ({}, (a + 1), false, 1) ⟨by dsimp only; omega, fun _ => ⟨by dsimp only; omega, by dsimp only; omega⟩, ⟨by dsimp only; omega, fun _ => by dsimp only; omega⟩, by simp, fun _ f hf => by dsimp only at hf ⊢; rw [e0]; exact rCmpRun_fuel hF _ _ _ _ _ (by omega) hf (by omega), fun h => by simp at h⟩ (fun _ => rfl) ?_ ?_
  ·
   repeat' first | exact trivial | exact rfl | exact Nat.zero_le _ | exact Nat.zero_lt_succ _ | exact (by decide : 1 < 4) | exact (by decide : 2 < 4) | exact (by decide : 3 < 4) | exact (by decide : 2 < 3) | (show _ < List.length _; simp; done) | apply And.intro
  ·rintro ⟨c, i, b, n⟩ ⟨h1, h2, h3, hz, h4, h5⟩
   simp only at h1 h2 h3 hz h4 h5
   cases b with
   | true =>
    have h5 := h5 rfl
    conv => whnf
    repeat' ((first | refine Case.not ?_ | refine Case.yes ?_); conv => whnf)
    rw [h5]
    exact Fin.cmp i rfl rfl rfl ⟨rfl, rfl⟩
   | false =>
    have h2 := h2 rfl
    have h3 := h3.2 rfl
    have h4 := h4 rfl
    clear h5
    have e1 := h4 (t.length - i + 1) (by omega)
    rw [rCmpRun] at e1
    have hlt := tk_or t i
    have hlt1 := tk_or t (i + 1)
    have hA := fun h => rattr_spec t hl hf.text (i + 1) q h
    have hP := fun h => rpseudo_spec hf hN (i + 1) h
    have l1 := strs_length c.ids
    have l2 := strs_length c.cls
    have l3 : (c.atts.map Att.row).length = c.atts.length := List.length_map ..
    have l4 : (c.pss.map Psd.row).length = c.pss.length := List.length_map ..
    dsimp only
    conv => whnf
    repeat' first
     | (refine Case.not ?_; conv => whnf)
     | (refine Case.no ?_; conv => whnf)
     | (refine Case.isTrue (by assumption) ?_; conv => whnf)
     | (refine Case.isFalse (by assumption) ?_; conv => whnf)
     | (refine step_kinds 2 ?hk ?_; (case hk => decide +kernel); conv => whnf)
     | (refine (psee_at t (by omega) i false q (by omega) _ i (by omega) (by omega) (by omega)).call ⟨⟨rfl, rfl, rfl, rfl, trivial⟩, rfl, rfl⟩ ?_; conv => whnf)
     | (refine (psee_at t (by omega) i false q (by omega) _ (i + 1) (by omega) (by omega) (by omega)).call ⟨⟨rfl, rfl, rfl, rfl, trivial⟩, rfl, rfl⟩ ?_; conv => whnf)
     | (refine (pdelim_at t (by omega) i false q (by omega) _ _ i (by omega) (by omega) (by omega)).call ⟨⟨rfl, rfl, rfl, rfl, trivial⟩, rfl, rfl, rfl⟩ ?_; conv => whnf)
     | (refine (hA (by omega)).call ?_; conv => whnf)
     | (refine (hP (by omega)).call ?_; conv => whnf)
     | (refine (psee_at t (by omega) i false q (by omega) _ i (by omega) (by omega) (by omega)).callB ⟨⟨rfl, rfl, rfl, rfl, trivial⟩, rfl, rfl⟩ ?_; conv => whnf)
     | (refine (psee_at t (by omega) i false q (by omega) _ (i + 1) (by omega) (by omega) (by omega)).callB ⟨⟨rfl, rfl, rfl, rfl, trivial⟩, rfl, rfl⟩ ?_; conv => whnf)
     | (refine Owes.mk (by first | (dsimp only [List.length]; omega) | (simp only [List.length_cons, List.length_nil]; omega)) ?_; conv => whnf)
     | (refine Num.id (by omega) (by omega) ?_; conv => whnf)
     | (refine Case.dec (fun _ => ?_) (fun _ => ?_) <;> conv => whnf)
     | (refine Case.mk (fun _ => ?_) (fun _ => ?_) <;> conv => whnf)
    ·rw [if_pos (by assumption)] at e1
     refine ⟨({ c with ids := c.ids ++ [(tk t i).text] }, i + 1, false, n + 1), ⟨by dsimp only; omega, fun _ => ⟨by dsimp only; omega, by dsimp only; omega⟩, ⟨by dsimp only; omega, fun _ => by dsimp only; omega⟩, by dsimp only; simp only [List.length_append, List.length_cons, List.length_nil]; omega, fun _ f hf => ?_, fun h => by simp at h⟩, by dsimp only; simp; omega, ?_⟩
     ·dsimp only at hf ⊢
      rw [← e1]
      exact rCmpRun_fuel hF _ _ _ _ _ (by omega) hf (by omega)
     ·
      repeat' first | exact trivial | exact rfl | exact Nat.zero_lt_succ _ | exact (by decide : 1 < 4) | exact (by decide : 2 < 4) | exact (by decide : 3 < 4) | exact (by decide : 2 < 3) | exact congrArg (D.own _ _ _) (by simp [strs]; done) | (show _ < List.length _; simp; done) | apply And.intro
    ·rw [if_neg (by assumption), if_pos ⟨by assumption, by assumption⟩] at e1
     refine ⟨({ c with cls := c.cls ++ [(tk t (i + 1)).text] }, i + 2, false, n + 1), ⟨by dsimp only; omega, fun _ => ⟨by dsimp only; omega, by dsimp only; omega⟩, ⟨by dsimp only; omega, fun _ => by dsimp only; omega⟩, by dsimp only; simp only [List.length_append, List.length_cons, List.length_nil]; omega, fun _ f hf => ?_, fun h => by simp at h⟩, by dsimp only; simp; omega, ?_⟩
     ·dsimp only at hf ⊢
      rw [← e1]
      exact rCmpRun_fuel hF _ _ _ _ _ (by omega) hf (by omega)
     ·
      repeat' first | exact trivial | exact rfl | exact Nat.zero_lt_succ _ | exact (by decide : 1 < 4) | exact (by decide : 2 < 4) | exact (by decide : 3 < 4) | exact (by decide : 2 < 3) | exact congrArg (D.own _ _ _) (by simp [strs]; done) | (show _ < List.length _; simp; done) | apply And.intro
    ·rw [if_neg (by assumption), if_neg (by simp [*]), if_pos (by assumption)] at e1
     have hfar := rAttr_far (t := t) (i := i + 1) (by omega)
     rcases hb : (rAttr t (i + 1)).2.2 with _ | _
     ·have hb2 := hfar.ok hb
      rw [if_neg (by simp [hb])] at e1
      refine ⟨({ c with atts := c.atts ++ [(rAttr t (i + 1)).1] }, (rAttr t (i + 1)).2.1, false, n + 1), ⟨by dsimp only; omega, fun _ => ⟨by dsimp only; omega, by dsimp only; omega⟩, ⟨by dsimp only; omega, fun _ => by dsimp only; omega⟩, by dsimp only; simp only [List.length_append, List.length_cons, List.length_nil]; omega, fun _ f hf => ?_, fun h => by simp at h⟩, by dsimp only; simp; omega, ?_⟩
      ·dsimp only at hf ⊢
       rw [← e1]
       exact rCmpRun_fuel hF _ _ _ _ _ (by omega) hf (by omega)
      ·
       repeat' first | exact trivial | exact rfl | exact Nat.zero_lt_succ _ | exact (by decide : 1 < 4) | exact (by decide : 2 < 4) | exact (by decide : 3 < 4) | exact (by decide : 2 < 3) | exact congrArg (D.own _ _ _) (by simp [Att.row]; done) | (show _ < List.length _; simp; done) | apply And.intro
     ·have hup := hfar.up
      rw [if_pos hb] at e1
      refine ⟨({ c with atts := c.atts ++ [(rAttr t (i + 1)).1] }, (rAttr t (i + 1)).2.1, true, n + 1), ⟨hup, fun h => by simp at h, ⟨by dsimp only; omega, fun h => by simp at h⟩, ?_, fun h => by simp at h, fun _ => e1.symm⟩, by dsimp only; simp; omega, ?_⟩
      ·dsimp only; simp only [List.length_append, List.length_cons, List.length_nil]; omega
      ·
       repeat' first | exact trivial | exact rfl | exact Nat.zero_lt_succ _ | exact (by decide : 1 < 4) | exact (by decide : 2 < 4) | exact (by decide : 3 < 4) | exact (by decide : 2 < 3) | exact congrArg (D.own _ _ _) (by simp [Att.row]; done) | (show _ < List.length _; simp; done) | apply And.intro
    ·rw [if_neg (by assumption), if_neg (by simp [*]), if_neg (by assumption), if_pos (by assumption)] at e1
     have hfar := rPseudo_far hF (t := t) (i := i + 1) (by omega)
     rcases hb : (rPseudo nest t (i + 1)).2.2 with _ | _
     ·have hb2 := hfar.ok hb
      rw [if_neg (by simp [hb])] at e1
      refine ⟨({ c with pss := c.pss ++ [(rPseudo nest t (i + 1)).1] }, (rPseudo nest t (i + 1)).2.1, false, n + 1), ⟨by dsimp only; omega, fun _ => ⟨by dsimp only; omega, by dsimp only; omega⟩, ⟨by dsimp only; omega, fun _ => by dsimp only; omega⟩, by dsimp only; simp only [List.length_append, List.length_cons, List.length_nil]; omega, fun _ f hf => ?_, fun h => by simp at h⟩, by dsimp only; simp; omega, ?_⟩
      ·dsimp only at hf ⊢
       rw [← e1]
       exact rCmpRun_fuel hF _ _ _ _ _ (by omega) hf (by omega)
      ·
       repeat' first | exact trivial | exact rfl | exact Nat.zero_lt_succ _ | exact (by decide : 1 < 4) | exact (by decide : 2 < 4) | exact (by decide : 3 < 4) | exact (by decide : 2 < 3) | exact congrArg (D.own _ _ _) (by simp [Psd.row]; done) | (show _ < List.length _; simp; done) | apply And.intro
     ·have hup := hfar.up
      rw [if_pos hb] at e1
      refine ⟨({ c with pss := c.pss ++ [(rPseudo nest t (i + 1)).1] }, (rPseudo nest t (i + 1)).2.1, true, n + 1), ⟨hup, fun h => by simp at h, ⟨by dsimp only; omega, fun h => by simp at h⟩, ?_, fun h => by simp at h, fun _ => e1.symm⟩, by dsimp only; simp; omega, ?_⟩
      ·dsimp only; simp only [List.length_append, List.length_cons, List.length_nil]; omega
      ·
       repeat' first | exact trivial | exact rfl | exact Nat.zero_lt_succ _ | exact (by decide : 1 < 4) | exact (by decide : 2 < 4) | exact (by decide : 3 < 4) | exact (by decide : 2 < 3) | exact congrArg (D.own _ _ _) (by simp [Psd.row]; done) | (show _ < List.length _; simp; done) | apply And.intro
    ·rw [if_neg (by assumption), if_neg (by simp [*]), if_neg (by assumption), if_neg (by assumption)] at e1
     rw [← e1]
     exact Fin.cmp i rfl (beq0 n) rfl ⟨rfl, rfl⟩
    ·rw [if_neg (by assumption), if_neg (by simp [*]), if_pos (by assumption)] at e1
     have hfar := rAttr_far (t := t) (i := i + 1) (by omega)
     rcases hb : (rAttr t (i + 1)).2.2 with _ | _
     ·have hb2 := hfar.ok hb
      rw [if_neg (by simp [hb])] at e1
      refine ⟨({ c with atts := c.atts ++ [(rAttr t (i + 1)).1] }, (rAttr t (i + 1)).2.1, false, n + 1), ⟨by dsimp only; omega, fun _ => ⟨by dsimp only; omega, by dsimp only; omega⟩, ⟨by dsimp only; omega, fun _ => by dsimp only; omega⟩, by dsimp only; simp only [List.length_append, List.length_cons, List.length_nil]; omega, fun _ f hf => ?_, fun h => by simp at h⟩, by dsimp only; simp; omega, ?_⟩
      ·dsimp only at hf ⊢
       rw [← e1]
       exact rCmpRun_fuel hF _ _ _ _ _ (by omega) hf (by omega)
      ·
       repeat' first | exact trivial | exact rfl | exact Nat.zero_lt_succ _ | exact (by decide : 1 < 4) | exact (by decide : 2 < 4) | exact (by decide : 3 < 4) | exact (by decide : 2 < 3) | exact congrArg (D.own _ _ _) (by simp [Att.row]; done) | (show _ < List.length _; simp; done) | apply And.intro
     ·have hup := hfar.up
      rw [if_pos hb] at e1
      refine ⟨({ c with atts := c.atts ++ [(rAttr t (i + 1)).1] }, (rAttr t (i + 1)).2.1, true, n + 1), ⟨hup, fun h => by simp at h, ⟨by dsimp only; omega, fun h => by simp at h⟩, ?_, fun h => by simp at h, fun _ => e1.symm⟩, by dsimp only; simp; omega, ?_⟩
      ·dsimp only; simp only [List.length_append, List.length_cons, List.length_nil]; omega
      ·
       repeat' first | exact trivial | exact rfl | exact Nat.zero_lt_succ _ | exact (by decide : 1 < 4) | exact (by decide : 2 < 4) | exact (by decide : 3 < 4) | exact (by decide : 2 < 3) | exact congrArg (D.own _ _ _) (by simp [Att.row]; done) | (show _ < List.length _; simp; done) | apply And.intro
    ·rw [if_neg (by assumption), if_neg (by simp [*]), if_neg (by assumption), if_pos (by assumption)] at e1
     have hfar := rPseudo_far hF (t := t) (i := i + 1) (by omega)
     rcases hb : (rPseudo nest t (i + 1)).2.2 with _ | _
     ·have hb2 := hfar.ok hb
      rw [if_neg (by simp [hb])] at e1
      refine ⟨({ c with pss := c.pss ++ [(rPseudo nest t (i + 1)).1] }, (rPseudo nest t (i + 1)).2.1, false, n + 1), ⟨by dsimp only; omega, fun _ => ⟨by dsimp only; omega, by dsimp only; omega⟩, ⟨by dsimp only; omega, fun _ => by dsimp only; omega⟩, by dsimp only; simp only [List.length_append, List.length_cons, List.length_nil]; omega, fun _ f hf => ?_, fun h => by simp at h⟩, by dsimp only; simp; omega, ?_⟩
      ·dsimp only at hf ⊢
       rw [← e1]
       exact rCmpRun_fuel hF _ _ _ _ _ (by omega) hf (by omega)
      ·
       repeat' first | exact trivial | exact rfl | exact Nat.zero_lt_succ _ | exact (by decide : 1 < 4) | exact (by decide : 2 < 4) | exact (by decide : 3 < 4) | exact (by decide : 2 < 3) | exact congrArg (D.own _ _ _) (by simp [Psd.row]; done) | (show _ < List.length _; simp; done) | apply And.intro
     ·have hup := hfar.up
      rw [if_pos hb] at e1
      refine ⟨({ c with pss := c.pss ++ [(rPseudo nest t (i + 1)).1] }, (rPseudo nest t (i + 1)).2.1, true, n + 1), ⟨hup, fun h => by simp at h, ⟨by dsimp only; omega, fun h => by simp at h⟩, ?_, fun h => by simp at h, fun _ => e1.symm⟩, by dsimp only; simp; omega, ?_⟩
      ·dsimp only; simp only [List.length_append, List.length_cons, List.length_nil]; omega
      ·
       repeat' first | exact trivial | exact rfl | exact Nat.zero_lt_succ _ | exact (by decide : 1 < 4) | exact (by decide : 2 < 4) | exact (by decide : 3 < 4) | exact (by decide : 2 < 3) | exact congrArg (D.own _ _ _) (by simp [Psd.row]; done) | (show _ < List.length _; simp; done) | apply And.intro
    ·rw [if_neg (by assumption), if_neg (by simp [*]), if_neg (by assumption), if_neg (by assumption)] at e1
     rw [← e1]
     exact Fin.cmp i rfl (beq0 n) rfl ⟨rfl, rfl⟩
 ·have e0 : rCmp nest t a = rCmpRun nest t (t.length + 1) a 0 {} := by unfold rCmp; rw [if_neg (by assumption), if_neg (by simp [*])]
  refine step_loop tab_ok (fun s : Cmp × Nat × Bool × Nat => padK [.ptr 0 0, .junk, .ptr 1 0, .ptr 2 0, int s.2.2.2] 133) (fun s => [some (pkr t s.2.1 s.2.2.1 q), some [.junk, .junk, .junk, .junk, .junk], some s.1.own]) 4 (CmpI nest t a) (fun s => if s.2.2.1 = true then 0 else t.length + 1 - s.2.1) ({}, a, false, 0) ⟨by dsimp only; omega, fun _ => ⟨by dsimp only; omega, by dsimp only; omega⟩, ⟨by dsimp only; omega, fun _ => by dsimp only; omega⟩, by simp, fun _ f hf => by dsimp only at hf ⊢; rw [e0]; exact rCmpRun_fuel hF _ _ _ _ _ (by omega) hf (by omega), fun h => by simp at h⟩ (fun _ => rfl) ?_ ?_
  ·
   repeat' first | exact trivial | exact rfl | exact Nat.zero_le _ | exact Nat.zero_lt_succ _ | exact (by decide : 1 < 4) | exact (by decide : 2 < 4) | exact (by decide : 3 < 4) | exact (by decide : 2 < 3) | (show _ < List.length _; simp; done) | apply And.intro
  ·rintro ⟨c, i, b, n⟩ ⟨h1, h2, h3, hz, h4, h5⟩
   simp only at h1 h2 h3 hz h4 h5
   cases b with
   | true =>
    have h5 := h5 rfl
    conv => whnf
    repeat' ((first | refine Case.not ?_ | refine Case.yes ?_); conv => whnf)
    rw [h5]
    exact Fin.cmp i rfl rfl rfl ⟨rfl, rfl⟩
   | false =>
    have h2 := h2 rfl
    have h3 := h3.2 rfl
    have h4 := h4 rfl
    clear h5
    have e1 := h4 (t.length - i + 1) (by omega)
    rw [rCmpRun] at e1
    have hlt := tk_or t i
    have hlt1 := tk_or t (i + 1)
    have hA := fun h => rattr_spec t hl hf.text (i + 1) q h
    have hP := fun h => rpseudo_spec hf hN (i + 1) h
    have l1 := strs_length c.ids
    have l2 := strs_length c.cls
    have l3 : (c.atts.map Att.row).length = c.atts.length := List.length_map ..
    have l4 : (c.pss.map Psd.row).length = c.pss.length := List.length_map ..
    dsimp only
    conv => whnf
    repeat' first
     | (refine Case.not ?_; conv => whnf)
     | (refine Case.no ?_; conv => whnf)
     | (refine Case.isTrue (by assumption) ?_; conv => whnf)
     | (refine Case.isFalse (by assumption) ?_; conv => whnf)
     | (refine step_kinds 2 ?hk ?_; (case hk => decide +kernel); conv => whnf)
     | (refine (psee_at t (by omega) i false q (by omega) _ i (by omega) (by omega) (by omega)).call ⟨⟨rfl, rfl, rfl, rfl, trivial⟩, rfl, rfl⟩ ?_; conv => whnf)
     | (refine (psee_at t (by omega) i false q (by omega) _ (i + 1) (by omega) (by omega) (by omega)).call ⟨⟨rfl, rfl, rfl, rfl, trivial⟩, rfl, rfl⟩ ?_; conv => whnf)
     | (refine (pdelim_at t (by omega) i false q (by omega) _ _ i (by omega) (by omega) (by omega)).call ⟨⟨rfl, rfl, rfl, rfl, trivial⟩, rfl, rfl, rfl⟩ ?_; conv => whnf)
     | (refine (hA (by omega)).call ?_; conv => whnf)
     | (refine (hP (by omega)).call ?_; conv => whnf)
     | (refine (psee_at t (by omega) i false q (by omega) _ i (by omega) (by omega) (by omega)).callB ⟨⟨rfl, rfl, rfl, rfl, trivial⟩, rfl, rfl⟩ ?_; conv => whnf)
     | (refine (psee_at t (by omega) i false q (by omega) _ (i + 1) (by omega) (by omega) (by omega)).callB ⟨⟨rfl, rfl, rfl, rfl, trivial⟩, rfl, rfl⟩ ?_; conv => whnf)
     | (refine Owes.mk (by first | (dsimp only [List.length]; omega) | (simp only [List.length_cons, List.length_nil]; omega)) ?_; conv => whnf)
     | (refine Num.id (by omega) (by omega) ?_; conv => whnf)
     | (refine Case.dec (fun _ => ?_) (fun _ => ?_) <;> conv => whnf)
     | (refine Case.mk (fun _ => ?_) (fun _ => ?_) <;> conv => whnf)
    ·rw [if_pos (by assumption)] at e1
     refine ⟨({ c with ids := c.ids ++ [(tk t i).text] }, i + 1, false, n + 1), ⟨by dsimp only; omega, fun _ => ⟨by dsimp only; omega, by dsimp only; omega⟩, ⟨by dsimp only; omega, fun _ => by dsimp only; omega⟩, by dsimp only; simp only [List.length_append, List.length_cons, List.length_nil]; omega, fun _ f hf => ?_, fun h => by simp at h⟩, by dsimp only; simp; omega, ?_⟩
     ·dsimp only at hf ⊢
      rw [← e1]
      exact rCmpRun_fuel hF _ _ _ _ _ (by omega) hf (by omega)
     ·
      repeat' first | exact trivial | exact rfl | exact Nat.zero_lt_succ _ | exact (by decide : 1 < 4) | exact (by decide : 2 < 4) | exact (by decide : 3 < 4) | exact (by decide : 2 < 3) | exact congrArg (D.own _ _ _) (by simp [strs]; done) | (show _ < List.length _; simp; done) | apply And.intro
    ·rw [if_neg (by assumption), if_pos ⟨by assumption, by assumption⟩] at e1
     refine ⟨({ c with cls := c.cls ++ [(tk t (i + 1)).text] }, i + 2, false, n + 1), ⟨by dsimp only; omega, fun _ => ⟨by dsimp only; omega, by dsimp only; omega⟩, ⟨by dsimp only; omega, fun _ => by dsimp only; omega⟩, by dsimp only; simp only [List.length_append, List.length_cons, List.length_nil]; omega, fun _ f hf => ?_, fun h => by simp at h⟩, by dsimp only; simp; omega, ?_⟩
     ·dsimp only at hf ⊢
      rw [← e1]
      exact rCmpRun_fuel hF _ _ _ _ _ (by omega) hf (by omega)
     ·
      repeat' first | exact trivial | exact rfl | exact Nat.zero_lt_succ _ | exact (by decide : 1 < 4) | exact (by decide : 2 < 4) | exact (by decide : 3 < 4) | exact (by decide : 2 < 3) | exact congrArg (D.own _ _ _) (by simp [strs]; done) | (show _ < List.length _; simp; done) | apply And.intro
    ·rw [if_neg (by assumption), if_neg (by simp [*]), if_pos (by assumption)] at e1
     have hfar := rAttr_far (t := t) (i := i + 1) (by omega)
     rcases hb : (rAttr t (i + 1)).2.2 with _ | _
     ·have hb2 := hfar.ok hb
      rw [if_neg (by simp [hb])] at e1
      refine ⟨({ c with atts := c.atts ++ [(rAttr t (i + 1)).1] }, (rAttr t (i + 1)).2.1, false, n + 1), ⟨by dsimp only; omega, fun _ => ⟨by dsimp only; omega, by dsimp only; omega⟩, ⟨by dsimp only; omega, fun _ => by dsimp only; omega⟩, by dsimp only; simp only [List.length_append, List.length_cons, List.length_nil]; omega, fun _ f hf => ?_, fun h => by simp at h⟩, by dsimp only; simp; omega, ?_⟩
      ·dsimp only at hf ⊢
       rw [← e1]
       exact rCmpRun_fuel hF _ _ _ _ _ (by omega) hf (by omega)
      ·
       repeat' first | exact trivial | exact rfl | exact Nat.zero_lt_succ _ | exact (by decide : 1 < 4) | exact (by decide : 2 < 4) | exact (by decide : 3 < 4) | exact (by decide : 2 < 3) | exact congrArg (D.own _ _ _) (by simp [Att.row]; done) | (show _ < List.length _; simp; done) | apply And.intro
     ·have hup := hfar.up
      rw [if_pos hb] at e1
      refine ⟨({ c with atts := c.atts ++ [(rAttr t (i + 1)).1] }, (rAttr t (i + 1)).2.1, true, n + 1), ⟨hup, fun h => by simp at h, ⟨by dsimp only; omega, fun h => by simp at h⟩, ?_, fun h => by simp at h, fun _ => e1.symm⟩, by dsimp only; simp; omega, ?_⟩
      ·dsimp only; simp only [List.length_append, List.length_cons, List.length_nil]; omega
      ·
       repeat' first | exact trivial | exact rfl | exact Nat.zero_lt_succ _ | exact (by decide : 1 < 4) | exact (by decide : 2 < 4) | exact (by decide : 3 < 4) | exact (by decide : 2 < 3) | exact congrArg (D.own _ _ _) (by simp [Att.row]; done) | (show _ < List.length _; simp; done) | apply And.intro
    ·rw [if_neg (by assumption), if_neg (by simp [*]), if_neg (by assumption), if_pos (by assumption)] at e1
     have hfar := rPseudo_far hF (t := t) (i := i + 1) (by omega)
     rcases hb : (rPseudo nest t (i + 1)).2.2 with _ | _
     ·have hb2 := hfar.ok hb
      rw [if_neg (by simp [hb])] at e1
      refine ⟨({ c with pss := c.pss ++ [(rPseudo nest t (i + 1)).1] }, (rPseudo nest t (i + 1)).2.1, false, n + 1), ⟨by dsimp only; omega, fun _ => ⟨by dsimp only; omega, by dsimp only; omega⟩, ⟨by dsimp only; omega, fun _ => by dsimp only; omega⟩, by dsimp only; simp only [List.length_append, List.length_cons, List.length_nil]; omega, fun _ f hf => ?_, fun h => by simp at h⟩, by dsimp only; simp; omega, ?_⟩
      ·dsimp only at hf ⊢
       rw [← e1]
       exact rCmpRun_fuel hF _ _ _ _ _ (by omega) hf (by omega)
      ·
       repeat' first | exact trivial | exact rfl | exact Nat.zero_lt_succ _ | exact (by decide : 1 < 4) | exact (by decide : 2 < 4) | exact (by decide : 3 < 4) | exact (by decide : 2 < 3) | exact congrArg (D.own _ _ _) (by simp [Psd.row]; done) | (show _ < List.length _; simp; done) | apply And.intro
     ·have hup := hfar.up
      rw [if_pos hb] at e1
      refine ⟨({ c with pss := c.pss ++ [(rPseudo nest t (i + 1)).1] }, (rPseudo nest t (i + 1)).2.1, true, n + 1), ⟨hup, fun h => by simp at h, ⟨by dsimp only; omega, fun h => by simp at h⟩, ?_, fun h => by simp at h, fun _ => e1.symm⟩, by dsimp only; simp; omega, ?_⟩
      ·dsimp only; simp only [List.length_append, List.length_cons, List.length_nil]; omega
      ·
       repeat' first | exact trivial | exact rfl | exact Nat.zero_lt_succ _ | exact (by decide : 1 < 4) | exact (by decide : 2 < 4) | exact (by decide : 3 < 4) | exact (by decide : 2 < 3) | exact congrArg (D.own _ _ _) (by simp [Psd.row]; done) | (show _ < List.length _; simp; done) | apply And.intro
    ·rw [if_neg (by assumption), if_neg (by simp [*]), if_neg (by assumption), if_neg (by assumption)] at e1
     rw [← e1]
     exact Fin.cmp i rfl (beq0 n) rfl ⟨rfl, rfl⟩
    ·rw [if_neg (by assumption), if_neg (by simp [*]), if_pos (by assumption)] at e1
     have hfar := rAttr_far (t := t) (i := i + 1) (by omega)
     rcases hb : (rAttr t (i + 1)).2.2 with _ | _
     ·have hb2 := hfar.ok hb
      rw [if_neg (by simp [hb])] at e1
      refine ⟨({ c with atts := c.atts ++ [(rAttr t (i + 1)).1] }, (rAttr t (i + 1)).2.1, false, n + 1), ⟨by dsimp only; omega, fun _ => ⟨by dsimp only; omega, by dsimp only; omega⟩, ⟨by dsimp only; omega, fun _ => by dsimp only; omega⟩, by dsimp only; simp only [List.length_append, List.length_cons, List.length_nil]; omega, fun _ f hf => ?_, fun h => by simp at h⟩, by dsimp only; simp; omega, ?_⟩
      ·dsimp only at hf ⊢
       rw [← e1]
       exact rCmpRun_fuel hF _ _ _ _ _ (by omega) hf (by omega)
      ·
       repeat' first | exact trivial | exact rfl | exact Nat.zero_lt_succ _ | exact (by decide : 1 < 4) | exact (by decide : 2 < 4) | exact (by decide : 3 < 4) | exact (by decide : 2 < 3) | exact congrArg (D.own _ _ _) (by simp [Att.row]; done) | (show _ < List.length _; simp; done) | apply And.intro
     ·have hup := hfar.up
      rw [if_pos hb] at e1
      refine ⟨({ c with atts := c.atts ++ [(rAttr t (i + 1)).1] }, (rAttr t (i + 1)).2.1, true, n + 1), ⟨hup, fun h => by simp at h, ⟨by dsimp only; omega, fun h => by simp at h⟩, ?_, fun h => by simp at h, fun _ => e1.symm⟩, by dsimp only; simp; omega, ?_⟩
      ·dsimp only; simp only [List.length_append, List.length_cons, List.length_nil]; omega
      ·
       repeat' first | exact trivial | exact rfl | exact Nat.zero_lt_succ _ | exact (by decide : 1 < 4) | exact (by decide : 2 < 4) | exact (by decide : 3 < 4) | exact (by decide : 2 < 3) | exact congrArg (D.own _ _ _) (by simp [Att.row]; done) | (show _ < List.length _; simp; done) | apply And.intro
    ·rw [if_neg (by assumption), if_neg (by simp [*]), if_neg (by assumption), if_pos (by assumption)] at e1
     have hfar := rPseudo_far hF (t := t) (i := i + 1) (by omega)
     rcases hb : (rPseudo nest t (i + 1)).2.2 with _ | _
     ·have hb2 := hfar.ok hb
      rw [if_neg (by simp [hb])] at e1
      refine ⟨({ c with pss := c.pss ++ [(rPseudo nest t (i + 1)).1] }, (rPseudo nest t (i + 1)).2.1, false, n + 1), ⟨by dsimp only; omega, fun _ => ⟨by dsimp only; omega, by dsimp only; omega⟩, ⟨by dsimp only; omega, fun _ => by dsimp only; omega⟩, by dsimp only; simp only [List.length_append, List.length_cons, List.length_nil]; omega, fun _ f hf => ?_, fun h => by simp at h⟩, by dsimp only; simp; omega, ?_⟩
      ·dsimp only at hf ⊢
       rw [← e1]
       exact rCmpRun_fuel hF _ _ _ _ _ (by omega) hf (by omega)
      ·
       repeat' first | exact trivial | exact rfl | exact Nat.zero_lt_succ _ | exact (by decide : 1 < 4) | exact (by decide : 2 < 4) | exact (by decide : 3 < 4) | exact (by decide : 2 < 3) | exact congrArg (D.own _ _ _) (by simp [Psd.row]; done) | (show _ < List.length _; simp; done) | apply And.intro
     ·have hup := hfar.up
      rw [if_pos hb] at e1
      refine ⟨({ c with pss := c.pss ++ [(rPseudo nest t (i + 1)).1] }, (rPseudo nest t (i + 1)).2.1, true, n + 1), ⟨hup, fun h => by simp at h, ⟨by dsimp only; omega, fun h => by simp at h⟩, ?_, fun h => by simp at h, fun _ => e1.symm⟩, by dsimp only; simp; omega, ?_⟩
      ·dsimp only; simp only [List.length_append, List.length_cons, List.length_nil]; omega
      ·
       repeat' first | exact trivial | exact rfl | exact Nat.zero_lt_succ _ | exact (by decide : 1 < 4) | exact (by decide : 2 < 4) | exact (by decide : 3 < 4) | exact (by decide : 2 < 3) | exact congrArg (D.own _ _ _) (by simp [Psd.row]; done) | (show _ < List.length _; simp; done) | apply And.intro
    ·rw [if_neg (by assumption), if_neg (by simp [*]), if_neg (by assumption), if_neg (by assumption)] at e1
     rw [← e1]
     exact Fin.cmp i rfl (beq0 n) rfl ⟨rfl, rfl⟩
end Go.Proofs.YtlhegfkpgchaeaaGreatDoor.Aw
