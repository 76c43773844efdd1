/- The program's reader of selectors: selectors, lists, Parse. -/
import Derived.Test.YtlhegfkpgchaeaaGreatDoorXsB
import Derived.Test.YtlhegfkpgchaeaaGreatDoorAwVD
import Derived.Test.YtlhegfkpgchaeaaGreatDoorXrQ
namespace Go.Proofs.YtlhegfkpgchaeaaGreatDoor.Aw
open Go Go.RowKit Go.Lib
set_option linter.unusedVariables false
set_option linter.unusedSimpArgs false
set_option maxRecDepth 100000
def sAttr (t : List Tok) (i : Nat) : Att × Bool × Nat :=
 if (tk t (ws t i)).kind ≠ 1 then ({}, false, ws t i) else
 if (tk t (ws t (ws t i + 1))).kind = 19 then ({ name := lower (tk t (ws t i)).text }, true, ws t (ws t i + 1) + 1) else
 if (sOp t (ws t (ws t i + 1))).2.1 = false then ({}, false, (sOp t (ws t (ws t i + 1))).2.2) else
 if (tk t (ws t (sOp t (ws t (ws t i + 1))).2.2)).kind ≠ 1 ∧ (tk t (ws t (sOp t (ws t (ws t i + 1))).2.2)).kind ≠ 4 then ({}, false, ws t (sOp t (ws t (ws t i + 1))).2.2) else
 ({ name := lower (tk t (ws t i)).text, op := (sOp t (ws t (ws t i + 1))).1, text := (tk t (ws t (sOp t (ws t (ws t i + 1))).2.2)).text }, sIs t (ws t (ws t (sOp t (ws t (ws t i + 1))).2.2 + 1)) 19)
theorem sOp_le (t : List Tok) (i : Nat) : i ≤ (sOp t i).2.2 ∧ (sOp t i).2.2 ≤ i + 2 := by
 unfold sOp
 repeat' split
 all_goals (constructor <;> dsimp only <;> omega)
theorem sIs_of {t : List Tok} {i : Nat} {k : Int} (h : (tk t i).kind = k) : sIs t i k = (true, i + 1) := if_pos h
theorem sIs_ne {t : List Tok} {i : Nat} {k : Int} (h : ¬ (tk t i).kind = k) : sIs t i k = (false, i) := if_neg h
theorem Fin.vbs {d d' : D} {b : Bool} {t : List Tok} {p q : Int} {b' : Bool} {p' : Nat} {more : Hp} {n : Nat} (hd : intoD n 0 1 d d') (h1 : p = p') (h3 : b = b') : Fin (.tup [d, bool b]) (some [.f (.sl (toksF t)), int p, int q] :: more) n 1 0 (fun d H => d = .tup [d', bool b'] ∧ H = [some (srd t p' q)]) := by
 subst h1 h3
 refine Fin.sk p' ?_ rfl rfl ⟨rfl, rfl⟩
 exact ⟨hd, rfl, rfl⟩
set_option maxHeartbeats 2000000 in
theorem sattr_spec {t : List Tok} (hf : Fit t) (a : Nat) (q : Int) (ha : a ≤ t.length + 4) : SMeth 137 [] t a q (.tup [(sAttr t a).1.d, bool (sAttr t a).2.1]) (sAttr t a).2.2 := by
 refine ⟨trivial, ⟨⟨trivial, trivial, trivial, trivial⟩, trivial, trivial⟩, spec_mk tab_ok Tryz.func137 (by rfl) rfl ?_⟩
 have hl := hf.len
 unfold sAttr
 have k1 := ws_le t a
 generalize hi1 : ws t a = i1 at *
 have k2 := ws_le t (i1 + 1)
 generalize hi2 : ws t (i1 + 1) = i2 at *
 have k3 := sOp_le t i2
 have hop := sop_spec t (by omega) i2 q (by omega)
 rcases ho : sOp t i2 with ⟨op, ok, i3⟩
 simp only [ho] at k3 hop
 have k4 := ws_le t i3
 generalize hi4 : ws t i3 = i4 at *
 have k5 := ws_le t (i4 + 1)
 have w1 := swhite_spec t (by omega) a q (by omega)
 have w2 := swhite_spec t (by omega) (i1 + 1) q (by omega)
 have w4 := swhite_spec t (by omega) i3 q (by omega)
 have w5 := swhite_spec t (by omega) (i4 + 1) q (by omega)
 rw [hi1] at w1
 rw [hi2] at w2
 rw [hi4] at w4
 generalize hi6 : ws t (i4 + 1) = i6 at *
 have s1 := sat_at t (by omega) i1 q (by omega) 0 i1 (by omega) (by omega) (by omega)
 have s4 := sat_at t (by omega) i4 q (by omega) 0 i4 (by omega) (by omega) (by omega)
 have b1 := sis_spec t (by omega) i1 q (by omega) 1
 have b2 := sis_spec t (by omega) i2 q (by omega) 19
 have b41 := sis_spec t (by omega) i4 q (by omega) 1
 have b44 := sis_spec t (by omega) i4 q (by omega) 4
 have b6 := sis_spec t (by omega) i6 q (by omega) 19
 by_cases c1 : (tk t i1).kind = 1
 ·rw [if_neg (by omega)]
  rw [sIs_of c1] at b1
  by_cases c2 : (tk t i2).kind = 19
  ·rw [if_pos c2]
   rw [sIs_of c2] at b2
   conv => whnf
   repeat' ((first | refine Case.not ?_ | refine Case.yes ?_ | refine w1.call ?_ | refine s1.call ⟨⟨rfl, rfl, rfl, trivial⟩, rfl, rfl⟩ ?_ | refine (lowerP_spec _ (hf.text _)).call ⟨rfl, rfl⟩ ?_ | refine b1.call ?_ | refine w2.call ?_ | refine b2.call ?_); conv => whnf)
   refine Fin.vbs ?_ rfl rfl
   exact ⟨rfl, rfl, rfl, rfl⟩
  ·rw [if_neg c2]
   rw [sIs_ne c2] at b2
   cases ok with
   | false =>
    rw [if_pos rfl]
    conv => whnf
    repeat' ((first | refine Case.not ?_ | refine Case.yes ?_ | refine Case.no ?_ | refine w1.call ?_ | refine s1.call ⟨⟨rfl, rfl, rfl, trivial⟩, rfl, rfl⟩ ?_ | refine (lowerP_spec _ (hf.text _)).call ⟨rfl, rfl⟩ ?_ | refine b1.call ?_ | refine w2.call ?_ | refine b2.call ?_ | refine hop.call ?_); conv => whnf)
    refine Fin.vbs ?_ rfl rfl
    exact ⟨rfl, rfl, rfl, rfl⟩
   | true =>
    rw [if_neg (by simp)]
    by_cases c4 : (tk t i4).kind = 1 ∨ (tk t i4).kind = 4
    ·rw [if_neg (by omega)]
     have hb : sIs t i4 1 = (true, i4 + 1) ∨ (sIs t i4 1 = (false, i4) ∧ sIs t i4 4 = (true, i4 + 1)) := by
      by_cases c5 : (tk t i4).kind = 1
      ·exact .inl (sIs_of c5)
      ·exact .inr ⟨sIs_ne c5, sIs_of (by omega)⟩
     rcases hb with hb | ⟨hb, hb'⟩
     ·rw [hb] at b41
      conv => whnf
      repeat' first
       | (refine Case.not ?_; conv => whnf)
       | (refine Case.yes ?_; conv => whnf)
       | (refine Case.no ?_; conv => whnf)
       | ((refine step_tree tab_ok mix (.one 1 0 (.two 0 (.one 2 3 (.one 3 3 (.one 4 3 .done))) 2 (.one 0 3 (.one 3 3 (.one 4 3 .done))))) ?hs ?_; (case hs => decide +kernel)); conv => whnf)
       | (refine w1.call ?_; conv => whnf)
       | (refine s1.call ⟨⟨rfl, rfl, rfl, trivial⟩, rfl, rfl⟩ ?_; conv => whnf)
       | (refine (lowerP_spec _ (hf.text _)).call ⟨rfl, rfl⟩ ?_; conv => whnf)
       | (refine b1.call ?_; conv => whnf)
       | (refine w2.call ?_; conv => whnf)
       | (refine b2.call ?_; conv => whnf)
       | (refine hop.call ?_; conv => whnf)
       | (refine w4.call ?_; conv => whnf)
       | (refine s4.call ⟨⟨rfl, rfl, rfl, trivial⟩, rfl, rfl⟩ ?_; conv => whnf)
       | (refine b41.call ?_; conv => whnf)
       | (refine w5.call ?_; conv => whnf)
       | (refine b6.call ?_; conv => whnf)
       | (refine Both.mk ?_ ?_ <;> conv => whnf)
      all_goals refine Fin.vbs ?_ rfl rfl
      all_goals exact ⟨rfl, rfl, rfl, rfl⟩
     ·rw [hb] at b41
      rw [hb'] at b44
      conv => whnf
      repeat' first
       | (refine Case.not ?_; conv => whnf)
       | (refine Case.yes ?_; conv => whnf)
       | (refine Case.no ?_; conv => whnf)
       | ((refine step_tree tab_ok mix (.one 1 0 (.two 0 (.one 2 3 (.one 3 3 (.one 4 3 .done))) 2 (.one 0 3 (.one 3 3 (.one 4 3 .done))))) ?hs ?_; (case hs => decide +kernel)); conv => whnf)
       | (refine w1.call ?_; conv => whnf)
       | (refine s1.call ⟨⟨rfl, rfl, rfl, trivial⟩, rfl, rfl⟩ ?_; conv => whnf)
       | (refine (lowerP_spec _ (hf.text _)).call ⟨rfl, rfl⟩ ?_; conv => whnf)
       | (refine b1.call ?_; conv => whnf)
       | (refine w2.call ?_; conv => whnf)
       | (refine b2.call ?_; conv => whnf)
       | (refine hop.call ?_; conv => whnf)
       | (refine w4.call ?_; conv => whnf)
       | (refine s4.call ⟨⟨rfl, rfl, rfl, trivial⟩, rfl, rfl⟩ ?_; conv => whnf)
       | (refine b41.call ?_; conv => whnf)
       | (refine b44.call ?_; conv => whnf)
       | (refine w5.call ?_; conv => whnf)
       | (refine b6.call ?_; conv => whnf)
       | (refine Both.mk ?_ ?_ <;> conv => whnf)
      all_goals refine Fin.vbs ?_ rfl rfl
      all_goals exact ⟨rfl, rfl, rfl, rfl⟩
    ·rw [if_pos (by omega)]
     rw [sIs_ne (by omega)] at b41
     rw [sIs_ne (by omega)] at b44
     conv => whnf
     repeat' first
      | (refine Case.not ?_; conv => whnf)
      | (refine Case.yes ?_; conv => whnf)
      | (refine Case.no ?_; conv => whnf)
      | (refine w1.call ?_; conv => whnf)
      | (refine s1.call ⟨⟨rfl, rfl, rfl, trivial⟩, rfl, rfl⟩ ?_; conv => whnf)
      | (refine (lowerP_spec _ (hf.text _)).call ⟨rfl, rfl⟩ ?_; conv => whnf)
      | (refine b1.call ?_; conv => whnf)
      | (refine w2.call ?_; conv => whnf)
      | (refine b2.call ?_; conv => whnf)
      | (refine hop.call ?_; conv => whnf)
      | (refine w4.call ?_; conv => whnf)
      | (refine s4.call ⟨⟨rfl, rfl, rfl, trivial⟩, rfl, rfl⟩ ?_; conv => whnf)
      | (refine b41.call ?_; conv => whnf)
      | (refine b44.call ?_; conv => whnf)
     refine Fin.vbs ?_ rfl rfl
     exact ⟨rfl, rfl, rfl, rfl⟩
 ·rw [if_pos (by omega)]
  rw [sIs_ne c1] at b1
  conv => whnf
  repeat' ((first | refine Case.not ?_ | refine Case.no ?_ | refine w1.call ?_ | refine s1.call ⟨⟨rfl, rfl, rfl, trivial⟩, rfl, rfl⟩ ?_ | refine (lowerP_spec _ (hf.text _)).call ⟨rfl, rfl⟩ ?_ | refine b1.call ?_); conv => whnf)
  refine Fin.vbs ?_ rfl rfl
  exact ⟨rfl, rfl, rfl, rfl⟩
def sNth (t : List Tok) (i : Nat) : Psd × Bool × Nat :=
 if (rNthP (tk t (ws t i))).2 = true then ({}, false, ws t i) else ((rNthP (tk t (ws t i))).1, sIs t (ws t (ws t i + 1)) 17)
theorem rNthP_list (k : Tok) : (rNthP k).1.list = [] := by
 unfold rNthP
 repeat' split
 all_goals rfl
theorem sNth_list (t : List Tok) (i : Nat) : (sNth t i).1.list = [] := by
 unfold sNth
 split
 ·rfl
 ·exact rNthP_list _
set_option maxHeartbeats 1000000 in
theorem snth_spec {t : List Tok} (hf : Fit t) (a : Nat) (q : Int) (ha : a ≤ t.length + 4) : SMeth 155 [] t a q (.tup [(sNth t a).1.d, bool (sNth t a).2.1]) (sNth t a).2.2 := by
 refine ⟨trivial, ⟨⟨trivial, trivial, trivial, trivial, trivial⟩, trivial, trivial⟩, spec_mk tab_ok Tryz.func155 (by rfl) rfl ?_⟩
 have hl := hf.len
 have hlist := sNth_list t a
 unfold sNth at *
 have k1 := ws_le t a
 have w1 := swhite_spec t (by omega) a q (by omega)
 generalize hi1 : ws t a = i1 at *
 have k2 := ws_le t (i1 + 1)
 have w2 := swhite_spec t (by omega) (i1 + 1) q (by omega)
 generalize hi2 : ws t (i1 + 1) = i2 at *
 have hn1 := hf.n i1
 have s1 := sat_at t (by omega) i1 q (by omega) 0 i1 (by omega) (by omega) (by omega)
 have b2 := sis_spec t (by omega) i2 q (by omega) 17
 conv => whnf
 repeat' first
  | (refine Case.no ?_; conv => whnf)
  | (refine Case.decT (by assumption) ?_; conv => whnf)
  | (refine Case.decF (by assumption) ?_; conv => whnf)
  | (refine Case.decF (by omega) ?_; conv => whnf)
  | ((refine step_tree tab_ok mix (.one 1 0 (.two 0 (.one 2 3 (.one 3 3 (.one 4 3 .done))) 2 (.one 0 3 (.one 3 3 (.one 4 3 .done))))) ?hs ?_; (case hs => decide +kernel)); conv => whnf)
  | (refine w1.call ?_; conv => whnf)
  | (refine s1.call ⟨⟨rfl, rfl, rfl, trivial⟩, rfl, rfl⟩ ?_; conv => whnf)
  | (refine (lowerP_spec _ (hf.text _)).call ⟨rfl, rfl⟩ ?_; conv => whnf)
  | (refine Owes.mk (by decide) ?_; conv => whnf)
  | (refine Num.id (tdiv1000 hn1).1 (tdiv1000 hn1).2 ?_; conv => whnf)
  | (refine w2.call ?_; conv => whnf)
  | (refine b2.call ?_; conv => whnf)
  | (refine Num.id (by omega) (by omega) ?_; conv => whnf)
  | (refine Case.strI (fun _ => ?_) (fun _ => ?_) <;> conv => whnf)
  | (refine Both.mk ?_ ?_ <;> conv => whnf)
  | (refine Case.dec (fun _ => ?_) (fun _ => ?_) <;> conv => whnf)
  | (refine Case.mk (fun _ => ?_) (fun _ => ?_) <;> conv => whnf)
 ·
  have e : rNthP (tk t i1) = ({ kind := 6, a := 2, b := 1 }, false) := by
   unfold rNthP oddB evenB
   (rw [if_pos ⟨by assumption, by assumption⟩])
  rw [e, if_neg (by simp)]
  refine Fin.vbs ?_ rfl rfl
  exact ⟨rfl, rfl, rfl, rfl, rfl⟩
 ·
  have e : rNthP (tk t i1) = ({ kind := 6, a := 2, b := 1 }, false) := by
   unfold rNthP oddB evenB
   (rw [if_pos ⟨by assumption, by assumption⟩])
  rw [e, if_neg (by simp)]
  refine Fin.vbs ?_ rfl rfl
  exact ⟨rfl, rfl, rfl, rfl, rfl⟩
 ·
  have e : rNthP (tk t i1) = ({ kind := 6, a := 2 }, false) := by
   unfold rNthP oddB evenB
   (rw [if_neg (by simp [*]), if_pos ⟨by assumption, by assumption⟩])
  rw [e, if_neg (by simp)]
  refine Fin.vbs ?_ rfl rfl
  exact ⟨rfl, rfl, rfl, rfl, rfl⟩
 ·
  have e : rNthP (tk t i1) = ({ kind := 6, a := 2 }, false) := by
   unfold rNthP oddB evenB
   (rw [if_neg (by simp [*]), if_pos ⟨by assumption, by assumption⟩])
  rw [e, if_neg (by simp)]
  refine Fin.vbs ?_ rfl rfl
  exact ⟨rfl, rfl, rfl, rfl, rfl⟩
 ·
  have e : rNthP (tk t i1) = ({ kind := 6 }, true) := by
   unfold rNthP oddB evenB
   (rw [if_neg (by simp [*]), if_neg (by simp [*]), if_neg (by simp [*])])
  rw [e, if_pos rfl]
  refine Fin.vbs ?_ rfl rfl
  exact ⟨rfl, rfl, rfl, rfl, rfl⟩
 ·
  have e : rNthP (tk t i1) = ({ kind := 6, b := (tk t i1).n.tdiv 1000 }, false) := by
   unfold rNthP oddB evenB
   (rw [if_neg (by simp [*]), if_neg (by simp [*]), if_pos ⟨by assumption, by assumption⟩])
  rw [e, if_neg (by simp)]
  refine Fin.vbs ?_ rfl rfl
  exact ⟨rfl, rfl, rfl, rfl, rfl⟩
 ·
  have e : rNthP (tk t i1) = ({ kind := 6, b := (tk t i1).n.tdiv 1000 }, false) := by
   unfold rNthP oddB evenB
   (rw [if_neg (by simp [*]), if_neg (by simp [*]), if_pos ⟨by assumption, by assumption⟩])
  rw [e, if_neg (by simp)]
  refine Fin.vbs ?_ rfl rfl
  exact ⟨rfl, rfl, rfl, rfl, rfl⟩
 ·
  have e : rNthP (tk t i1) = ({ kind := 6 }, true) := by
   unfold rNthP oddB evenB
   (rw [if_neg (by simp [*]), if_neg (by simp [*]), if_neg (by simp [*])])
  rw [e, if_pos rfl]
  refine Fin.vbs ?_ rfl rfl
  exact ⟨rfl, rfl, rfl, rfl, rfl⟩
 ·
  have e : rNthP (tk t i1) = ({ kind := 6 }, true) := by
   unfold rNthP oddB evenB
   (rw [if_neg (by simp [*]), if_neg (by simp [*]), if_neg (by simp [*])])
  rw [e, if_pos rfl]
  refine Fin.vbs ?_ rfl rfl
  exact ⟨rfl, rfl, rfl, rfl, rfl⟩
abbrev SNest := Nat → List Selr × Bool × Nat
def sNested (deepest : Bool) (nest : SNest) (t : List Tok) (kind : Int) (i : Nat) : Psd × Bool × Nat :=
 if deepest = true then ({}, false, i) else
 if (nest i).2.1 = true then ({ kind := kind, list := (nest i).1.map selRow }, sIs t (nest i).2.2 17) else ({ kind := kind, list := (nest i).1.map selRow }, false, (nest i).2.2)
def sPseudo (deepest : Bool) (nest : SNest) (t : List Tok) (i : Nat) : Psd × Bool × Nat :=
 if (tk t i).kind = 1 then ({ kind := fiveN (tk t i).text }, decide (fiveN (tk t i).text ≠ 0), i + 1)
 else if (tk t i).kind ≠ 20 then ({}, false, i + 1)
 else if lower (tk t i).text = nthB then sNth t (i + 1)
 else if lower (tk t i).text = notB then sNested deepest nest t 7 (i + 1)
 else if lower (tk t i).text = isB then sNested deepest nest t 8 (i + 1)
 else ({}, false, i + 1)
def SListOk (nest : SNest) (t : List Tok) (q : Int) : Prop := ∀ a, a ≤ t.length → SMeth 24 [] t a q (.tup [.f (.sl ((nest a).1.map selRow)), bool (nest a).2.1]) (nest a).2.2
set_option maxHeartbeats 1000000 in
theorem snested_spec {nest : SNest} {t : List Tok} (hf : Fit t) {q : Int} (hq : 0 ≤ q ∧ q ≤ 8) (hU : ∀ a, a ≤ t.length → (nest a).2.2 ≤ t.length + 4) (hN : q < 8 → SListOk nest t (q + 1)) (kind : Int) (a : Nat) (ha : a ≤ t.length) :
  SMeth 156 [int kind] t a q (.tup [(sNested (decide (q = 8)) nest t kind a).1.d, bool (sNested (decide (q = 8)) nest t kind a).2.1]) (sNested (decide (q = 8)) nest t kind a).2.2 := by
 refine ⟨⟨trivial, trivial⟩, ⟨⟨trivial, trivial, trivial, trivial, trivial⟩, trivial, trivial⟩, spec_mk tab_ok Tryz.func156 (by rfl) rfl ?_⟩
 have hl := hf.len
 unfold sNested
 by_cases h8 : q = 8
 ·rw [if_pos (by simp [h8])]
  conv => whnf
  repeat' (refine Case.decT (by assumption) ?_; conv => whnf)
  refine Fin.vbs ?_ rfl rfl
  exact ⟨rfl, rfl, rfl, rfl, rfl⟩
 ·rw [if_neg (by simp [h8])]
  have hsp := hN (by omega) a ha
  have hu := hU a ha
  have hi := sis_spec t (by omega) (nest a).2.2 q (by omega) 17
  rcases hn : nest a with ⟨l, ok, p⟩
  simp only [hn] at hsp hu hi
  have hq1 : q + 1 - 1 = q := by omega
  cases ok with
  | false =>
   rw [if_neg (by simp)]
   conv => whnf
   repeat' ((first | refine Case.no ?_ | refine Case.decF (by assumption) ?_ | refine hsp.call ?_ | refine Num.id (by omega) (by omega) ?_); conv => whnf)
   rw [hq1]
   refine Fin.vbs ?_ rfl rfl
   exact ⟨rfl, rfl, rfl, rfl, rfl⟩
  | true =>
   rw [if_pos rfl]
   conv => whnf
   repeat' ((first | refine Case.yes ?_ | refine Case.decF (by assumption) ?_ | refine hsp.call ?_ | refine Num.id (by omega) (by omega) ?_); conv => whnf)
   rw [hq1]
   repeat' ((first | refine Case.yes ?_ | refine hi.call ?_); conv => whnf)
   refine Fin.vbs ?_ rfl rfl
   exact ⟨rfl, rfl, rfl, rfl, rfl⟩
set_option maxHeartbeats 2000000 in
theorem spseudo_spec {nest : SNest} {t : List Tok} (hf : Fit t) {q : Int} (hq : 0 ≤ q ∧ q ≤ 8) (hU : ∀ a, a ≤ t.length → (nest a).2.2 ≤ t.length + 4) (hN : q < 8 → SListOk nest t (q + 1)) (a : Nat) (ha : a ≤ t.length) :
  SMeth 138 [] t a q (.tup [(sPseudo (decide (q = 8)) nest t a).1.d, bool (sPseudo (decide (q = 8)) nest t a).2.1]) (sPseudo (decide (q = 8)) nest t a).2.2 := by
 refine ⟨trivial, ⟨⟨trivial, trivial, trivial, trivial, trivial⟩, trivial, trivial⟩, spec_mk tab_ok Tryz.func138 (by rfl) rfl ?_⟩
 have hl := hf.len
 have hlt := tk_or t a
 unfold sPseudo
 conv => whnf
 repeat' first | ((first | refine Case.not ?_ | refine (sat_at t (by omega) a q (by omega) _ a (by omega) (by omega) (by omega)).call ⟨⟨rfl, rfl, rfl, trivial⟩, rfl, rfl⟩ ?_ | refine (splain_spec _ (hf.text _)).call ⟨rfl, rfl⟩ ?_ | refine (lowerP_spec _ (hf.text _)).call ⟨rfl, rfl⟩ ?_ | refine (snth_spec hf (a + 1) q (by omega)).call ?_ | refine (snested_spec hf hq hU hN _ (a + 1) (by omega)).call ?_ | refine Num.id (by omega) (by omega) ?_); conv => whnf) | (refine Case.strI (fun _ => ?_) (fun _ => ?_) <;> conv => whnf) | (refine Case.dec (fun _ => ?_) (fun _ => ?_) <;> conv => whnf)
 ·rw [if_pos (by assumption)]
  refine Fin.vbs ?_ rfl ?_
  ·exact ⟨rfl, rfl, rfl, rfl, rfl⟩
  ·rw [Bool.eq_iff_iff]; simp
 ·rw [if_neg (by assumption), if_neg (by omega), if_pos (by assumption)]
  refine Fin.vbs ?_ rfl rfl
  exact ⟨rfl, rfl, rfl, rfl, rfl⟩
 ·rw [if_neg (by assumption), if_neg (by omega), if_neg (by assumption), if_pos (by assumption)]
  refine Fin.vbs ?_ rfl rfl
  exact ⟨rfl, rfl, rfl, rfl, rfl⟩
 ·rw [if_neg (by assumption), if_neg (by omega), if_neg (by assumption), if_neg (by assumption), if_pos (by assumption)]
  refine Fin.vbs ?_ rfl rfl
  exact ⟨rfl, rfl, rfl, rfl, rfl⟩
 ·rw [if_neg (by assumption), if_neg (by omega), if_neg (by assumption), if_neg (by assumption), if_neg (by assumption)]
  refine Fin.vbs ?_ rfl rfl
  exact ⟨rfl, rfl, rfl, rfl, rfl⟩
 ·rw [if_neg (by assumption), if_pos (by omega)]
  refine Fin.vbs ?_ rfl rfl
  exact ⟨rfl, rfl, rfl, rfl, rfl⟩
structure SFar (t : List Tok) (i : Nat) (ok : Bool) (p : Nat) : Prop where
 up : p ≤ t.length + 4
 ok : ok = true → i ≤ p ∧ p ≤ t.length
theorem sIs_far {t : List Tok} {i j : Nat} {k : Int} (hk : k ≠ 0) (hj : j ≤ t.length + 3) (h : (tk t j).kind = k → i ≤ j) : SFar t i (sIs t j k).1 (sIs t j k).2 := by
 unfold sIs
 split
 ·rename_i h1
  have := tk_lt (t := t) (i := j) (by omega)
  exact ⟨by dsimp only; omega, fun _ => by have := h h1; dsimp only; omega⟩
 ·exact ⟨by dsimp only; omega, by simp⟩
theorem sOp_far {t : List Tok} {i : Nat} (h : (sOp t i).2.1 = true) : (sOp t i).2.2 ≤ t.length := by
 unfold sOp at h ⊢
 split
 ·rename_i h1
  have := isD_lt h1
  exact this
 ·split
  ·rename_i h1
   have := isD_lt h1.2.2
   exact this
  ·simp_all
theorem sAttr_far {t : List Tok} {i : Nat} (hi : i ≤ t.length) : SFar t i (sAttr t i).2.1 (sAttr t i).2.2 := by
 unfold sAttr
 have k1 := ws_le t i
 have k2 := ws_le t (ws t i + 1)
 have k3 := sOp_le t (ws t (ws t i + 1))
 have k4 := fun h => sOp_far (t := t) (i := ws t (ws t i + 1)) h
 generalize sOp t (ws t (ws t i + 1)) = r at k3 k4
 have k5 := ws_le t r.2.2
 have k6 := ws_le t (ws t r.2.2 + 1)
 split
 ·exact ⟨by dsimp only; omega, by simp⟩
 have h1 := tk_lt (t := t) (i := ws t i) (by omega)
 split
 ·have := tk_lt (t := t) (i := ws t (ws t i + 1)) (by omega)
  exact ⟨by dsimp only; omega, fun _ => by dsimp only; omega⟩
 split
 ·exact ⟨by dsimp only; omega, by simp⟩
 have h3 := k4 (by simp_all)
 split
 ·exact ⟨by dsimp only; omega, by simp⟩
 ·exact sIs_far (by omega) (by omega) (fun _ => by omega)
theorem sNth_far {t : List Tok} {i : Nat} (hi : i ≤ t.length) : SFar t i (sNth t i).2.1 (sNth t i).2.2 := by
 unfold sNth
 have k1 := ws_le t i
 have k2 := ws_le t (ws t i + 1)
 split
 ·exact ⟨by dsimp only; omega, by simp⟩
 ·exact sIs_far (by omega) (by omega) (fun _ => by omega)
theorem sNested_far {b : Bool} {nest : SNest} {t : List Tok} (hU : ∀ a, a ≤ t.length → SFar t a (nest a).2.1 (nest a).2.2) {kind : Int} {i : Nat} (hi : i ≤ t.length) : SFar t i (sNested b nest t kind i).2.1 (sNested b nest t kind i).2.2 := by
 have hu := hU i hi
 unfold sNested
 split
 ·exact ⟨by dsimp only; omega, by simp⟩
 split
 ·rename_i h
  have := hu.ok h
  exact sIs_far (by omega) (by omega) (fun _ => by omega)
 ·exact ⟨hu.up, by simp⟩
theorem sPseudo_far {b : Bool} {nest : SNest} {t : List Tok} (hU : ∀ a, a ≤ t.length → SFar t a (nest a).2.1 (nest a).2.2) {i : Nat} (hi : i ≤ t.length) : SFar t i (sPseudo b nest t i).2.1 (sPseudo b nest t i).2.2 := by
 unfold sPseudo
 split
 ·have := tk_lt (t := t) (i := i) (by omega)
  exact ⟨by dsimp only; omega, fun _ => by dsimp only; omega⟩
 split
 ·exact ⟨by dsimp only; omega, by simp⟩
 have := tk_lt (t := t) (i := i) (by omega)
 split
 ·have := sNth_far (t := t) (i := i + 1) (by omega)
  exact ⟨this.up, fun h => by have := this.ok h; omega⟩
 split
 ·have := sNested_far (b := b) hU (kind := 7) (i := i + 1) (by omega)
  exact ⟨this.up, fun h => by have := this.ok h; omega⟩
 split
 ·have := sNested_far (b := b) hU (kind := 8) (i := i + 1) (by omega)
  exact ⟨this.up, fun h => by have := this.ok h; omega⟩
 ·exact ⟨by dsimp only; omega, by simp⟩
def sSimple (b : Bool) (nest : SNest) (t : List Tok) (i : Nat) (c : Cmp) : Cmp × Bool × Bool × Nat :=
 if (tk t i).kind = 3 then ({ c with ids := c.ids ++ [(tk t i).text] }, true, true, i + 1)
 else if isD t i 46 = true then ({ c with cls := c.cls ++ [(tk t (i + 1)).text] }, true, sIs t (i + 1) 1)
 else if (tk t i).kind = 18 then ({ c with atts := c.atts ++ [(sAttr t (i + 1)).1] }, true, (sAttr t (i + 1)).2)
 else if (tk t i).kind = 11 then ({ c with pss := c.pss ++ [(sPseudo b nest t (i + 1)).1] }, true, (sPseudo b nest t (i + 1)).2)
 else (c, false, true, i)
theorem sSimple_far {b : Bool} {nest : SNest} {t : List Tok} (hU : ∀ a, a ≤ t.length → SFar t a (nest a).2.1 (nest a).2.2) {i : Nat} (hi : i ≤ t.length) (c : Cmp) :
  SFar t i (sSimple b nest t i c).2.2.1 (sSimple b nest t i c).2.2.2 ∧ ((sSimple b nest t i c).2.1 = true → (sSimple b nest t i c).2.2.1 = true → i < (sSimple b nest t i c).2.2.2) := by
 unfold sSimple
 split
 ·have := tk_lt (t := t) (i := i) (by omega)
  exact ⟨⟨by dsimp only; omega, fun _ => by dsimp only; omega⟩, fun _ _ => by dsimp only; omega⟩
 split
 ·rename_i h
  have := isD_lt h
  have := sIs_far (t := t) (i := i + 1) (j := i + 1) (k := 1) (by omega) (by omega) (fun _ => Nat.le_refl _)
  exact ⟨⟨this.up, fun h => by have := this.ok h; dsimp only; omega⟩, fun _ h => by have := this.ok h; dsimp only; omega⟩
 split
 ·have := tk_lt (t := t) (i := i) (by omega)
  have := sAttr_far (t := t) (i := i + 1) (by omega)
  exact ⟨⟨this.up, fun h => by have := this.ok h; dsimp only; omega⟩, fun _ h => by have := this.ok h; dsimp only; omega⟩
 split
 ·have := tk_lt (t := t) (i := i) (by omega)
  have := sPseudo_far (b := b) hU (i := i + 1) (by omega)
  exact ⟨⟨this.up, fun h => by have := this.ok h; dsimp only; omega⟩, fun _ h => by have := this.ok h; dsimp only; omega⟩
 ·exact ⟨⟨by dsimp only; omega, fun _ => by dsimp only; omega⟩, fun h => by simp at h⟩
def sCmpRun (b : Bool) (nest : SNest) (t : List Tok) : Nat → Nat → Bool → Cmp → Cmp × Bool × Nat
 | 0, i, s, c => ({}, false, i)
 | f + 1, i, s, c =>
  if (sSimple b nest t i c).2.2.1 = false then ({}, false, (sSimple b nest t i c).2.2.2)
  else if (sSimple b nest t i c).2.1 = false then ((sSimple b nest t i c).1, s, (sSimple b nest t i c).2.2.2)
  else sCmpRun b nest t f (sSimple b nest t i c).2.2.2 true (sSimple b nest t i c).1
def sCmp (b : Bool) (nest : SNest) (t : List Tok) (i : Nat) : Cmp × Bool × Nat :=
 if (tk t i).kind = 1 then sCmpRun b nest t (t.length + 2) (i + 1) true { tag := lower (tk t i).text }
 else sCmpRun b nest t (t.length + 2) (sSign t i 42).2 (sSign t i 42).1 {}
theorem sCmpRun_fuel {b : Bool} {nest : SNest} {t : List Tok} (hU : ∀ a, a ≤ t.length → SFar t a (nest a).2.1 (nest a).2.2) : ∀ (f g i : Nat) (s : Bool) (c : Cmp), i ≤ t.length → t.length - i < f → t.length - i < g → sCmpRun b nest t f i s c = sCmpRun b nest t g i s c
 | 0, _, _, _, _, _, h, _ => by omega
 | f + 1, 0, _, _, _, _, _, h => by omega
 | f + 1, g + 1, i, s, c, hi, h1, h2 => by
  obtain ⟨hs1, hs2⟩ := sSimple_far (b := b) hU hi c
  unfold sCmpRun
  split
  ·rfl
  split
  ·rfl
  ·rename_i g1 g2
   have := hs2 (by simpa using g2) (by simpa using g1)
   have := hs1.ok (by simpa using g1)
   exact sCmpRun_fuel hU f g _ _ _ (by omega) (by omega) (by omega)
theorem sCmpRun_far {b : Bool} {nest : SNest} {t : List Tok} (hU : ∀ a, a ≤ t.length → SFar t a (nest a).2.1 (nest a).2.2) : ∀ (f i : Nat) (s : Bool) (c : Cmp), i ≤ t.length → SFar t i (sCmpRun b nest t f i s c).2.1 (sCmpRun b nest t f i s c).2.2 ∧ ((sCmpRun b nest t f i s c).2.1 = true → s = false → i < (sCmpRun b nest t f i s c).2.2)
 | 0, i, s, c, hi => ⟨⟨by unfold sCmpRun; dsimp only; omega, by simp [sCmpRun]⟩, by simp [sCmpRun]⟩
 | f + 1, i, s, c, hi => by
  obtain ⟨hs1, hs2⟩ := sSimple_far (b := b) hU hi c
  unfold sCmpRun
  split
  ·exact ⟨⟨hs1.up, by simp⟩, by simp⟩
  rename_i g1
  have h3 := hs1.ok (by simpa using g1)
  split
  ·exact ⟨⟨hs1.up, fun _ => h3⟩, fun h h' => by simp [h'] at h⟩
  ·rename_i g2
   have := hs2 (by simpa using g2) (by simpa using g1)
   obtain ⟨k1, k2⟩ := sCmpRun_far hU f (sSimple b nest t i c).2.2.2 true (sSimple b nest t i c).1 h3.2
   exact ⟨⟨k1.up, fun h => by have := k1.ok h; omega⟩, fun h _ => by have := k1.ok h; omega⟩
theorem sCmp_far {b : Bool} {nest : SNest} {t : List Tok} (hU : ∀ a, a ≤ t.length → SFar t a (nest a).2.1 (nest a).2.2) {i : Nat} (hi : i ≤ t.length) : SFar t (i + 1) (sCmp b nest t i).2.1 (sCmp b nest t i).2.2 := by
 unfold sCmp
 split
 ·have := tk_lt (t := t) (i := i) (by omega)
  exact (sCmpRun_far hU _ _ _ _ (by omega)).1
 ·unfold sSign
  split
  ·rename_i h
   have := isD_lt h
   exact (sCmpRun_far hU _ _ _ _ (by omega)).1
  ·obtain ⟨k1, k2⟩ := sCmpRun_far (b := b) hU (t.length + 2) i false {} hi
   exact ⟨k1.up, fun h => by have := k1.ok h; have := k2 h rfl; dsimp only at *; omega⟩
theorem Fin.simp {c : Cmp} {m k : Bool} {t : List Tok} {p : Int} {q : Int} {more : Hp} {n : Nat} {r1 r2 r3 r4 : List (List F)} {g : List UInt8} {R : D → Hp → Prop} (hn : 4 ≤ n) (a : Nat) (h0 : g = c.tag) (h1 : r1 = strs c.ids) (h2 : r2 = strs c.cls) (h3 : r3 = c.atts.map Att.row) (h4 : r4 = c.pss.map Psd.row) (hp : p = a)
  (hR : R (.tup [bool m, bool k]) [some (srd t a q), some c.own]) :
  Fin (.tup [bool m, bool k]) (some [.f (.sl (toksF t)), int p, int q] :: some [.str ⟨g.toArray⟩, .own 0 9 1 r1, .own 1 9 1 r2, .own 2 103 3 r3, .own 3 105 4 r4] :: more) n 2 4 R := by
 subst h0 h1 h2 h3 h4 hp
 refine Fin.mk (.tup [bool m, bool k]) [some (srd t a q), some c.own] hR rfl ⟨?_, ?_⟩
 ·exact ⟨⟨rfl, rfl, rfl⟩, rfl⟩
 ·refine ⟨⟨rfl, rfl, rfl, rfl⟩, ⟨rfl, ⟨rfl, ?_⟩, ⟨rfl, ?_⟩, ⟨rfl, ?_⟩, ⟨rfl, ?_⟩, rfl⟩, ?_⟩
  ·decide
  ·decide
  ·decide
  ·decide
  ·unfold intoH; cases more <;> trivial
structure CmpSz (c : Cmp) (n : Nat) : Prop where
 ids : c.ids.length ≤ n
 cls : c.cls.length ≤ n
 atts : c.atts.length ≤ n
 pss : c.pss.length ≤ n
theorem sSimple_sz {b : Bool} {nest : SNest} {t : List Tok} {i n : Nat} {c : Cmp} (h : CmpSz c n) : CmpSz (sSimple b nest t i c).1 (n + 1) := by
 obtain ⟨h1, h2, h3, h4⟩ := h
 unfold sSimple
 repeat' split
 all_goals (refine ⟨?_, ?_, ?_, ?_⟩ <;> dsimp only <;> (try rw [List.length_append]) <;> (try simp only [List.length_cons, List.length_nil]) <;> omega)
set_option maxHeartbeats 4000000 in
theorem ssimple_spec {nest : SNest} {t : List Tok} (hf : Fit t) {q : Int} (hq : 0 ≤ q ∧ q ≤ 8) (hU : ∀ a, a ≤ t.length → SFar t a (nest a).2.1 (nest a).2.2) (hN : q < 8 → SListOk nest t (q + 1)) (a : Nat) (ha : a ≤ t.length) (c : Cmp) (hz : CmpSz c 1000000000) :
  Spec P 119 [.ptr 0 0, .ptr 1 0] [some (srd t a q), some c.own] 4 (fun d H => d = .tup [bool (sSimple (decide (q = 8)) nest t a c).2.1, bool (sSimple (decide (q = 8)) nest t a c).2.2.1] ∧ H = [some (srd t (sSimple (decide (q = 8)) nest t a c).2.2.2 q), some (sSimple (decide (q = 8)) nest t a c).1.own]) := by
 refine spec_mk tab_ok Tryz.func119 (by rfl) rfl ?_
 have hl := hf.len
 obtain ⟨z1, z2, z3, z4⟩ := hz
 have l1 := strs_length c.ids
 have l2 := strs_length c.cls
 have l3 : (c.atts.map Att.row).length = c.atts.length := List.length_map ..
 have l4 : (c.pss.map Psd.row).length = c.pss.length := List.length_map ..
 have hlt := tk_or t a
 have b3 := sis_spec t (by omega) a q (by omega) 3
 have g46 := ssign_spec t (by omega) a q (by omega) 46
 have b18 := sis_spec t (by omega) a q (by omega) 18
 have b11 := sis_spec t (by omega) a q (by omega) 11
 have s0 := sat_at t (by omega) a q (by omega) 0 a (by omega) (by omega) (by omega)
 unfold sSign at g46
 unfold sSimple
 by_cases c3 : (tk t a).kind = 3
 ·rw [sIs_of c3] at b3
  rw [if_pos c3]
  conv => whnf
  repeat' ((first | refine Case.yes ?_ | refine s0.call ⟨⟨rfl, rfl, rfl, trivial⟩, rfl, rfl⟩ ?_ | refine b3.call ?_ | (refine Owes.mk (by first | (dsimp only [List.length]; omega) | (simp only [List.length_cons, List.length_nil]; omega)) ?_) | (refine step_kinds 2 ?hk ?_; (case hk => decide +kernel))); conv => whnf)
  refine Fin.simp (c := { c with ids := c.ids ++ [(tk t a).text] }) (by decide) (a + 1) rfl ?_ rfl rfl rfl rfl ⟨rfl, rfl⟩
  simp [strs]
 rw [sIs_ne c3] at b3
 rw [if_neg c3]
 by_cases c46 : isD t a 46 = true
 ·rw [if_pos c46] at g46 ⊢
  have := isD_lt c46
  have b1 := sis_spec t (by omega) (a + 1) q (by omega) 1
  have s1 := sat_at t (by omega) (a + 1) q (by omega) 0 (a + 1) (by omega) (by omega) (by omega)
  conv => whnf
  repeat' ((first | refine Case.yes ?_ | refine Case.no ?_ | refine s0.call ⟨⟨rfl, rfl, rfl, trivial⟩, rfl, rfl⟩ ?_ | refine b3.call ?_ | refine g46.call ?_ | refine s1.callB ⟨⟨rfl, rfl, rfl, trivial⟩, rfl, rfl⟩ ?_ | refine b1.call ?_ | (refine Owes.mk (by first | (dsimp only [List.length]; omega) | (simp only [List.length_cons, List.length_nil]; omega)) ?_) | (refine step_kinds 2 ?hk ?_; (case hk => decide +kernel))); conv => whnf)
  refine Fin.simp (c := { c with cls := c.cls ++ [(tk t (a + 1)).text] }) (by decide) _ rfl rfl ?_ rfl rfl rfl ⟨rfl, rfl⟩
  simp [strs]
 rw [if_neg c46] at g46 ⊢
 by_cases c18 : (tk t a).kind = 18
 ·rw [sIs_of c18] at b18
  rw [if_pos c18]
  have hsp := sattr_spec hf (a + 1) q (by omega)
  conv => whnf
  repeat' ((first | refine Case.yes ?_ | refine Case.no ?_ | refine s0.call ⟨⟨rfl, rfl, rfl, trivial⟩, rfl, rfl⟩ ?_ | refine b3.call ?_ | refine g46.call ?_ | refine b18.call ?_ | refine hsp.call ?_ | (refine Owes.mk (by first | (dsimp only [List.length]; omega) | (simp only [List.length_cons, List.length_nil]; omega)) ?_) | (refine step_kinds 2 ?hk ?_; (case hk => decide +kernel))); conv => whnf)
  refine Fin.simp (c := { c with atts := c.atts ++ [(sAttr t (a + 1)).1] }) (by decide) _ rfl rfl rfl ?_ rfl rfl ⟨rfl, rfl⟩
  simp [Att.row]
 rw [sIs_ne c18] at b18
 rw [if_neg c18]
 by_cases c11 : (tk t a).kind = 11
 ·rw [sIs_of c11] at b11
  rw [if_pos c11]
  have hsp := spseudo_spec hf hq (fun a ha => (hU a ha).up) hN (a + 1) (by omega)
  conv => whnf
  repeat' ((first | refine Case.yes ?_ | refine Case.no ?_ | refine s0.call ⟨⟨rfl, rfl, rfl, trivial⟩, rfl, rfl⟩ ?_ | refine b3.call ?_ | refine g46.call ?_ | refine b18.call ?_ | refine b11.call ?_ | refine hsp.call ?_ | (refine Owes.mk (by first | (dsimp only [List.length]; omega) | (simp only [List.length_cons, List.length_nil]; omega)) ?_) | (refine step_kinds 2 ?hk ?_; (case hk => decide +kernel))); conv => whnf)
  refine Fin.simp (c := { c with pss := c.pss ++ [(sPseudo (decide (q = 8)) nest t (a + 1)).1] }) (by decide) _ rfl rfl rfl rfl ?_ rfl ⟨rfl, rfl⟩
  simp [Psd.row]
 rw [sIs_ne c11] at b11
 rw [if_neg c11]
 conv => whnf
 repeat' ((first | refine Case.no ?_ | refine s0.call ⟨⟨rfl, rfl, rfl, trivial⟩, rfl, rfl⟩ ?_ | refine b3.call ?_ | refine g46.call ?_ | refine b18.call ?_ | refine b11.call ?_); conv => whnf)
 refine Fin.simp (by decide) a rfl rfl rfl rfl rfl rfl ⟨rfl, rfl⟩
theorem simple_call {c c' : Cmp} {m k : Bool} {t : List Tok} {a p : Nat} {q : Int} {E : List D} {K : KD}
  (h : Spec P 119 [.ptr 0 0, .ptr 1 0] [some (srd t a q), some c.own] 4 (fun d H => d = .tup [bool m, bool k] ∧ H = [some (srd t p q), some c'.own]))
  (hk : killsK [0, 1, 2, 3] E fun E => K (.tup [bool m, bool k]) E [some (srd t p q), some [.junk, .junk, .junk, .junk, .junk], some c'.own] 4) :
  Call P 119 [.ptr 0 0, .ptr 2 0] E [some (srd t a q), some [.junk, .junk, .junk, .junk, .junk], some c.own] 4 K := by
 rw [killsK_eq] at hk
 refine call_gen («as» := [.ptr 0 0, .ptr 1 0]) [0, 2] [0, 1, 2, 3] h (by decide) (by decide) (by simp) (by simp) ?_ ?_ ?_
 ·exact ⟨⟨rfl, ⟨trivial, trivial, trivial, trivial⟩⟩, ⟨rfl, ⟨trivial, Nat.zero_lt_succ _, by show 1 < 4; decide, by show 2 < 4; decide, by show 3 < 4; decide, trivial⟩⟩, trivial⟩
 ·exact ⟨Nat.zero_lt_succ _, by show 1 < 2; decide, trivial⟩
 ·rintro d Hs' ⟨rfl, rfl⟩ _
  exact hk
structure SCmpI (b : Bool) (nest : SNest) (t : List Tok) (a : Nat) (s : Cmp × Nat × Bool × Nat) : Prop where
 le : s.2.1 ≤ t.length
 n : s.2.2.2 ≤ s.2.1
 sz : CmpSz s.1 s.2.2.2
 run : ∀ f, t.length - s.2.1 < f → sCmpRun b nest t f s.2.1 s.2.2.1 s.1 = sCmp b nest t a
theorem Fin.scmp {c : Cmp} {k : Bool} {t : List Tok} {p : Int} {q : Int} {more : Hp} {R : D → Hp → Prop} (a : Nat) (hp : p = a) (hR : R (.tup [c.d, bool k]) [some (srd t a q)]) : Fin (.tup [.agg c.own, bool k]) (some [.f (.sl (toksF t)), int p, int q] :: more) 4 1 0 R := by
 refine Fin.frz 0 (Fin.frz 1 (Fin.frz 2 (Fin.frz 3 ?_)))
 refine Fin.sk (d' := .tup [c.d, bool k]) a ?_ hp rfl hR
 repeat' first | exact rfl | exact trivial | apply And.intro
set_option maxHeartbeats 4000000 in
theorem scmp_spec {nest : SNest} {t : List Tok} (hf : Fit t) {q : Int} (hq : 0 ≤ q ∧ q ≤ 8) (hU : ∀ a, a ≤ t.length → SFar t a (nest a).2.1 (nest a).2.2) (hN : q < 8 → SListOk nest t (q + 1)) (a : Nat) (ha : a ≤ t.length) :
  SMeth 95 [] t a q (.tup [(sCmp (decide (q = 8)) nest t a).1.d, bool (sCmp (decide (q = 8)) nest t a).2.1]) (sCmp (decide (q = 8)) nest t a).2.2 := by
 refine ⟨trivial, ⟨⟨trivial, trivial, trivial, trivial, trivial, trivial⟩, trivial, trivial⟩, spec_mk tab_ok Tryz.func95 (by rfl) rfl ?_⟩
 have hl := hf.len
 have hlt := tk_or t a
 have s0 := sat_at t (by omega) a q (by omega) 0 a (by omega) (by omega) (by omega)
 have b1 := sis_spec t (by omega) a q (by omega) 1
 have g42 := ssign_spec t (by omega) a q (by omega) 42
 have hlg := fun h => isD_lt (t := t) (i := a) (c := 42) h
 by_cases c1 : (tk t a).kind = 1
 ·have e0 : sCmp (decide (q = 8)) nest t a = sCmpRun (decide (q = 8)) nest t (t.length + 2) (a + 1) true { tag := lower (tk t a).text } := if_pos c1
  rw [sIs_of c1] at b1
  conv => whnf
  repeat' ((first | refine Case.yes ?_ | refine s0.call ⟨⟨rfl, rfl, rfl, trivial⟩, rfl, rfl⟩ ?_ | refine b1.call ?_ | refine (lowerP_spec _ (hf.text _)).call ⟨rfl, rfl⟩ ?_); conv => whnf)
  refine step_loop tab_ok (fun s : Cmp × Nat × Bool × Nat => padK [.ptr 0 0, .junk, .ptr 1 0, .junk, .ptr 2 0, .junk, bool s.2.2.1] 32) (fun s => [some (srd t s.2.1 q), some [.junk, .junk, .junk, .junk, .junk], some s.1.own]) 4 (SCmpI (decide (q = 8)) nest t a) (fun s => t.length - s.2.1) ({ tag := lower (tk t a).text }, (a + 1), true, 0) ⟨by dsimp only; omega, by dsimp only; omega, ⟨by simp, by simp, by simp, by simp⟩, fun f hf => by dsimp only at hf ⊢; rw [e0]; exact sCmpRun_fuel hU _ _ _ _ _ (by omega) hf (by omega)⟩ (fun _ => rfl) ?_ ?_
  ·
   repeat' first | exact trivial | exact rfl | exact Nat.zero_le _ | exact Nat.zero_lt_succ _ | exact (by decide : 1 < 4) | exact (by decide : 2 < 4) | exact (by decide : 3 < 4) | exact (by decide : 2 < 3) | (show _ < List.length _; simp; done) | apply And.intro
  ·rintro ⟨c, i, s, n⟩ ⟨h1, h2, h3, h4⟩
   simp only at h1 h2 h3 h4
   have e1 := h4 (t.length - i + 1) (by omega)
   rw [sCmpRun] at e1
   have hsp := ssimple_spec hf hq hU hN i (by omega) c ⟨by have := h3.ids; omega, by have := h3.cls; omega, by have := h3.atts; omega, by have := h3.pss; omega⟩
   have hsz := sSimple_sz (b := decide (q = 8)) (nest := nest) (t := t) (i := i) h3
   obtain ⟨hs1, hs2⟩ := sSimple_far (b := decide (q = 8)) hU (by omega : i ≤ t.length) c
   rcases hr : sSimple (decide (q = 8)) nest t i c with ⟨c', m, k, p⟩
   simp only [hr] at e1 hsp hsz hs1 hs2
   have hup := hs1.up
   cases k with
   | false =>
    rw [if_pos rfl] at e1
    rw [← e1]
    conv => whnf
    repeat' ((first | refine Case.not ?_ | refine Case.no ?_ | refine simple_call hsp ?_); conv => whnf)
    refine Fin.sk p ?_ rfl rfl ⟨rfl, rfl⟩
    exact ⟨⟨rfl, rfl, rfl, rfl, rfl, rfl⟩, rfl, rfl⟩
   | true =>
    have hok := hs1.ok rfl
    rw [if_neg (by simp)] at e1
    cases m with
    | false =>
     rw [if_pos rfl] at e1
     rw [← e1]
     conv => whnf
     repeat' ((first | refine Case.not ?_ | refine Case.yes ?_ | refine Case.no ?_ | refine simple_call hsp ?_); conv => whnf)
     exact Fin.scmp p rfl ⟨rfl, rfl⟩
    | true =>
     have hgt := hs2 rfl rfl
     rw [if_neg (by simp)] at e1
     conv => whnf
     repeat' ((first | refine Case.not ?_ | refine Case.yes ?_ | refine simple_call hsp ?_); conv => whnf)
     refine ⟨(c', p, true, n + 1), ⟨by dsimp only; omega, by dsimp only; omega, hsz, fun f hf => ?_⟩, by dsimp only; omega, ?_⟩
     ·dsimp only at hf ⊢
      rw [← e1]
      exact sCmpRun_fuel hU _ _ _ _ _ (by omega) hf (by omega)
     ·
      repeat' first | exact trivial | exact rfl | exact Nat.zero_lt_succ _ | exact (by decide : 1 < 4) | exact (by decide : 2 < 4) | exact (by decide : 3 < 4) | exact (by decide : 2 < 3) | (show _ < List.length _; simp; done) | apply And.intro
 ·have e0 : sCmp (decide (q = 8)) nest t a = sCmpRun (decide (q = 8)) nest t (t.length + 2) (sSign t a 42).2 (sSign t a 42).1 {} := if_neg c1
  rw [sIs_ne c1] at b1
  have hsz : (sSign t a 42).2 ≤ t.length := by unfold sSign; split <;> (try have := hlg (by assumption)) <;> dsimp only <;> omega
  conv => whnf
  repeat' ((first | refine Case.no ?_ | refine s0.call ⟨⟨rfl, rfl, rfl, trivial⟩, rfl, rfl⟩ ?_ | refine b1.call ?_ | refine g42.call ?_); conv => whnf)
  refine step_loop tab_ok (fun s : Cmp × Nat × Bool × Nat => padK [.ptr 0 0, .junk, .ptr 1 0, .junk, .ptr 2 0, .junk, bool s.2.2.1] 32) (fun s => [some (srd t s.2.1 q), some [.junk, .junk, .junk, .junk, .junk], some s.1.own]) 4 (SCmpI (decide (q = 8)) nest t a) (fun s => t.length - s.2.1) ({}, (sSign t a 42).2, (sSign t a 42).1, 0) ⟨by dsimp only; omega, by dsimp only; omega, ⟨by simp, by simp, by simp, by simp⟩, fun f hf => by dsimp only at hf ⊢; rw [e0]; exact sCmpRun_fuel hU _ _ _ _ _ (by omega) hf (by omega)⟩ (fun _ => rfl) ?_ ?_
  ·
   repeat' first | exact trivial | exact rfl | exact Nat.zero_le _ | exact Nat.zero_lt_succ _ | exact (by decide : 1 < 4) | exact (by decide : 2 < 4) | exact (by decide : 3 < 4) | exact (by decide : 2 < 3) | (show _ < List.length _; simp; done) | apply And.intro
  ·rintro ⟨c, i, s, n⟩ ⟨h1, h2, h3, h4⟩
   simp only at h1 h2 h3 h4
   have e1 := h4 (t.length - i + 1) (by omega)
   rw [sCmpRun] at e1
   have hsp := ssimple_spec hf hq hU hN i (by omega) c ⟨by have := h3.ids; omega, by have := h3.cls; omega, by have := h3.atts; omega, by have := h3.pss; omega⟩
   have hsz := sSimple_sz (b := decide (q = 8)) (nest := nest) (t := t) (i := i) h3
   obtain ⟨hs1, hs2⟩ := sSimple_far (b := decide (q = 8)) hU (by omega : i ≤ t.length) c
   rcases hr : sSimple (decide (q = 8)) nest t i c with ⟨c', m, k, p⟩
   simp only [hr] at e1 hsp hsz hs1 hs2
   have hup := hs1.up
   cases k with
   | false =>
    rw [if_pos rfl] at e1
    rw [← e1]
    conv => whnf
    repeat' ((first | refine Case.not ?_ | refine Case.no ?_ | refine simple_call hsp ?_); conv => whnf)
    refine Fin.sk p ?_ rfl rfl ⟨rfl, rfl⟩
    exact ⟨⟨rfl, rfl, rfl, rfl, rfl, rfl⟩, rfl, rfl⟩
   | true =>
    have hok := hs1.ok rfl
    rw [if_neg (by simp)] at e1
    cases m with
    | false =>
     rw [if_pos rfl] at e1
     rw [← e1]
     conv => whnf
     repeat' ((first | refine Case.not ?_ | refine Case.yes ?_ | refine Case.no ?_ | refine simple_call hsp ?_); conv => whnf)
     exact Fin.scmp p rfl ⟨rfl, rfl⟩
    | true =>
     have hgt := hs2 rfl rfl
     rw [if_neg (by simp)] at e1
     conv => whnf
     repeat' ((first | refine Case.not ?_ | refine Case.yes ?_ | refine simple_call hsp ?_); conv => whnf)
     refine ⟨(c', p, true, n + 1), ⟨by dsimp only; omega, by dsimp only; omega, hsz, fun f hf => ?_⟩, by dsimp only; omega, ?_⟩
     ·dsimp only at hf ⊢
      rw [← e1]
      exact sCmpRun_fuel hU _ _ _ _ _ (by omega) hf (by omega)
     ·
      repeat' first | exact trivial | exact rfl | exact Nat.zero_lt_succ _ | exact (by decide : 1 < 4) | exact (by decide : 2 < 4) | exact (by decide : 3 < 4) | exact (by decide : 2 < 3) | (show _ < List.length _; simp; done) | apply And.intro
theorem rSelRun_fuel {nest : Nest} {t : List Tok} (hF : ∀ i, i ≤ t.length → Far t i (nest i).2.1 (nest i).2.2) : ∀ (f g i : Nat) (cb : Int) (ps : Selr), i ≤ t.length → t.length - i < f → t.length - i < g → rSelRun nest t f i cb ps = rSelRun nest t g i cb ps
 | 0, _, _, _, _, _, h, _ => by omega
 | f + 1, 0, _, _, _, _, _, h => by omega
 | f + 1, g + 1, i, cb, ps, hi, h1, h2 => by
  have hc := rCmp_far hF hi
  have k1 := ws_le t (rCmp nest t i).2.1
  have k2 := ws_le t (ws t (rCmp nest t i).2.1 + 1)
  unfold rSelRun
  split
  ·rfl
  rename_i hb
  have hb := hc.ok (by simpa using hb)
  split
  ·rename_i h
   have := pcomb_lt h
   exact rSelRun_fuel hF f g _ _ _ (by omega) (by omega) (by omega)
  split
  ·rfl
  split
  ·rfl
  ·exact rSelRun_fuel hF f g _ _ _ (by omega) (by omega) (by omega)
theorem rListRun_fuel {nest : Nest} {t : List Tok} (hF : ∀ i, i ≤ t.length → Far t i (nest i).2.1 (nest i).2.2) (q : Int) : ∀ (f g i : Nat) (out : List Selr), i ≤ t.length → t.length - i < f → t.length - i < g → rListRun nest t q f i out = rListRun nest t q g i out
 | 0, _, _, _, _, h, _ => by omega
 | f + 1, 0, _, _, _, _, h => by omega
 | f + 1, g + 1, i, out, hi, h1, h2 => by
  have k1 := ws_le t i
  have hc := rSelRun_far hF (t.length + 1) (ws t i) 0 [] (by omega)
  rw [← rSel] at hc
  unfold rListRun
  split
  ·rfl
  rename_i hb
  have hb := hc.ok (by simpa using hb)
  split
  ·have := tk_lt (t := t) (i := (rSel nest t (ws t i)).2.1) (by omega)
   exact rListRun_fuel hF q f g _ _ (by omega) (by omega) (by omega)
  ·rfl
abbrev partsO (ps : Selr) : D := .own 0 41 6 (ps.map partRow)
structure SelI (nest : Nest) (t : List Tok) (a : Nat) (s : Nat × Int × Selr) : Prop where
 le : s.1 ≤ t.length
 sz : s.2.2.length ≤ s.1
 run : ∀ f, t.length - s.1 < f → rSelRun nest t f s.1 s.2.1 s.2.2 = rSel nest t a
theorem Fin.selr {ps : Selr} {t : List Tok} {p : Int} {b b' : Bool} {q q' : Int} {more : Hp} {n : Nat} {R : D → Hp → Prop} {rows : List (List F)} (a : Nat) (hr : rows = ps.map partRow) (hp : p = a) (hb : b = b') (hq : q = q') (hR : R (.agg [.f (.sl (ps.map partRow))]) [some (pkr t a b' q')]) : Fin (.agg [.own 0 41 6 rows]) (some [.f (.sl (toksF t)), int p, bool b, int q] :: more) n 1 0 R := by
 subst hr
 refine Fin.frz 0 ?_
 refine Fin.pkc (d' := .agg [.f (.sl (ps.map partRow))]) a ?_ hp hb hq hR
 repeat' first | exact rfl | exact trivial | apply And.intro
set_option maxHeartbeats 4000000 in
theorem rsel_spec {nest : Nest} {t : List Tok} (hf : Fit t) {q : Int} (hF : ∀ i, i ≤ t.length → Far t i (nest i).2.1 (nest i).2.2) (hN : InnerOk nest t q) (a : Nat) (ha : a ≤ t.length) : PMeth 85 t a false q (.agg [.f (.sl ((rSel nest t a).1.map partRow))]) (rSel nest t a).2.1 (rSel nest t a).2.2 := by
 refine ⟨⟨trivial, trivial⟩, spec_mk tab_ok Tryz.func85 (by rfl) rfl ?_⟩
 have hl := hf.len
 conv => whnf
 refine step_loop tab_ok (fun s : Nat × Int × Selr => padK [.ptr 0 0, .junk, .ptr 1 0, .ptr 2 0, int s.2.1] 54) (fun s => [some (pkr t s.1 false q), some [.junk], some [partsO s.2.2]]) 1 (SelI nest t a) (fun s => t.length - s.1) (a, 0, []) ⟨ha, by simp, fun f hf => rSelRun_fuel hF _ _ _ _ _ ha hf (by dsimp only at hf ⊢; omega)⟩ (fun _ => rfl) ?_ ?_
 ·
  repeat' first | exact trivial | exact rfl | exact Nat.zero_le _ | exact Nat.zero_lt_succ _ | exact (by decide : 2 < 3) | (show _ < List.length _; simp; done) | apply And.intro
 ·rintro ⟨i, cb, ps⟩ ⟨h1, h2, h3⟩
  simp only at h1 h2 h3
  have e1 := h3 (t.length - i + 1) (by omega)
  rw [rSelRun] at e1
  have hfar := rCmp_far hF h1
  have hsp := rcmp_spec hf hF hN i h1
  have k1 := ws_le t (rCmp nest t i).2.1
  have k2 := ws_le t (ws t (rCmp nest t i).2.1 + 1)
  have l1 : (ps.map partRow).length = ps.length := List.length_map ..
  rcases hr : rCmp nest t i with ⟨c, p, b⟩
  simp only [hr] at e1 hfar hsp k1 k2
  have hup := hfar.up
  have er : ps.map partRow ++ [partRow (cb, c)] = (ps ++ [(cb, c)]).map partRow := by simp
  cases b with
  | true =>
   rw [if_pos rfl] at e1
   conv => whnf
   repeat' ((first | refine Case.not ?_ | refine Case.yes ?_ | refine Case.no ?_ | refine hsp.call ?_ | (refine Owes.mk (by first | (dsimp only [List.length]; omega) | (simp only [List.length_cons, List.length_nil]; omega)) ?_)); conv => whnf)
   rw [← e1]
   refine Fin.selr (ps := ps ++ [(cb, c)]) p er rfl rfl rfl ?_
   exact ⟨rfl, rfl⟩
  | false =>
   have hok := hfar.ok rfl
   rw [if_neg (by simp)] at e1
   conv => whnf
   repeat' first | ((first | refine Case.not ?_ | refine Case.no ?_ | refine hsp.call ?_ | (refine Owes.mk (by first | (dsimp only [List.length]; omega) | (simp only [List.length_cons, List.length_nil]; omega)) ?_) | refine (pwhite_spec t (by omega) p false q (by omega)).call ?_ | refine (pcomb_spec t (by omega) (ws t p) false q (by omega)).call ⟨⟨rfl, rfl, rfl, rfl, trivial⟩, rfl⟩ ?_ | refine (pwhite_spec t (by omega) (ws t p + 1) false q (by omega)).call ?_ | refine (pends_spec t (by omega) (ws t p) false q (by omega)).call ⟨⟨rfl, rfl, rfl, rfl, trivial⟩, rfl⟩ ?_ | refine Num.id (by omega) (by omega) ?_); conv => whnf) | (refine Case.dec (fun _ => ?_) (fun _ => ?_) <;> conv => whnf) | (refine Case.mk (fun _ => ?_) (fun _ => ?_) <;> conv => whnf)
   ·have hlt := pcomb_lt (by assumption : 0 < pcomb t (ws t p))
    rw [if_pos (by assumption)] at e1
    refine ⟨(ws t (ws t p + 1), pcomb t (ws t p), ps ++ [(cb, c)]), ⟨by dsimp only; omega, by dsimp only; rw [List.length_append]; simp; omega, fun f hf => ?_⟩, by dsimp only; omega, ?_⟩
    ·dsimp only at hf ⊢
     rw [← e1]
     exact rSelRun_fuel hF _ _ _ _ _ (by omega) hf (by omega)
    ·
     repeat' first | exact trivial | exact rfl | exact Nat.zero_lt_succ _ | exact (by decide : 2 < 3) | exact congrArg (D.own _ _ _) (by simp [partRow]; done) | (show _ < List.length _; simp; done) | apply And.intro
   ·rw [if_neg (by assumption), if_pos (by assumption)] at e1
    rw [← e1]
    refine Fin.selr (ps := ps ++ [(cb, c)]) (ws t p) er rfl rfl rfl ?_
    exact ⟨rfl, rfl⟩
   ·rw [if_neg (by assumption), if_neg (by simp [*]), if_neg (by omega)] at e1
    refine ⟨(ws t p, 1, ps ++ [(cb, c)]), ⟨by dsimp only; omega, by dsimp only; rw [List.length_append]; simp; omega, fun f hf => ?_⟩, by dsimp only; omega, ?_⟩
    ·dsimp only at hf ⊢
     rw [← e1]
     exact rSelRun_fuel hF _ _ _ _ _ (by omega) hf (by omega)
    ·
     repeat' first | exact trivial | exact rfl | exact Nat.zero_lt_succ _ | exact (by decide : 2 < 3) | exact congrArg (D.own _ _ _) (by simp [partRow]; done) | (show _ < List.length _; simp; done) | apply And.intro
   ·rw [if_neg (by assumption), if_neg (by simp [*]), if_pos (by omega)] at e1
    rw [← e1]
    refine Fin.selr (ps := ps ++ [(cb, c)]) (ws t p) er rfl rfl rfl ?_
    exact ⟨rfl, rfl⟩
abbrev selsO (l : List Selr) : D := .own 0 34 1 (l.map selRow)
structure ListI (nest : Nest) (t : List Tok) (q : Int) (a : Nat) (s : Nat × Bool × List Selr) : Prop where
 up : s.1 ≤ t.length + 4
 le : s.2.1 = false → s.1 ≤ t.length ∧ s.2.2.length ≤ s.1
 run : s.2.1 = false → ∀ f, t.length - s.1 < f → rListRun nest t q f s.1 s.2.2 = rList nest t q a
 bad : s.2.1 = true → rList nest t q a = ([], s.1, true)
theorem Fin.sels {l : List Selr} {rows : List (List F)} {t : List Tok} {p : Int} {b b' : Bool} {q q' : Int} {more : Hp} {n : Nat} {R : D → Hp → Prop} (a : Nat) (hr : rows = l.map selRow) (hp : p = a) (hb : b = b') (hq : q = q') (hR : R (.f (.sl (l.map selRow))) [some (pkr t a b' q')]) : Fin (.own 0 34 1 rows) (some [.f (.sl (toksF t)), int p, bool b, int q] :: more) n 1 0 R := by
 subst hr
 refine Fin.frz 0 ?_
 refine Fin.pkc (d' := .f (.sl (l.map selRow))) a ?_ hp hb hq hR
 exact rfl
set_option maxHeartbeats 4000000 in
theorem rlist_spec {nest : Nest} {t : List Tok} (hf : Fit t) {q : Int} (hq : 0 ≤ q ∧ q < 1000) (hF : ∀ i, i ≤ t.length → Far t i (nest i).2.1 (nest i).2.2) (hN : InnerOk nest t q) (a : Nat) (ha : a ≤ t.length) : PMeth 51 t a false q (.f (.sl ((rList nest t q a).1.map selRow))) (rList nest t q a).2.1 (rList nest t q a).2.2 := by
 refine ⟨trivial, spec_mk tab_ok Tryz.func51 (by rfl) rfl ?_⟩
 have hl := hf.len
 conv => whnf
 refine step_loop tab_ok (fun s : Nat × Bool × List Selr => padK [.ptr 0 0, .junk, .junk, selsO s.2.2] 71) (fun s => [some (pkr t s.1 s.2.1 q)]) 1 (ListI nest t q a) (fun s => if s.2.1 = true then 0 else t.length + 1 - s.1) (a, false, []) ⟨by dsimp only; omega, fun _ => ⟨ha, by simp⟩, fun _ f hf => rListRun_fuel hF q _ _ _ _ ha hf (by dsimp only at hf ⊢; omega), fun h => by simp at h⟩ (fun _ => rfl) ?_ ?_
 ·
  repeat' first | exact trivial | exact rfl | exact Nat.zero_le _ | exact Nat.zero_lt_succ _ | apply And.intro
 ·rintro ⟨i, b, out⟩ ⟨h1, h2, h3, h4⟩
  simp only at h1 h2 h3 h4
  cases b with
  | true =>
   have h4 := h4 rfl
   conv => whnf
   repeat' ((first | refine Case.not ?_ | refine Case.yes ?_); conv => whnf)
   rw [h4]
   refine Fin.pkc i ?_ rfl rfl rfl ⟨rfl, rfl⟩
   exact rfl
  | false =>
   obtain ⟨h2, h5⟩ := h2 rfl
   have h3 := h3 rfl
   clear h4
   have e1 := h3 (t.length - i + 1) (by omega)
   rw [rListRun] at e1
   have k1 := ws_le t i
   have hfar := rSelRun_far hF (t.length + 1) (ws t i) 0 [] (by omega)
   rw [← rSel] at hfar
   have hsp := rsel_spec hf hF hN (ws t i) (by omega)
   rcases hr : rSel nest t (ws t i) with ⟨s, p, b⟩
   simp only [hr] at e1 hfar hsp
   have hup := hfar.up
   have l1 : (out.map selRow).length = out.length := List.length_map ..
   have er : out.map selRow ++ [selRow s] = (out ++ [s]).map selRow := by simp
   cases b with
   | true =>
    rw [if_pos rfl] at e1
    dsimp only
    conv => whnf
    repeat' ((first | refine Case.not ?_ | refine Case.yes ?_ | refine Case.no ?_ | refine (pwhite_spec t (by omega) i false q (by omega)).call ?_ | refine hsp.call ?_ | (refine Owes.mk (by first | (dsimp only [List.length]; omega) | (simp only [List.length_cons, List.length_nil]; omega)) ?_) | refine (psee_at t (by omega) p true q (by omega) _ p (by omega) (by omega) (by omega)).call ⟨⟨rfl, rfl, rfl, rfl, trivial⟩, rfl, rfl⟩ ?_ | refine (pover_spec t (by omega) p true q (by omega)).call ⟨⟨rfl, rfl, rfl, rfl, trivial⟩, rfl⟩ ?_); conv => whnf)
    refine ⟨(p, true, out ++ [s]), ⟨hup, fun h => by simp at h, fun h => by simp at h, fun _ => e1.symm⟩, by dsimp only; simp; omega, ?_⟩
    repeat' first | exact trivial | exact rfl | exact Nat.zero_lt_succ _ | exact congrArg (D.own _ _ _) (by simp [selRow]; done) | apply And.intro
   | false =>
    have hok := hfar.ok rfl
    rw [if_neg (by simp)] at e1
    dsimp only
    conv => whnf
    repeat' first | ((first | refine Case.not ?_ | refine Case.no ?_ | refine Case.decT (by assumption) ?_ | refine Case.decF (by assumption) ?_ | refine Case.decT (by omega) ?_ | refine (pwhite_spec t (by omega) i false q (by omega)).call ?_ | refine hsp.call ?_ | (refine Owes.mk (by first | (dsimp only [List.length]; omega) | (simp only [List.length_cons, List.length_nil]; omega)) ?_) | refine (psee_at t (by omega) p false q (by omega) _ p (by omega) (by omega) (by omega)).call ⟨⟨rfl, rfl, rfl, rfl, trivial⟩, rfl, rfl⟩ ?_ | refine (pover_spec t (by omega) p false q (by omega)).call ⟨⟨rfl, rfl, rfl, rfl, trivial⟩, rfl⟩ ?_ | refine Num.id (by omega) (by omega) ?_); conv => whnf) | (refine Case.dec (fun _ => ?_) (fun _ => ?_) <;> conv => whnf)
    ·have := tk_lt (t := t) (i := p) (by omega)
     rw [if_pos (by assumption)] at e1
     refine ⟨(p + 1, false, out ++ [s]), ⟨by dsimp only; omega, fun _ => ⟨by dsimp only; omega, by dsimp only; rw [List.length_append]; simp; omega⟩, fun _ f hf => ?_, fun h => by simp at h⟩, by dsimp only; simp; omega, ?_⟩
     ·dsimp only at hf ⊢
      rw [← e1]
      exact rListRun_fuel hF q _ _ _ _ (by omega) hf (by omega)
     ·
      repeat' first | exact trivial | exact rfl | exact Nat.zero_lt_succ _ | exact congrArg (D.own _ _ _) (by simp [selRow]; done) | apply And.intro
    ·rw [if_neg (by assumption), if_pos ⟨by assumption, by assumption⟩] at e1
     rw [← e1]
     refine Fin.sels (l := out ++ [s]) p er rfl rfl rfl ?_
     exact ⟨rfl, rfl⟩
    ·rw [if_neg (by assumption), if_neg (by omega), if_pos ⟨by assumption, by omega⟩] at e1
     rw [← e1]
     refine Fin.sels (l := out ++ [s]) (p + 1) er rfl rfl rfl ?_
     exact ⟨rfl, rfl⟩
    ·rw [if_neg (by assumption), if_neg (by omega), if_neg (by omega)] at e1
     refine ⟨(p, true, out ++ [s]), ⟨hup, fun h => by simp at h, fun h => by simp at h, fun _ => e1.symm⟩, by dsimp only; simp; omega, ?_⟩
     repeat' first | exact trivial | exact rfl | exact Nat.zero_lt_succ _ | exact congrArg (D.own _ _ _) (by simp [selRow]; done) | apply And.intro
    ·rw [if_neg (by assumption), if_neg (by omega), if_pos ⟨by assumption, by omega⟩] at e1
     rw [← e1]
     refine Fin.sels (l := out ++ [s]) (p + 1) er rfl rfl rfl ?_
     exact ⟨rfl, rfl⟩
    ·rw [if_neg (by assumption), if_neg (by omega), if_neg (by omega)] at e1
     refine ⟨(p, true, out ++ [s]), ⟨hup, fun h => by simp at h, fun h => by simp at h, fun _ => e1.symm⟩, by dsimp only; simp; omega, ?_⟩
     repeat' first | exact trivial | exact rfl | exact Nat.zero_lt_succ _ | exact congrArg (D.own _ _ _) (by simp [selRow]; done) | apply And.intro
    ·rw [if_neg (by assumption), if_neg (by omega), if_neg (by omega)] at e1
     refine ⟨(p, true, out ++ [s]), ⟨hup, fun h => by simp at h, fun h => by simp at h, fun _ => e1.symm⟩, by dsimp only; simp; omega, ?_⟩
     repeat' first | exact trivial | exact rfl | exact Nat.zero_lt_succ _ | exact congrArg (D.own _ _ _) (by simp [selRow]; done) | apply And.intro
theorem rlist_bad {t : List Tok} (ht : t.length < 100000000) (q : Int) (a : Nat) : PMeth 51 t a true q (.f (.sl [])) a true := by
 refine ⟨trivial, spec_mk tab_ok Tryz.func51 (by rfl) rfl ?_⟩
 conv => whnf
 refine step_loop tab_ok (fun s : Unit => padK [.ptr 0 0] 71) (fun s => [some (pkr t a true q)]) 0 (fun _ => True) (fun _ => 0) () trivial (fun _ => rfl) ?_ ?_
 ·
  repeat' first | exact trivial | exact rfl | exact Nat.zero_lt_succ _ | apply And.intro
 ·rintro _ _
  conv => whnf
  repeat' ((first | refine Case.not ?_ | refine Case.yes ?_); conv => whnf)
  refine Fin.pkc a ?_ rfl rfl rfl ⟨rfl, rfl⟩
  exact rfl
set_option maxHeartbeats 1000000 in
theorem rinner_spec {t : List Tok} (hf : Fit t) : ∀ (k : Nat) (q : Int), 0 ≤ q → q + k = 8 → InnerOk (rNest t k (q + 1)) t q := by
 intro k
 induction k with
 | zero =>
  intro q h0 h1 a ha
  have hl := hf.len
  have hq : q = 8 := by omega
  subst hq
  refine ⟨trivial, spec_mk tab_ok Tryz.func152 (by rfl) rfl ?_⟩
  conv => whnf
  repeat' ((first | refine Case.yes ?_ | refine (rlist_bad hl (8 + 1) a).call ?_ | refine Num.id (by omega) (by omega) ?_); conv => whnf)
  exact Fin.pk a trivial rfl rfl rfl ⟨rfl, rfl⟩
 | succ k ih =>
  intro q h0 h1 a ha
  have hl := hf.len
  have hsp := rlist_spec hf (q := q + 1) (by omega) (rNest_far t k (q + 1 + 1)) (ih (q + 1) (by omega) (by omega)) a ha
  refine ⟨trivial, spec_mk tab_ok Tryz.func152 (by rfl) rfl ?_⟩
  unfold rNest
  conv => whnf
  repeat' ((first | refine Case.decF (by omega) ?_ | refine hsp.call ?_ | refine Num.id (by omega) (by omega) ?_); conv => whnf)
  exact Fin.pk _ trivial rfl rfl (by omega) ⟨rfl, rfl⟩
theorem Fin.val {d d' : D} {H : Hp} {n n0 : Nat} {R : D → Hp → Prop} (hd : intoD n n0 0 d d') (hR : R d' []) : Fin d H n 0 n0 R :=
 Fin.mk d' [] hR rfl ⟨by unfold intoL; exact ⟨hd, by unfold intoL; rfl⟩, by unfold intoH; cases H <;> trivial⟩
def rSelectors (t : List Tok) : List Selr × Bool := if 1000 < t.length then ([], false) else if (rNest t 9 0 0).2.2 = true then ([], false) else ((rNest t 9 0 0).1, true)
theorem selectors_spec {t : List Tok} (hf : Fit t) : Val 21 [.f (.sl (toksF t))] (.tup [.f (.sl ((rSelectors t).1.map selRow)), bool (rSelectors t).2]) := by
 have hl := hf.len
 have hlen : (toksF t).length = t.length := by simp
 have hsp := rlist_spec hf (q := 0) (by omega) (rNest_far t 8 (0 + 1)) (rinner_spec hf 8 0 (by omega) (by omega)) 0 (by omega)
 have er : rNest t 9 0 0 = rList (rNest t 8 (0 + 1)) t 0 0 := rfl
 refine ⟨rfl, ⟨trivial, trivial⟩, rfl, spec_mk tab_ok Tryz.func21 (by rfl) rfl ?_⟩
 unfold rSelectors
 rw [er]
 conv => whnf
 repeat' first | (refine hsp.call ?_; conv => whnf) | (refine Case.dec (fun _ => ?_) (fun _ => ?_) <;> conv => whnf) | (refine Case.mk (fun _ => ?_) (fun _ => ?_) <;> conv => whnf)
 ·rw [if_pos (by omega)]
  refine Fin.val (d' := .tup [.f (.sl []), bool false]) ?_ ⟨rfl, rfl⟩
  exact ⟨rfl, rfl, rfl⟩
 ·rw [if_neg (by omega), if_pos (by assumption)]
  refine Fin.val (d' := .tup [.f (.sl []), bool false]) ?_ ⟨rfl, rfl⟩
  exact ⟨rfl, rfl, rfl⟩
 ·rw [if_neg (by omega), if_neg (by rename_i h; rw [h]; decide)]
  refine Fin.val (d' := .tup [.f (.sl ((rList (rNest t 8 (0 + 1)) t 0 0).1.map selRow)), bool true]) ?_ ⟨rfl, rfl⟩
  exact ⟨rfl, rfl, rfl⟩
theorem sComb_le {t : List Tok} {i : Nat} {q : Int} (hi : i ≤ t.length) : i ≤ (sComb t i q).2.2 ∧ (sComb t i q).2.2 ≤ t.length := by
 have k1 := ws_le t i
 have k2 := ws_le t (ws t i + 1)
 unfold sComb
 split
 ·rename_i h
  have := pcomb_lt h
  dsimp only
  omega
 split
 ·dsimp only; omega
 ·dsimp only; omega
def sSelRun (b : Bool) (nest : SNest) (t : List Tok) (q : Int) : Nat → Nat → Int → Selr → Selr × Bool × Nat
 | 0, i, cb, ps => ([], false, i)
 | f + 1, i, cb, ps =>
  if (sCmp b nest t i).2.1 = false then ([], false, (sCmp b nest t i).2.2)
  else if (sComb t (sCmp b nest t i).2.2 q).2.1 = false then (ps ++ [(cb, (sCmp b nest t i).1)], false, (sComb t (sCmp b nest t i).2.2 q).2.2)
  else if (sComb t (sCmp b nest t i).2.2 q).1 = 0 then (ps ++ [(cb, (sCmp b nest t i).1)], true, (sComb t (sCmp b nest t i).2.2 q).2.2)
  else sSelRun b nest t q f (sComb t (sCmp b nest t i).2.2 q).2.2 (sComb t (sCmp b nest t i).2.2 q).1 (ps ++ [(cb, (sCmp b nest t i).1)])
def sSel (b : Bool) (nest : SNest) (t : List Tok) (q : Int) (i : Nat) : Selr × Bool × Nat := sSelRun b nest t q (t.length + 1) i 0 []
def sListRun (b : Bool) (nest : SNest) (t : List Tok) (q : Int) : Nat → Nat → List Selr → List Selr × Bool × Nat
 | 0, i, out => ([], false, i)
 | f + 1, i, out =>
  if (sSel b nest t q (ws t i)).2.1 = false then ([], false, (sSel b nest t q (ws t i)).2.2)
  else if (tk t (sSel b nest t q (ws t i)).2.2).kind = 13 then sListRun b nest t q f ((sSel b nest t q (ws t i)).2.2 + 1) (out ++ [(sSel b nest t q (ws t i)).1])
  else (out ++ [(sSel b nest t q (ws t i)).1], true, (sSel b nest t q (ws t i)).2.2)
def sList (b : Bool) (nest : SNest) (t : List Tok) (q : Int) (i : Nat) : List Selr × Bool × Nat := sListRun b nest t q (t.length + 1) i []
def sNest (t : List Tok) : Nat → Int → SNest
 | 0, q, i => ([], false, i)
 | k + 1, q, i => sList (decide (q = 8)) (sNest t k (q + 1)) t q i
theorem sSelRun_far {b : Bool} {nest : SNest} {t : List Tok} {q : Int} (hU : ∀ a, a ≤ t.length → SFar t a (nest a).2.1 (nest a).2.2) : ∀ (f i : Nat) (cb : Int) (ps : Selr), i ≤ t.length → SFar t (i + 1) (sSelRun b nest t q f i cb ps).2.1 (sSelRun b nest t q f i cb ps).2.2
 | 0, i, cb, ps, hi => ⟨by unfold sSelRun; dsimp only; omega, by simp [sSelRun]⟩
 | f + 1, i, cb, ps, hi => by
  have hc := sCmp_far (b := b) hU hi
  unfold sSelRun
  split
  ·exact ⟨hc.up, by simp⟩
  rename_i hb
  have hb := hc.ok (by simpa using hb)
  have hm := sComb_le (q := q) hb.2
  split
  ·exact ⟨by dsimp only; omega, by simp⟩
  split
  ·exact ⟨by dsimp only; omega, fun _ => by dsimp only; omega⟩
  ·have g := sSelRun_far (b := b) (q := q) hU f (sComb t (sCmp b nest t i).2.2 q).2.2 (sComb t (sCmp b nest t i).2.2 q).1 (ps ++ [(cb, (sCmp b nest t i).1)]) hm.2
   exact ⟨g.up, fun h => by have := g.ok h; omega⟩
theorem sSelRun_fuel {b : Bool} {nest : SNest} {t : List Tok} {q : Int} (hU : ∀ a, a ≤ t.length → SFar t a (nest a).2.1 (nest a).2.2) : ∀ (f g i : Nat) (cb : Int) (ps : Selr), i ≤ t.length → t.length - i < f → t.length - i < g → sSelRun b nest t q f i cb ps = sSelRun b nest t q g i cb ps
 | 0, _, _, _, _, _, h, _ => by omega
 | f + 1, 0, _, _, _, _, _, h => by omega
 | f + 1, g + 1, i, cb, ps, hi, h1, h2 => by
  have hc := sCmp_far (b := b) hU hi
  unfold sSelRun
  split
  ·rfl
  rename_i hb
  have hb := hc.ok (by simpa using hb)
  have hm := sComb_le (q := q) hb.2
  split
  ·rfl
  split
  ·rfl
  ·exact sSelRun_fuel hU f g _ _ _ (by omega) (by omega) (by omega)
theorem sListRun_far {b : Bool} {nest : SNest} {t : List Tok} {q : Int} (hU : ∀ a, a ≤ t.length → SFar t a (nest a).2.1 (nest a).2.2) : ∀ (f i : Nat) (out : List Selr), i ≤ t.length → SFar t (i + 1) (sListRun b nest t q f i out).2.1 (sListRun b nest t q f i out).2.2
 | 0, i, out, hi => ⟨by unfold sListRun; dsimp only; omega, by simp [sListRun]⟩
 | f + 1, i, out, hi => by
  have k1 := ws_le t i
  have hc := sSelRun_far (b := b) (q := q) hU (t.length + 1) (ws t i) 0 [] (by omega)
  rw [← sSel] at hc
  unfold sListRun
  split
  ·exact ⟨hc.up, by simp⟩
  rename_i hb
  have hb := hc.ok (by simpa using hb)
  split
  ·have := tk_lt (t := t) (i := (sSel b nest t q (ws t i)).2.2) (by omega)
   have g := sListRun_far (b := b) (q := q) hU f ((sSel b nest t q (ws t i)).2.2 + 1) (out ++ [(sSel b nest t q (ws t i)).1]) (by omega)
   exact ⟨g.up, fun h => by have := g.ok h; omega⟩
  ·exact ⟨by dsimp only; omega, fun _ => by dsimp only; omega⟩
theorem sListRun_fuel {b : Bool} {nest : SNest} {t : List Tok} {q : Int} (hU : ∀ a, a ≤ t.length → SFar t a (nest a).2.1 (nest a).2.2) : ∀ (f g i : Nat) (out : List Selr), i ≤ t.length → t.length - i < f → t.length - i < g → sListRun b nest t q f i out = sListRun b nest t q g i out
 | 0, _, _, _, _, h, _ => by omega
 | f + 1, 0, _, _, _, _, h => by omega
 | f + 1, g + 1, i, out, hi, h1, h2 => by
  have k1 := ws_le t i
  have hc := sSelRun_far (b := b) (q := q) hU (t.length + 1) (ws t i) 0 [] (by omega)
  rw [← sSel] at hc
  unfold sListRun
  split
  ·rfl
  rename_i hb
  have hb := hc.ok (by simpa using hb)
  split
  ·have := tk_lt (t := t) (i := (sSel b nest t q (ws t i)).2.2) (by omega)
   exact sListRun_fuel hU f g _ _ (by omega) (by omega) (by omega)
  ·rfl
theorem sNest_far (t : List Tok) : ∀ (k : Nat) (q : Int) (i : Nat), i ≤ t.length → SFar t i (sNest t k q i).2.1 (sNest t k q i).2.2
 | 0, q, i, hi => ⟨by unfold sNest; dsimp only; omega, by simp [sNest]⟩
 | k + 1, q, i, hi => by
  have := sListRun_far (b := decide (q = 8)) (q := q) (sNest_far t k (q + 1)) (t.length + 1) i [] hi
  unfold sNest sList
  exact ⟨this.up, fun h => by have := this.ok h; omega⟩
structure SSelI (b : Bool) (nest : SNest) (t : List Tok) (q : Int) (a : Nat) (s : Nat × Int × Selr) : Prop where
 le : s.1 ≤ t.length
 sz : s.2.2.length ≤ s.1
 run : ∀ f, t.length - s.1 < f → sSelRun b nest t q f s.1 s.2.1 s.2.2 = sSel b nest t q a
theorem Fin.sselr {ps : Selr} {rows : List (List F)} {k : Bool} {t : List Tok} {p q : Int} {more : Hp} {n : Nat} {R : D → Hp → Prop} (a : Nat) (hr : rows = ps.map partRow) (hp : p = a) (hR : R (.tup [.agg [.f (.sl (ps.map partRow))], bool k]) [some (srd t a q)]) : Fin (.tup [.agg [.own 0 41 6 rows], bool k]) (some [.f (.sl (toksF t)), int p, int q] :: more) n 1 0 R := by
 subst hr
 refine Fin.frz 0 ?_
 refine Fin.sk (d' := .tup [.agg [.f (.sl (ps.map partRow))], bool k]) a ?_ hp rfl hR
 repeat' first | exact rfl | exact trivial | apply And.intro
set_option maxHeartbeats 4000000 in
theorem ssel_spec {nest : SNest} {t : List Tok} (hf : Fit t) {q : Int} (hq : 0 ≤ q ∧ q ≤ 8) (hU : ∀ a, a ≤ t.length → SFar t a (nest a).2.1 (nest a).2.2) (hN : q < 8 → SListOk nest t (q + 1)) (a : Nat) (ha : a ≤ t.length) :
  SMeth 56 [] t a q (.tup [.agg [.f (.sl ((sSel (decide (q = 8)) nest t q a).1.map partRow))], bool (sSel (decide (q = 8)) nest t q a).2.1]) (sSel (decide (q = 8)) nest t q a).2.2 := by
 refine ⟨trivial, ⟨⟨trivial, trivial⟩, trivial, trivial⟩, spec_mk tab_ok Tryz.func56 (by rfl) rfl ?_⟩
 have hl := hf.len
 conv => whnf
 refine step_loop tab_ok (fun s : Nat × Int × Selr => padK [.ptr 0 0, .junk, .ptr 1 0, .junk, .ptr 2 0, int s.2.1] 37) (fun s => [some (srd t s.1 q), some [.junk], some [partsO s.2.2]]) 1 (SSelI (decide (q = 8)) nest t q a) (fun s => t.length - s.1) (a, 0, []) ⟨ha, by simp, fun f hf => sSelRun_fuel hU _ _ _ _ _ ha hf (by dsimp only at hf ⊢; omega)⟩ (fun _ => rfl) ?_ ?_
 ·
  repeat' first | exact trivial | exact rfl | exact Nat.zero_le _ | exact Nat.zero_lt_succ _ | exact (by decide : 2 < 3) | (show _ < List.length _; simp; done) | apply And.intro
 ·rintro ⟨i, cb, ps⟩ ⟨h1, h2, h3⟩
  simp only at h1 h2 h3
  have e1 := h3 (t.length - i + 1) (by omega)
  rw [sSelRun] at e1
  have hfar := sCmp_far (b := decide (q = 8)) hU h1
  have hsp := scmp_spec hf hq hU hN i h1
  have l1 : (ps.map partRow).length = ps.length := List.length_map ..
  rcases hr : sCmp (decide (q = 8)) nest t i with ⟨c, k, p⟩
  simp only [hr] at e1 hfar hsp
  have hup := hfar.up
  have er : ps.map partRow ++ [partRow (cb, c)] = (ps ++ [(cb, c)]).map partRow := by simp
  cases k with
  | false =>
   rw [if_pos rfl] at e1
   rw [← e1]
   conv => whnf
   repeat' ((first | refine Case.not ?_ | refine Case.no ?_ | refine hsp.call ?_); conv => whnf)
   refine Fin.sk p ?_ rfl rfl ⟨rfl, rfl⟩
   exact ⟨⟨rfl, rfl⟩, rfl, rfl⟩
  | true =>
   have hok := hfar.ok rfl
   rw [if_neg (by simp)] at e1
   have hm := sComb_le (q := q) hok.2
   have hcs := scomb_spec t (by omega) p q (by omega)
   rcases hs : sComb t p q with ⟨x, m, p'⟩
   simp only [hs] at e1 hm hcs
   conv => whnf
   repeat' first | ((first | refine Case.not ?_ | refine Case.yes ?_ | refine Case.isTrue (by assumption) ?_ | refine Case.isFalse (by assumption) ?_ | refine hsp.call ?_ | refine hcs.call ?_ | (refine Owes.mk (by first | (dsimp only [List.length]; omega) | (simp only [List.length_cons, List.length_nil]; omega)) ?_)); conv => whnf) | (refine Case.dec (fun _ => ?_) (fun _ => ?_) <;> conv => whnf) | (refine Case.mk (fun _ => ?_) (fun _ => ?_) <;> conv => whnf)
   ·subst ‹m = true›
    rw [if_neg (by simp), if_pos (by assumption)] at e1
    rw [← e1]
    refine Fin.sselr (ps := ps ++ [(cb, c)]) p' er rfl ?_
    exact ⟨rfl, rfl⟩
   ·subst ‹m = true›
    rw [if_neg (by simp), if_neg (by assumption)] at e1
    refine ⟨(p', x, ps ++ [(cb, c)]), ⟨by dsimp only; omega, by dsimp only; rw [List.length_append]; simp; omega, fun f hf => ?_⟩, by dsimp only; omega, ?_⟩
    ·dsimp only at hf ⊢
     rw [← e1]
     exact sSelRun_fuel hU _ _ _ _ _ (by omega) hf (by omega)
    ·
     repeat' first | exact trivial | exact rfl | exact Nat.zero_lt_succ _ | exact (by decide : 2 < 3) | exact congrArg (D.own _ _ _) (by simp [partRow]; done) | (show _ < List.length _; simp; done) | apply And.intro
   ·subst ‹m = false›
    rw [if_pos rfl] at e1
    rw [← e1]
    refine Fin.sselr (ps := ps ++ [(cb, c)]) p' er rfl ?_
    exact ⟨rfl, rfl⟩
structure SListI (b : Bool) (nest : SNest) (t : List Tok) (q : Int) (a : Nat) (s : Nat × List Selr) : Prop where
 le : s.1 ≤ t.length
 sz : s.2.length ≤ s.1
 run : ∀ f, t.length - s.1 < f → sListRun b nest t q f s.1 s.2 = sList b nest t q a
theorem Fin.ssels {l : List Selr} {rows : List (List F)} {k : Bool} {t : List Tok} {p q : Int} {more : Hp} {n : Nat} {R : D → Hp → Prop} (a : Nat) (hr : rows = l.map selRow) (hp : p = a) (hR : R (.tup [.f (.sl (l.map selRow)), bool k]) [some (srd t a q)]) : Fin (.tup [.own 0 34 1 rows, bool k]) (some [.f (.sl (toksF t)), int p, int q] :: more) n 1 0 R := by
 subst hr
 refine Fin.frz 0 ?_
 refine Fin.sk (d' := .tup [.f (.sl (l.map selRow)), bool k]) a ?_ hp rfl hR
 exact ⟨rfl, rfl, rfl⟩
set_option maxHeartbeats 4000000 in
theorem slist_step {nest : SNest} {t : List Tok} (hf : Fit t) {q : Int} (hq : 0 ≤ q ∧ q ≤ 8) (hU : ∀ a, a ≤ t.length → SFar t a (nest a).2.1 (nest a).2.2) (hN : q < 8 → SListOk nest t (q + 1)) : SListOk (sList (decide (q = 8)) nest t q) t q := by
 intro a ha
 refine ⟨trivial, ⟨trivial, trivial, trivial⟩, spec_mk tab_ok Tryz.func24 (by rfl) rfl ?_⟩
 have hl := hf.len
 conv => whnf
 refine step_loop tab_ok (fun s : Nat × List Selr => padK [.ptr 0 0, .junk, .junk, .junk, selsO s.2] 24) (fun s => [some (srd t s.1 q)]) 1 (SListI (decide (q = 8)) nest t q a) (fun s => t.length + 1 - s.1) (a, []) ⟨ha, by simp, fun f hf => sListRun_fuel hU _ _ _ _ ha hf (by dsimp only at hf ⊢; omega)⟩ (fun _ => rfl) ?_ ?_
 ·
  repeat' first | exact trivial | exact rfl | exact Nat.zero_le _ | exact Nat.zero_lt_succ _ | apply And.intro
 ·rintro ⟨i, out⟩ ⟨h1, h2, h3⟩
  simp only at h1 h2 h3
  have e1 := h3 (t.length - i + 1) (by omega)
  rw [sListRun] at e1
  have k1 := ws_le t i
  have hfar := sSelRun_far (b := decide (q = 8)) (q := q) hU (t.length + 1) (ws t i) 0 [] (by omega)
  rw [← sSel] at hfar
  have hsp := ssel_spec hf hq hU hN (ws t i) (by omega)
  have hw := swhite_spec t (by omega) i q (by omega)
  have l1 : (out.map selRow).length = out.length := List.length_map ..
  rcases hr : sSel (decide (q = 8)) nest t q (ws t i) with ⟨s, k, p⟩
  simp only [hr] at e1 hfar hsp
  have hup := hfar.up
  have er : out.map selRow ++ [selRow s] = (out ++ [s]).map selRow := by simp
  cases k with
  | false =>
   rw [if_pos rfl] at e1
   rw [← e1]
   conv => whnf
   repeat' ((first | refine Case.not ?_ | refine Case.no ?_ | refine hw.call ?_ | refine hsp.call ?_); conv => whnf)
   refine Fin.sk p ?_ rfl rfl ⟨rfl, rfl⟩
   exact ⟨rfl, rfl, rfl⟩
  | true =>
   have hok := hfar.ok rfl
   rw [if_neg (by simp)] at e1
   have b13 := sis_spec t (by omega) p q (by omega) 13
   by_cases c13 : (tk t p).kind = 13
   ·have := tk_lt (t := t) (i := p) (by omega)
    rw [sIs_of c13] at b13
    rw [if_pos c13] at e1
    conv => whnf
    repeat' ((first | refine Case.not ?_ | refine Case.yes ?_ | refine hw.call ?_ | refine hsp.call ?_ | refine b13.call ?_ | (refine Owes.mk (by first | (dsimp only [List.length]; omega) | (simp only [List.length_cons, List.length_nil]; omega)) ?_)); conv => whnf)
    refine ⟨(p + 1, out ++ [s]), ⟨by dsimp only; omega, by dsimp only; rw [List.length_append]; simp; omega, fun f hf => ?_⟩, by dsimp only; omega, ?_⟩
    ·dsimp only at hf ⊢
     rw [← e1]
     exact sListRun_fuel hU _ _ _ _ (by omega) hf (by omega)
    ·
     repeat' first | exact trivial | exact rfl | exact Nat.zero_lt_succ _ | exact congrArg (D.own _ _ _) (by simp [selRow]; done) | apply And.intro
   ·rw [sIs_ne c13] at b13
    rw [if_neg c13] at e1
    rw [← e1]
    conv => whnf
    repeat' ((first | refine Case.not ?_ | refine Case.yes ?_ | refine Case.no ?_ | refine hw.call ?_ | refine hsp.call ?_ | refine b13.call ?_ | (refine Owes.mk (by first | (dsimp only [List.length]; omega) | (simp only [List.length_cons, List.length_nil]; omega)) ?_)); conv => whnf)
    refine Fin.ssels (l := out ++ [s]) p er rfl ?_
    exact ⟨rfl, rfl⟩
theorem slist_spec {t : List Tok} (hf : Fit t) : ∀ (k : Nat) (q : Int), 0 ≤ q → q + k = 8 → SListOk (sNest t (k + 1) q) t q
 | 0, q, h0, h1 => slist_step hf ⟨h0, by omega⟩ (sNest_far t 0 (q + 1)) (fun h => by omega)
 | k + 1, q, h0, h1 => slist_step hf ⟨h0, by omega⟩ (sNest_far t (k + 1) (q + 1)) (fun _ => slist_spec hf k (q + 1) (by omega) (by omega))
def sParse (t : List Tok) : List Selr × Bool :=
 if 1000 < t.length then ([], false) else if (sNest t 9 0 0).2.1 = false ∨ (sNest t 9 0 0).2.2 < t.length then ([], false) else ((sNest t 9 0 0).1, true)
theorem parse_spec {t : List Tok} (hf : Fit t) : Val 9 [.f (.sl (toksF t))] (.tup [.f (.sl ((sParse t).1.map selRow)), bool (sParse t).2]) := by
 have hl := hf.len
 have hlen : (toksF t).length = t.length := by simp
 have hsp := slist_spec hf 8 0 (by omega) (by omega) 0 (by omega)
 have hfar := sNest_far t 9 0 0 (by omega)
 refine ⟨rfl, ⟨trivial, trivial⟩, rfl, spec_mk tab_ok Tryz.func9 (by rfl) rfl ?_⟩
 unfold sParse
 rcases hr : sNest t 9 0 0 with ⟨l, k, p⟩
 simp only [show (8 : Nat) + 1 = 9 from rfl, hr] at hsp hfar
 conv => whnf
 repeat' first | ((first | refine Case.not ?_ | refine Case.yes ?_ | refine Case.isTrue (by assumption) ?_ | refine Case.isFalse (by assumption) ?_ | refine hsp.call ?_); conv => whnf) | (refine Case.dec (fun _ => ?_) (fun _ => ?_) <;> conv => whnf) | (refine Case.mk (fun _ => ?_) (fun _ => ?_) <;> conv => whnf)
 ·rw [if_pos (by omega)]
  refine Fin.val ?_ ⟨rfl, rfl⟩
  exact ⟨rfl, rfl, rfl⟩
 ·rw [if_neg (by omega), if_pos (.inr (by dsimp only; omega))]
  refine Fin.val ?_ ⟨rfl, rfl⟩
  exact ⟨rfl, rfl, rfl⟩
 ·subst ‹k = true›
  rw [if_neg (by omega), if_neg (by dsimp only; simp; omega)]
  refine Fin.val ?_ ⟨rfl, rfl⟩
  exact ⟨rfl, rfl, rfl⟩
 ·rw [if_neg (by omega), if_pos (.inl (by assumption))]
  refine Fin.val ?_ ⟨rfl, rfl⟩
  exact ⟨rfl, rfl, rfl⟩
end Go.Proofs.YtlhegfkpgchaeaaGreatDoor.Aw
