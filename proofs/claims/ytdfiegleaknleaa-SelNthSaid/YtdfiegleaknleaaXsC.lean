/- The program's reader of selectors: attr, nth, pseudo. -/
import Derived.Test.YtdfiegleaknleaaXsB
import Derived.Test.YtdfiegleaknleaaAwT
namespace Go.Proofs.Ytdfiegleaknleaa.Aw
open Go Go.RowKit Go.Lib
set_option linter.unusedVariables false
set_option linter.unusedSimpArgs false
set_option maxRecDepth 100000
def sAttr (t : List Tok) (i : Nat) : Att × Bool × Nat :=
  if (tk t (ws t i)).kind ≠ 1 then ({}, false, ws t i) else
  if (tk t (ws t (ws t i + 1))).kind = 19 then ({ name := lower (tk t (ws t i)).text }, true, ws t (ws t i + 1) + 1) else
  if (sOp t (ws t (ws t i + 1))).2.1 = false then ({}, false, (sOp t (ws t (ws t i + 1))).2.2) else
  if (tk t (ws t (sOp t (ws t (ws t i + 1))).2.2)).kind ≠ 1 ∧ (tk t (ws t (sOp t (ws t (ws t i + 1))).2.2)).kind ≠ 4 then ({}, false, ws t (sOp t (ws t (ws t i + 1))).2.2) else
  ({ name := lower (tk t (ws t i)).text, op := (sOp t (ws t (ws t i + 1))).1, text := (tk t (ws t (sOp t (ws t (ws t i + 1))).2.2)).text }, sIs t (ws t (ws t (sOp t (ws t (ws t i + 1))).2.2 + 1)) 19)
theorem sOp_le (t : List Tok) (i : Nat) : i ≤ (sOp t i).2.2 ∧ (sOp t i).2.2 ≤ i + 2 := by
  unfold sOp
  repeat' split
  all_goals (constructor <;> dsimp only <;> omega)
theorem sIs_le (t : List Tok) (i : Nat) (k : Int) : i ≤ (sIs t i k).2 ∧ (sIs t i k).2 ≤ i + 1 := by
  unfold sIs
  split <;> constructor <;> dsimp only <;> omega
theorem sIs_of {t : List Tok} {i : Nat} {k : Int} (h : (tk t i).kind = k) : sIs t i k = (true, i + 1) := if_pos h
theorem sIs_ne {t : List Tok} {i : Nat} {k : Int} (h : ¬ (tk t i).kind = k) : sIs t i k = (false, i) := if_neg h
theorem Fin.vbs {d d' : D} {b : Bool} {t : List Tok} {p q : Int} {b' : Bool} {p' : Nat} {more : Hp} {n : Nat} (hd : intoD n 0 1 d d') (h1 : p = p') (h3 : b = b') : Fin (.tup [d, bool b]) (some [.f (.sl (toksF t)), int p, int q] :: more) n 1 0 (fun d H => d = .tup [d', bool b'] ∧ H = [some (srd t p' q)]) := by
  subst h1 h3
  refine Fin.sk p' ?_ rfl rfl ⟨rfl, rfl⟩
  exact ⟨hd, rfl, rfl⟩
set_option maxHeartbeats 2000000 in
theorem sattr_spec {t : List Tok} (hf : Fit t) (a : Nat) (q : Int) (ha : a ≤ t.length + 4) : SMeth 69 [] t a q (.tup [(sAttr t a).1.d, bool (sAttr t a).2.1]) (sAttr t a).2.2 := by
  refine ⟨trivial, ⟨⟨trivial, trivial, trivial, trivial⟩, trivial, trivial⟩, spec_mk tab_ok Try.func69 (by rfl) rfl ?_⟩
  have hl := hf.len
  unfold sAttr
  have k1 := ws_le t a
  generalize hi1 : ws t a = i1 at *
  have k2 := ws_le t (i1 + 1)
  generalize hi2 : ws t (i1 + 1) = i2 at *
  have k3 := sOp_le t i2
  have hop := sop_spec t (by omega) i2 q (by omega)
  rcases ho : sOp t i2 with ⟨op, ok, i3⟩
  simp only [ho] at k3 hop
  have k4 := ws_le t i3
  generalize hi4 : ws t i3 = i4 at *
  have k5 := ws_le t (i4 + 1)
  have w1 := swhite_spec t (by omega) a q (by omega)
  have w2 := swhite_spec t (by omega) (i1 + 1) q (by omega)
  have w4 := swhite_spec t (by omega) i3 q (by omega)
  have w5 := swhite_spec t (by omega) (i4 + 1) q (by omega)
  rw [hi1] at w1
  rw [hi2] at w2
  rw [hi4] at w4
  generalize hi6 : ws t (i4 + 1) = i6 at *
  have s1 := sat_at t (by omega) i1 q (by omega) 0 i1 (by omega) (by omega) (by omega)
  have s4 := sat_at t (by omega) i4 q (by omega) 0 i4 (by omega) (by omega) (by omega)
  have b1 := sis_spec t (by omega) i1 q (by omega) 1
  have b2 := sis_spec t (by omega) i2 q (by omega) 19
  have b41 := sis_spec t (by omega) i4 q (by omega) 1
  have b44 := sis_spec t (by omega) i4 q (by omega) 4
  have b6 := sis_spec t (by omega) i6 q (by omega) 19
  by_cases c1 : (tk t i1).kind = 1
  · rw [if_neg (by omega)]
    rw [sIs_of c1] at b1
    by_cases c2 : (tk t i2).kind = 19
    · rw [if_pos c2]
      rw [sIs_of c2] at b2
      conv => whnf
      repeat' first
        | (refine Case.not ?_; conv => whnf)
        | (refine Case.yes ?_; conv => whnf)
        | (refine Case.no ?_; conv => whnf)
        | (refine Case.isTrue (by assumption) ?_; conv => whnf)
        | (refine Case.isFalse (by assumption) ?_; conv => whnf)
        | (refine Case.decT (by assumption) ?_; conv => whnf)
        | (refine Case.decF (by assumption) ?_; conv => whnf)
        | (refine Case.decT (by omega) ?_; conv => whnf)
        | (refine Case.decF (by omega) ?_; conv => whnf)
        | (refine Case.beqT (by omega) ?_; conv => whnf)
        | (refine Case.beqF (by omega) ?_; conv => whnf)
        | (refine Case.strT (by assumption) ?_; conv => whnf)
        | (refine Case.strF (by assumption) ?_; conv => whnf)
        | (refine Case.strF (by simp only [*]; decide) ?_; conv => whnf)
        | (refine w1.call ?_; conv => whnf)
        | (refine s1.call ⟨⟨rfl, rfl, rfl, trivial⟩, rfl, rfl⟩ ?_; conv => whnf)
        | (refine (lowerP_spec _ (hf.text _)).call ⟨rfl, rfl⟩ ?_; conv => whnf)
        | (refine b1.call ?_; conv => whnf)
        | (refine w2.call ?_; conv => whnf)
        | (refine b2.call ?_; conv => whnf)
        | (refine step_kinds 2 ?hk ?_; (case hk => decide +kernel); conv => whnf)
        | (refine step_kinds 3 ?hk ?_; (case hk => decide +kernel); conv => whnf)
        | (refine Num.id (by omega) (by omega) ?_; conv => whnf)
        | (refine Case.strI (fun _ => ?_) (fun _ => ?_) <;> conv => whnf)
        | (refine Both.mk ?_ ?_ <;> conv => whnf)
        | (refine Case.dec (fun _ => ?_) (fun _ => ?_) <;> conv => whnf)
        | (refine Case.beqI (fun _ => ?_) (fun _ => ?_) <;> conv => whnf)
        | (refine Case.mk (fun _ => ?_) (fun _ => ?_) <;> conv => whnf)
        | (refine Way.fst ?_; conv => whnf)
      refine Fin.vbs ?_ rfl rfl
      exact ⟨rfl, rfl, rfl, rfl⟩
    · rw [if_neg c2]
      rw [sIs_ne c2] at b2
      cases ok with
      | false =>
        rw [if_pos rfl]
        conv => whnf
        repeat' first
          | (refine Case.not ?_; conv => whnf)
          | (refine Case.yes ?_; conv => whnf)
          | (refine Case.no ?_; conv => whnf)
          | (refine Case.isTrue (by assumption) ?_; conv => whnf)
          | (refine Case.isFalse (by assumption) ?_; conv => whnf)
          | (refine Case.decT (by assumption) ?_; conv => whnf)
          | (refine Case.decF (by assumption) ?_; conv => whnf)
          | (refine Case.decT (by omega) ?_; conv => whnf)
          | (refine Case.decF (by omega) ?_; conv => whnf)
          | (refine Case.beqT (by omega) ?_; conv => whnf)
          | (refine Case.beqF (by omega) ?_; conv => whnf)
          | (refine Case.strT (by assumption) ?_; conv => whnf)
          | (refine Case.strF (by assumption) ?_; conv => whnf)
          | (refine Case.strF (by simp only [*]; decide) ?_; conv => whnf)
          | (refine w1.call ?_; conv => whnf)
          | (refine s1.call ⟨⟨rfl, rfl, rfl, trivial⟩, rfl, rfl⟩ ?_; conv => whnf)
          | (refine (lowerP_spec _ (hf.text _)).call ⟨rfl, rfl⟩ ?_; conv => whnf)
          | (refine b1.call ?_; conv => whnf)
          | (refine w2.call ?_; conv => whnf)
          | (refine b2.call ?_; conv => whnf)
          | (refine hop.call ?_; conv => whnf)
          | (refine step_kinds 2 ?hk ?_; (case hk => decide +kernel); conv => whnf)
          | (refine step_kinds 3 ?hk ?_; (case hk => decide +kernel); conv => whnf)
          | (refine Num.id (by omega) (by omega) ?_; conv => whnf)
          | (refine Case.strI (fun _ => ?_) (fun _ => ?_) <;> conv => whnf)
          | (refine Both.mk ?_ ?_ <;> conv => whnf)
          | (refine Case.dec (fun _ => ?_) (fun _ => ?_) <;> conv => whnf)
          | (refine Case.beqI (fun _ => ?_) (fun _ => ?_) <;> conv => whnf)
          | (refine Case.mk (fun _ => ?_) (fun _ => ?_) <;> conv => whnf)
          | (refine Way.fst ?_; conv => whnf)
        refine Fin.vbs ?_ rfl rfl
        exact ⟨rfl, rfl, rfl, rfl⟩
      | true =>
        rw [if_neg (by simp)]
        by_cases c4 : (tk t i4).kind = 1 ∨ (tk t i4).kind = 4
        · rw [if_neg (by omega)]
          have hb : sIs t i4 1 = (true, i4 + 1) ∨ (sIs t i4 1 = (false, i4) ∧ sIs t i4 4 = (true, i4 + 1)) := by
            by_cases c5 : (tk t i4).kind = 1
            · exact .inl (sIs_of c5)
            · exact .inr ⟨sIs_ne c5, sIs_of (by omega)⟩
          rcases hb with hb | ⟨hb, hb'⟩
          · rw [hb] at b41
            conv => whnf
            repeat' first
              | (refine Case.not ?_; conv => whnf)
              | (refine Case.yes ?_; conv => whnf)
              | (refine Case.no ?_; conv => whnf)
              | (refine Case.isTrue (by assumption) ?_; conv => whnf)
              | (refine Case.isFalse (by assumption) ?_; conv => whnf)
              | (refine Case.decT (by assumption) ?_; conv => whnf)
              | (refine Case.decF (by assumption) ?_; conv => whnf)
              | (refine Case.decT (by omega) ?_; conv => whnf)
              | (refine Case.decF (by omega) ?_; conv => whnf)
              | (refine Case.beqT (by omega) ?_; conv => whnf)
              | (refine Case.beqF (by omega) ?_; conv => whnf)
              | (refine Case.strT (by assumption) ?_; conv => whnf)
              | (refine Case.strF (by assumption) ?_; conv => whnf)
              | (refine Case.strF (by simp only [*]; decide) ?_; conv => whnf)
              | ((refine step_tree tab_ok mix (.one 1 0 (.two 0 (.one 2 3 (.one 3 3 (.one 4 3 .done))) 2 (.one 0 3 (.one 3 3 (.one 4 3 .done))))) ?hs ?_; (case hs => decide +kernel)); conv => whnf)
              | (refine w1.call ?_; conv => whnf)
              | (refine s1.call ⟨⟨rfl, rfl, rfl, trivial⟩, rfl, rfl⟩ ?_; conv => whnf)
              | (refine (lowerP_spec _ (hf.text _)).call ⟨rfl, rfl⟩ ?_; conv => whnf)
              | (refine b1.call ?_; conv => whnf)
              | (refine w2.call ?_; conv => whnf)
              | (refine b2.call ?_; conv => whnf)
              | (refine hop.call ?_; conv => whnf)
              | (refine w4.call ?_; conv => whnf)
              | (refine s4.call ⟨⟨rfl, rfl, rfl, trivial⟩, rfl, rfl⟩ ?_; conv => whnf)
              | (refine s4.callB ⟨⟨rfl, rfl, rfl, trivial⟩, rfl, rfl⟩ ?_; conv => whnf)
              | (refine b41.call ?_; conv => whnf)
              | (refine w5.call ?_; conv => whnf)
              | (refine b6.call ?_; conv => whnf)
              | (refine step_kinds 2 ?hk ?_; (case hk => decide +kernel); conv => whnf)
              | (refine step_kinds 3 ?hk ?_; (case hk => decide +kernel); conv => whnf)
              | (refine Num.id (by omega) (by omega) ?_; conv => whnf)
              | (refine Case.strI (fun _ => ?_) (fun _ => ?_) <;> conv => whnf)
              | (refine Both.mk ?_ ?_ <;> conv => whnf)
              | (refine Case.dec (fun _ => ?_) (fun _ => ?_) <;> conv => whnf)
              | (refine Case.beqI (fun _ => ?_) (fun _ => ?_) <;> conv => whnf)
              | (refine Case.mk (fun _ => ?_) (fun _ => ?_) <;> conv => whnf)
              | (refine Way.fst ?_; conv => whnf)
            all_goals refine Fin.vbs ?_ rfl rfl
            all_goals exact ⟨rfl, rfl, rfl, rfl⟩
          · rw [hb] at b41
            rw [hb'] at b44
            conv => whnf
            repeat' first
              | (refine Case.not ?_; conv => whnf)
              | (refine Case.yes ?_; conv => whnf)
              | (refine Case.no ?_; conv => whnf)
              | (refine Case.isTrue (by assumption) ?_; conv => whnf)
              | (refine Case.isFalse (by assumption) ?_; conv => whnf)
              | (refine Case.decT (by assumption) ?_; conv => whnf)
              | (refine Case.decF (by assumption) ?_; conv => whnf)
              | (refine Case.decT (by omega) ?_; conv => whnf)
              | (refine Case.decF (by omega) ?_; conv => whnf)
              | (refine Case.beqT (by omega) ?_; conv => whnf)
              | (refine Case.beqF (by omega) ?_; conv => whnf)
              | (refine Case.strT (by assumption) ?_; conv => whnf)
              | (refine Case.strF (by assumption) ?_; conv => whnf)
              | (refine Case.strF (by simp only [*]; decide) ?_; conv => whnf)
              | ((refine step_tree tab_ok mix (.one 1 0 (.two 0 (.one 2 3 (.one 3 3 (.one 4 3 .done))) 2 (.one 0 3 (.one 3 3 (.one 4 3 .done))))) ?hs ?_; (case hs => decide +kernel)); conv => whnf)
              | (refine w1.call ?_; conv => whnf)
              | (refine s1.call ⟨⟨rfl, rfl, rfl, trivial⟩, rfl, rfl⟩ ?_; conv => whnf)
              | (refine (lowerP_spec _ (hf.text _)).call ⟨rfl, rfl⟩ ?_; conv => whnf)
              | (refine b1.call ?_; conv => whnf)
              | (refine w2.call ?_; conv => whnf)
              | (refine b2.call ?_; conv => whnf)
              | (refine hop.call ?_; conv => whnf)
              | (refine w4.call ?_; conv => whnf)
              | (refine s4.call ⟨⟨rfl, rfl, rfl, trivial⟩, rfl, rfl⟩ ?_; conv => whnf)
              | (refine s4.callB ⟨⟨rfl, rfl, rfl, trivial⟩, rfl, rfl⟩ ?_; conv => whnf)
              | (refine b41.call ?_; conv => whnf)
              | (refine b44.call ?_; conv => whnf)
              | (refine w5.call ?_; conv => whnf)
              | (refine b6.call ?_; conv => whnf)
              | (refine step_kinds 2 ?hk ?_; (case hk => decide +kernel); conv => whnf)
              | (refine step_kinds 3 ?hk ?_; (case hk => decide +kernel); conv => whnf)
              | (refine Num.id (by omega) (by omega) ?_; conv => whnf)
              | (refine Case.strI (fun _ => ?_) (fun _ => ?_) <;> conv => whnf)
              | (refine Both.mk ?_ ?_ <;> conv => whnf)
              | (refine Case.dec (fun _ => ?_) (fun _ => ?_) <;> conv => whnf)
              | (refine Case.beqI (fun _ => ?_) (fun _ => ?_) <;> conv => whnf)
              | (refine Case.mk (fun _ => ?_) (fun _ => ?_) <;> conv => whnf)
              | (refine Way.fst ?_; conv => whnf)
            all_goals refine Fin.vbs ?_ rfl rfl
            all_goals exact ⟨rfl, rfl, rfl, rfl⟩
        · rw [if_pos (by omega)]
          rw [sIs_ne (by omega)] at b41
          rw [sIs_ne (by omega)] at b44
          conv => whnf
          repeat' first
            | (refine Case.not ?_; conv => whnf)
            | (refine Case.yes ?_; conv => whnf)
            | (refine Case.no ?_; conv => whnf)
            | (refine Case.isTrue (by assumption) ?_; conv => whnf)
            | (refine Case.isFalse (by assumption) ?_; conv => whnf)
            | (refine Case.decT (by assumption) ?_; conv => whnf)
            | (refine Case.decF (by assumption) ?_; conv => whnf)
            | (refine Case.decT (by omega) ?_; conv => whnf)
            | (refine Case.decF (by omega) ?_; conv => whnf)
            | (refine Case.beqT (by omega) ?_; conv => whnf)
            | (refine Case.beqF (by omega) ?_; conv => whnf)
            | (refine Case.strT (by assumption) ?_; conv => whnf)
            | (refine Case.strF (by assumption) ?_; conv => whnf)
            | (refine Case.strF (by simp only [*]; decide) ?_; conv => whnf)
            | (refine w1.call ?_; conv => whnf)
            | (refine s1.call ⟨⟨rfl, rfl, rfl, trivial⟩, rfl, rfl⟩ ?_; conv => whnf)
            | (refine (lowerP_spec _ (hf.text _)).call ⟨rfl, rfl⟩ ?_; conv => whnf)
            | (refine b1.call ?_; conv => whnf)
            | (refine w2.call ?_; conv => whnf)
            | (refine b2.call ?_; conv => whnf)
            | (refine hop.call ?_; conv => whnf)
            | (refine w4.call ?_; conv => whnf)
            | (refine s4.call ⟨⟨rfl, rfl, rfl, trivial⟩, rfl, rfl⟩ ?_; conv => whnf)
            | (refine s4.callB ⟨⟨rfl, rfl, rfl, trivial⟩, rfl, rfl⟩ ?_; conv => whnf)
            | (refine b41.call ?_; conv => whnf)
            | (refine b44.call ?_; conv => whnf)
            | (refine step_kinds 2 ?hk ?_; (case hk => decide +kernel); conv => whnf)
            | (refine step_kinds 3 ?hk ?_; (case hk => decide +kernel); conv => whnf)
            | (refine Num.id (by omega) (by omega) ?_; conv => whnf)
            | (refine Case.strI (fun _ => ?_) (fun _ => ?_) <;> conv => whnf)
            | (refine Both.mk ?_ ?_ <;> conv => whnf)
            | (refine Case.dec (fun _ => ?_) (fun _ => ?_) <;> conv => whnf)
            | (refine Case.beqI (fun _ => ?_) (fun _ => ?_) <;> conv => whnf)
            | (refine Case.mk (fun _ => ?_) (fun _ => ?_) <;> conv => whnf)
            | (refine Way.fst ?_; conv => whnf)
          refine Fin.vbs ?_ rfl rfl
          exact ⟨rfl, rfl, rfl, rfl⟩
  · rw [if_pos (by omega)]
    rw [sIs_ne c1] at b1
    conv => whnf
    repeat' first
      | (refine Case.not ?_; conv => whnf)
      | (refine Case.yes ?_; conv => whnf)
      | (refine Case.no ?_; conv => whnf)
      | (refine Case.isTrue (by assumption) ?_; conv => whnf)
      | (refine Case.isFalse (by assumption) ?_; conv => whnf)
      | (refine Case.decT (by assumption) ?_; conv => whnf)
      | (refine Case.decF (by assumption) ?_; conv => whnf)
      | (refine Case.decT (by omega) ?_; conv => whnf)
      | (refine Case.decF (by omega) ?_; conv => whnf)
      | (refine Case.beqT (by omega) ?_; conv => whnf)
      | (refine Case.beqF (by omega) ?_; conv => whnf)
      | (refine Case.strT (by assumption) ?_; conv => whnf)
      | (refine Case.strF (by assumption) ?_; conv => whnf)
      | (refine Case.strF (by simp only [*]; decide) ?_; conv => whnf)
      | (refine w1.call ?_; conv => whnf)
      | (refine s1.call ⟨⟨rfl, rfl, rfl, trivial⟩, rfl, rfl⟩ ?_; conv => whnf)
      | (refine (lowerP_spec _ (hf.text _)).call ⟨rfl, rfl⟩ ?_; conv => whnf)
      | (refine b1.call ?_; conv => whnf)
      | (refine step_kinds 2 ?hk ?_; (case hk => decide +kernel); conv => whnf)
      | (refine step_kinds 3 ?hk ?_; (case hk => decide +kernel); conv => whnf)
      | (refine Num.id (by omega) (by omega) ?_; conv => whnf)
      | (refine Case.strI (fun _ => ?_) (fun _ => ?_) <;> conv => whnf)
      | (refine Both.mk ?_ ?_ <;> conv => whnf)
      | (refine Case.dec (fun _ => ?_) (fun _ => ?_) <;> conv => whnf)
      | (refine Case.beqI (fun _ => ?_) (fun _ => ?_) <;> conv => whnf)
      | (refine Case.mk (fun _ => ?_) (fun _ => ?_) <;> conv => whnf)
      | (refine Way.fst ?_; conv => whnf)
    refine Fin.vbs ?_ rfl rfl
    exact ⟨rfl, rfl, rfl, rfl⟩
def sNth (t : List Tok) (i : Nat) : Psd × Bool × Nat :=
  if (rNthP (tk t (ws t i))).2 = true then ({}, false, ws t i) else ((rNthP (tk t (ws t i))).1, sIs t (ws t (ws t i + 1)) 17)
theorem rNthP_list (k : Tok) : (rNthP k).1.list = [] := by
  unfold rNthP
  repeat' split
  all_goals rfl
theorem sNth_list (t : List Tok) (i : Nat) : (sNth t i).1.list = [] := by
  unfold sNth
  split
  · rfl
  · exact rNthP_list _
set_option maxHeartbeats 1000000 in
theorem snth_spec {t : List Tok} (hf : Fit t) (a : Nat) (q : Int) (ha : a ≤ t.length + 4) : SMeth 76 [] t a q (.tup [(sNth t a).1.d, bool (sNth t a).2.1]) (sNth t a).2.2 := by
  refine ⟨trivial, ⟨⟨trivial, trivial, trivial, trivial, trivial⟩, trivial, trivial⟩, spec_mk tab_ok Try.func76 (by rfl) rfl ?_⟩
  have hl := hf.len
  have hlist := sNth_list t a
  unfold sNth at *
  have k1 := ws_le t a
  have w1 := swhite_spec t (by omega) a q (by omega)
  generalize hi1 : ws t a = i1 at *
  have k2 := ws_le t (i1 + 1)
  have w2 := swhite_spec t (by omega) (i1 + 1) q (by omega)
  generalize hi2 : ws t (i1 + 1) = i2 at *
  have hn1 := hf.n i1
  have s1 := sat_at t (by omega) i1 q (by omega) 0 i1 (by omega) (by omega) (by omega)
  have b2 := sis_spec t (by omega) i2 q (by omega) 17
  conv => whnf
  repeat' first
    | (refine Case.not ?_; conv => whnf)
    | (refine Case.yes ?_; conv => whnf)
    | (refine Case.no ?_; conv => whnf)
    | (refine Case.isTrue (by assumption) ?_; conv => whnf)
    | (refine Case.isFalse (by assumption) ?_; conv => whnf)
    | (refine Case.decT (by assumption) ?_; conv => whnf)
    | (refine Case.decF (by assumption) ?_; conv => whnf)
    | (refine Case.decT (by omega) ?_; conv => whnf)
    | (refine Case.decF (by omega) ?_; conv => whnf)
    | (refine Case.beqT (by omega) ?_; conv => whnf)
    | (refine Case.beqF (by omega) ?_; conv => whnf)
    | (refine Case.strT (by assumption) ?_; conv => whnf)
    | (refine Case.strF (by assumption) ?_; conv => whnf)
    | (refine Case.strF (by simp only [*]; decide) ?_; conv => whnf)
    | ((refine step_tree tab_ok mix (.one 1 0 (.two 0 (.one 2 3 (.one 3 3 (.one 4 3 .done))) 2 (.one 0 3 (.one 3 3 (.one 4 3 .done))))) ?hs ?_; (case hs => decide +kernel)); conv => whnf)
    | (refine w1.call ?_; conv => whnf)
    | (refine s1.call ⟨⟨rfl, rfl, rfl, trivial⟩, rfl, rfl⟩ ?_; conv => whnf)
    | (refine (lowerP_spec _ (hf.text _)).call ⟨rfl, rfl⟩ ?_; conv => whnf)
    | (refine Owes.mk (by decide) ?_; conv => whnf)
    | (refine Num.id (tdiv1000 hn1).1 (tdiv1000 hn1).2 ?_; conv => whnf)
    | (refine w2.call ?_; conv => whnf)
    | (refine b2.call ?_; conv => whnf)
    | (refine step_kinds 2 ?hk ?_; (case hk => decide +kernel); conv => whnf)
    | (refine step_kinds 3 ?hk ?_; (case hk => decide +kernel); conv => whnf)
    | (refine Num.id (by omega) (by omega) ?_; conv => whnf)
    | (refine Case.strI (fun _ => ?_) (fun _ => ?_) <;> conv => whnf)
    | (refine Both.mk ?_ ?_ <;> conv => whnf)
    | (refine Case.dec (fun _ => ?_) (fun _ => ?_) <;> conv => whnf)
    | (refine Case.beqI (fun _ => ?_) (fun _ => ?_) <;> conv => whnf)
    | (refine Case.mk (fun _ => ?_) (fun _ => ?_) <;> conv => whnf)
    | (refine Way.fst ?_; conv => whnf)
  ·
    have e : rNthP (tk t i1) = ({ kind := 6, a := 2, b := 1 }, false) := by
      unfold rNthP oddB evenB
      (rw [if_pos ⟨by assumption, by assumption⟩])
    rw [e, if_neg (by simp)]
    refine Fin.vbs ?_ rfl rfl
    exact ⟨rfl, rfl, rfl, rfl, rfl⟩
  ·
    have e : rNthP (tk t i1) = ({ kind := 6, a := 2, b := 1 }, false) := by
      unfold rNthP oddB evenB
      (rw [if_pos ⟨by assumption, by assumption⟩])
    rw [e, if_neg (by simp)]
    refine Fin.vbs ?_ rfl rfl
    exact ⟨rfl, rfl, rfl, rfl, rfl⟩
  ·
    have e : rNthP (tk t i1) = ({ kind := 6, a := 2 }, false) := by
      unfold rNthP oddB evenB
      (rw [if_neg (by simp [*]), if_pos ⟨by assumption, by assumption⟩])
    rw [e, if_neg (by simp)]
    refine Fin.vbs ?_ rfl rfl
    exact ⟨rfl, rfl, rfl, rfl, rfl⟩
  ·
    have e : rNthP (tk t i1) = ({ kind := 6, a := 2 }, false) := by
      unfold rNthP oddB evenB
      (rw [if_neg (by simp [*]), if_pos ⟨by assumption, by assumption⟩])
    rw [e, if_neg (by simp)]
    refine Fin.vbs ?_ rfl rfl
    exact ⟨rfl, rfl, rfl, rfl, rfl⟩
  ·
    have e : rNthP (tk t i1) = ({ kind := 6 }, true) := by
      unfold rNthP oddB evenB
      (rw [if_neg (by simp [*]), if_neg (by simp [*]), if_neg (by simp [*])])
    rw [e, if_pos rfl]
    refine Fin.vbs ?_ rfl rfl
    exact ⟨rfl, rfl, rfl, rfl, rfl⟩
  ·
    have e : rNthP (tk t i1) = ({ kind := 6, b := (tk t i1).n.tdiv 1000 }, false) := by
      unfold rNthP oddB evenB
      (rw [if_neg (by simp [*]), if_neg (by simp [*]), if_pos ⟨by assumption, by assumption⟩])
    rw [e, if_neg (by simp)]
    refine Fin.vbs ?_ rfl rfl
    exact ⟨rfl, rfl, rfl, rfl, rfl⟩
  ·
    have e : rNthP (tk t i1) = ({ kind := 6, b := (tk t i1).n.tdiv 1000 }, false) := by
      unfold rNthP oddB evenB
      (rw [if_neg (by simp [*]), if_neg (by simp [*]), if_pos ⟨by assumption, by assumption⟩])
    rw [e, if_neg (by simp)]
    refine Fin.vbs ?_ rfl rfl
    exact ⟨rfl, rfl, rfl, rfl, rfl⟩
  ·
    have e : rNthP (tk t i1) = ({ kind := 6 }, true) := by
      unfold rNthP oddB evenB
      (rw [if_neg (by simp [*]), if_neg (by simp [*]), if_neg (by simp [*])])
    rw [e, if_pos rfl]
    refine Fin.vbs ?_ rfl rfl
    exact ⟨rfl, rfl, rfl, rfl, rfl⟩
  ·
    have e : rNthP (tk t i1) = ({ kind := 6 }, true) := by
      unfold rNthP oddB evenB
      (rw [if_neg (by simp [*]), if_neg (by simp [*]), if_neg (by simp [*])])
    rw [e, if_pos rfl]
    refine Fin.vbs ?_ rfl rfl
    exact ⟨rfl, rfl, rfl, rfl, rfl⟩
/-- Lists one deeper: selectors, whether they are right, and where they end. -/
abbrev SNest := Nat → List Selr × Bool × Nat
def sNested (deepest : Bool) (nest : SNest) (t : List Tok) (kind : Int) (i : Nat) : Psd × Bool × Nat :=
  if deepest = true then ({}, false, i) else
  if (nest i).2.1 = true then ({ kind := kind, list := (nest i).1.map selRow }, sIs t (nest i).2.2 17) else ({ kind := kind, list := (nest i).1.map selRow }, false, (nest i).2.2)
def sPseudo (deepest : Bool) (nest : SNest) (t : List Tok) (i : Nat) : Psd × Bool × Nat :=
  if (tk t i).kind = 1 then ({ kind := fiveN (tk t i).text }, decide (fiveN (tk t i).text ≠ 0), i + 1)
  else if (tk t i).kind ≠ 20 then ({}, false, i + 1)
  else if lower (tk t i).text = nthB then sNth t (i + 1)
  else if lower (tk t i).text = notB then sNested deepest nest t 7 (i + 1)
  else if lower (tk t i).text = isB then sNested deepest nest t 8 (i + 1)
  else ({}, false, i + 1)
def SListOk (nest : SNest) (t : List Tok) (q : Int) : Prop := ∀ a, a ≤ t.length → SMeth 20 [] t a q (.tup [.f (.sl ((nest a).1.map selRow)), bool (nest a).2.1]) (nest a).2.2
set_option maxHeartbeats 1000000 in
theorem snested_spec {nest : SNest} {t : List Tok} (hf : Fit t) {q : Int} (hq : 0 ≤ q ∧ q ≤ 8) (hU : ∀ a, a ≤ t.length → (nest a).2.2 ≤ t.length + 4) (hN : q < 8 → SListOk nest t (q + 1)) (kind : Int) (a : Nat) (ha : a ≤ t.length) :
    SMeth 77 [int kind] t a q (.tup [(sNested (decide (q = 8)) nest t kind a).1.d, bool (sNested (decide (q = 8)) nest t kind a).2.1]) (sNested (decide (q = 8)) nest t kind a).2.2 := by
  refine ⟨⟨trivial, trivial⟩, ⟨⟨trivial, trivial, trivial, trivial, trivial⟩, trivial, trivial⟩, spec_mk tab_ok Try.func77 (by rfl) rfl ?_⟩
  have hl := hf.len
  unfold sNested
  by_cases h8 : q = 8
  · rw [if_pos (by simp [h8])]
    conv => whnf
    repeat' first
      | (refine Case.not ?_; conv => whnf)
      | (refine Case.yes ?_; conv => whnf)
      | (refine Case.no ?_; conv => whnf)
      | (refine Case.isTrue (by assumption) ?_; conv => whnf)
      | (refine Case.isFalse (by assumption) ?_; conv => whnf)
      | (refine Case.decT (by assumption) ?_; conv => whnf)
      | (refine Case.decF (by assumption) ?_; conv => whnf)
      | (refine Case.decT (by omega) ?_; conv => whnf)
      | (refine Case.decF (by omega) ?_; conv => whnf)
      | (refine Case.beqT (by omega) ?_; conv => whnf)
      | (refine Case.beqF (by omega) ?_; conv => whnf)
      | (refine Case.strT (by assumption) ?_; conv => whnf)
      | (refine Case.strF (by assumption) ?_; conv => whnf)
      | (refine Case.strF (by simp only [*]; decide) ?_; conv => whnf)
      | (refine step_kinds 2 ?hk ?_; (case hk => decide +kernel); conv => whnf)
      | (refine step_kinds 3 ?hk ?_; (case hk => decide +kernel); conv => whnf)
      | (refine Num.id (by omega) (by omega) ?_; conv => whnf)
      | (refine Case.strI (fun _ => ?_) (fun _ => ?_) <;> conv => whnf)
      | (refine Both.mk ?_ ?_ <;> conv => whnf)
      | (refine Case.dec (fun _ => ?_) (fun _ => ?_) <;> conv => whnf)
      | (refine Case.beqI (fun _ => ?_) (fun _ => ?_) <;> conv => whnf)
      | (refine Case.mk (fun _ => ?_) (fun _ => ?_) <;> conv => whnf)
      | (refine Way.fst ?_; conv => whnf)
    refine Fin.vbs ?_ rfl rfl
    exact ⟨rfl, rfl, rfl, rfl, rfl⟩
  · rw [if_neg (by simp [h8])]
    have hsp := hN (by omega) a ha
    have hu := hU a ha
    have hi := sis_spec t (by omega) (nest a).2.2 q (by omega) 17
    rcases hn : nest a with ⟨l, ok, p⟩
    simp only [hn] at hsp hu hi
    have hq1 : q + 1 - 1 = q := by omega
    cases ok with
    | false =>
      rw [if_neg (by simp)]
      conv => whnf
      repeat' first
        | (refine Case.not ?_; conv => whnf)
        | (refine Case.yes ?_; conv => whnf)
        | (refine Case.no ?_; conv => whnf)
        | (refine Case.isTrue (by assumption) ?_; conv => whnf)
        | (refine Case.isFalse (by assumption) ?_; conv => whnf)
        | (refine Case.decT (by assumption) ?_; conv => whnf)
        | (refine Case.decF (by assumption) ?_; conv => whnf)
        | (refine Case.decT (by omega) ?_; conv => whnf)
        | (refine Case.decF (by omega) ?_; conv => whnf)
        | (refine Case.beqT (by omega) ?_; conv => whnf)
        | (refine Case.beqF (by omega) ?_; conv => whnf)
        | (refine Case.strT (by assumption) ?_; conv => whnf)
        | (refine Case.strF (by assumption) ?_; conv => whnf)
        | (refine Case.strF (by simp only [*]; decide) ?_; conv => whnf)
        | (refine hsp.call ?_; conv => whnf)
        | (refine step_kinds 2 ?hk ?_; (case hk => decide +kernel); conv => whnf)
        | (refine step_kinds 3 ?hk ?_; (case hk => decide +kernel); conv => whnf)
        | (refine Num.id (by omega) (by omega) ?_; conv => whnf)
        | (refine Case.strI (fun _ => ?_) (fun _ => ?_) <;> conv => whnf)
        | (refine Both.mk ?_ ?_ <;> conv => whnf)
        | (refine Case.dec (fun _ => ?_) (fun _ => ?_) <;> conv => whnf)
        | (refine Case.beqI (fun _ => ?_) (fun _ => ?_) <;> conv => whnf)
        | (refine Case.mk (fun _ => ?_) (fun _ => ?_) <;> conv => whnf)
        | (refine Way.fst ?_; conv => whnf)
      rw [hq1]
      refine Fin.vbs ?_ rfl rfl
      exact ⟨rfl, rfl, rfl, rfl, rfl⟩
    | true =>
      rw [if_pos rfl]
      conv => whnf
      repeat' first
        | (refine Case.not ?_; conv => whnf)
        | (refine Case.yes ?_; conv => whnf)
        | (refine Case.no ?_; conv => whnf)
        | (refine Case.isTrue (by assumption) ?_; conv => whnf)
        | (refine Case.isFalse (by assumption) ?_; conv => whnf)
        | (refine Case.decT (by assumption) ?_; conv => whnf)
        | (refine Case.decF (by assumption) ?_; conv => whnf)
        | (refine Case.decT (by omega) ?_; conv => whnf)
        | (refine Case.decF (by omega) ?_; conv => whnf)
        | (refine Case.beqT (by omega) ?_; conv => whnf)
        | (refine Case.beqF (by omega) ?_; conv => whnf)
        | (refine Case.strT (by assumption) ?_; conv => whnf)
        | (refine Case.strF (by assumption) ?_; conv => whnf)
        | (refine Case.strF (by simp only [*]; decide) ?_; conv => whnf)
        | (refine hsp.call ?_; conv => whnf)
        | (refine step_kinds 2 ?hk ?_; (case hk => decide +kernel); conv => whnf)
        | (refine step_kinds 3 ?hk ?_; (case hk => decide +kernel); conv => whnf)
        | (refine Num.id (by omega) (by omega) ?_; conv => whnf)
        | (refine Case.strI (fun _ => ?_) (fun _ => ?_) <;> conv => whnf)
        | (refine Both.mk ?_ ?_ <;> conv => whnf)
        | (refine Case.dec (fun _ => ?_) (fun _ => ?_) <;> conv => whnf)
        | (refine Case.beqI (fun _ => ?_) (fun _ => ?_) <;> conv => whnf)
        | (refine Case.mk (fun _ => ?_) (fun _ => ?_) <;> conv => whnf)
        | (refine Way.fst ?_; conv => whnf)
      rw [hq1]
      repeat' first
        | (refine Case.not ?_; conv => whnf)
        | (refine Case.yes ?_; conv => whnf)
        | (refine Case.no ?_; conv => whnf)
        | (refine Case.isTrue (by assumption) ?_; conv => whnf)
        | (refine Case.isFalse (by assumption) ?_; conv => whnf)
        | (refine Case.decT (by assumption) ?_; conv => whnf)
        | (refine Case.decF (by assumption) ?_; conv => whnf)
        | (refine Case.decT (by omega) ?_; conv => whnf)
        | (refine Case.decF (by omega) ?_; conv => whnf)
        | (refine Case.beqT (by omega) ?_; conv => whnf)
        | (refine Case.beqF (by omega) ?_; conv => whnf)
        | (refine Case.strT (by assumption) ?_; conv => whnf)
        | (refine Case.strF (by assumption) ?_; conv => whnf)
        | (refine Case.strF (by simp only [*]; decide) ?_; conv => whnf)
        | (refine hi.call ?_; conv => whnf)
        | (refine step_kinds 2 ?hk ?_; (case hk => decide +kernel); conv => whnf)
        | (refine step_kinds 3 ?hk ?_; (case hk => decide +kernel); conv => whnf)
        | (refine Num.id (by omega) (by omega) ?_; conv => whnf)
        | (refine Case.strI (fun _ => ?_) (fun _ => ?_) <;> conv => whnf)
        | (refine Both.mk ?_ ?_ <;> conv => whnf)
        | (refine Case.dec (fun _ => ?_) (fun _ => ?_) <;> conv => whnf)
        | (refine Case.beqI (fun _ => ?_) (fun _ => ?_) <;> conv => whnf)
        | (refine Case.mk (fun _ => ?_) (fun _ => ?_) <;> conv => whnf)
        | (refine Way.fst ?_; conv => whnf)
      refine Fin.vbs ?_ rfl rfl
      exact ⟨rfl, rfl, rfl, rfl, rfl⟩
/-- A contract that hands back a value with an empty list in it. -/
theorem pseudo_nil {p : Psd} (h : p.list = []) : intoD 0 0 1 (.agg [int p.kind, int p.a, int p.b, .f (.sl [])]) p.d := by
  obtain ⟨k, a, b, l⟩ := p
  simp only at h
  subst h
  exact ⟨rfl, rfl, rfl, rfl, rfl⟩
set_option maxHeartbeats 2000000 in
theorem spseudo_spec {nest : SNest} {t : List Tok} (hf : Fit t) {q : Int} (hq : 0 ≤ q ∧ q ≤ 8) (hU : ∀ a, a ≤ t.length → (nest a).2.2 ≤ t.length + 4) (hN : q < 8 → SListOk nest t (q + 1)) (a : Nat) (ha : a ≤ t.length) :
    SMeth 70 [] t a q (.tup [(sPseudo (decide (q = 8)) nest t a).1.d, bool (sPseudo (decide (q = 8)) nest t a).2.1]) (sPseudo (decide (q = 8)) nest t a).2.2 := by
  refine ⟨trivial, ⟨⟨trivial, trivial, trivial, trivial, trivial⟩, trivial, trivial⟩, spec_mk tab_ok Try.func70 (by rfl) rfl ?_⟩
  have hl := hf.len
  have hlt := tk_or t a
  unfold sPseudo
  conv => whnf
  repeat' first
    | (refine Case.not ?_; conv => whnf)
    | (refine Case.yes ?_; conv => whnf)
    | (refine Case.no ?_; conv => whnf)
    | (refine Case.isTrue (by assumption) ?_; conv => whnf)
    | (refine Case.isFalse (by assumption) ?_; conv => whnf)
    | (refine Case.decT (by assumption) ?_; conv => whnf)
    | (refine Case.decF (by assumption) ?_; conv => whnf)
    | (refine Case.decT (by omega) ?_; conv => whnf)
    | (refine Case.decF (by omega) ?_; conv => whnf)
    | (refine Case.beqT (by omega) ?_; conv => whnf)
    | (refine Case.beqF (by omega) ?_; conv => whnf)
    | (refine Case.strT (by assumption) ?_; conv => whnf)
    | (refine Case.strF (by assumption) ?_; conv => whnf)
    | (refine Case.strF (by simp only [*]; decide) ?_; conv => whnf)
    | (refine (sat_at t (by omega) a q (by omega) _ a (by omega) (by omega) (by omega)).call ⟨⟨rfl, rfl, rfl, trivial⟩, rfl, rfl⟩ ?_; conv => whnf)
    | (refine (splain_spec _ (hf.text _)).call ⟨rfl, rfl⟩ ?_; conv => whnf)
    | (refine (lowerP_spec _ (hf.text _)).call ⟨rfl, rfl⟩ ?_; conv => whnf)
    | (refine (snth_spec hf (a + 1) q (by omega)).call ?_; conv => whnf)
    | (refine (snested_spec hf hq hU hN _ (a + 1) (by omega)).call ?_; conv => whnf)
    | (refine step_kinds 2 ?hk ?_; (case hk => decide +kernel); conv => whnf)
    | (refine step_kinds 3 ?hk ?_; (case hk => decide +kernel); conv => whnf)
    | (refine Num.id (by omega) (by omega) ?_; conv => whnf)
    | (refine Case.strI (fun _ => ?_) (fun _ => ?_) <;> conv => whnf)
    | (refine Both.mk ?_ ?_ <;> conv => whnf)
    | (refine Case.dec (fun _ => ?_) (fun _ => ?_) <;> conv => whnf)
    | (refine Case.beqI (fun _ => ?_) (fun _ => ?_) <;> conv => whnf)
    | (refine Case.mk (fun _ => ?_) (fun _ => ?_) <;> conv => whnf)
    | (refine Way.fst ?_; conv => whnf)
  · rw [if_pos (by assumption)]
    refine Fin.vbs ?_ rfl ?_
    · exact ⟨rfl, rfl, rfl, rfl, rfl⟩
    · rw [Bool.eq_iff_iff]; simp
  · rw [if_neg (by assumption), if_neg (by omega), if_pos (by assumption)]
    refine Fin.vbs ?_ rfl rfl
    exact ⟨rfl, rfl, rfl, rfl, rfl⟩
  · rw [if_neg (by assumption), if_neg (by omega), if_neg (by assumption), if_pos (by assumption)]
    refine Fin.vbs ?_ rfl rfl
    exact ⟨rfl, rfl, rfl, rfl, rfl⟩
  · rw [if_neg (by assumption), if_neg (by omega), if_neg (by assumption), if_neg (by assumption), if_pos (by assumption)]
    refine Fin.vbs ?_ rfl rfl
    exact ⟨rfl, rfl, rfl, rfl, rfl⟩
  · rw [if_neg (by assumption), if_neg (by omega), if_neg (by assumption), if_neg (by assumption), if_neg (by assumption)]
    refine Fin.vbs ?_ rfl rfl
    exact ⟨rfl, rfl, rfl, rfl, rfl⟩
  · rw [if_neg (by assumption), if_pos (by omega)]
    refine Fin.vbs ?_ rfl rfl
    exact ⟨rfl, rfl, rfl, rfl, rfl⟩
end Go.Proofs.Ytdfiegleaknleaa.Aw
