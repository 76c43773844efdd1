/- The picker's selectors and lists; Selectors. -/
import Derived.Test.YtdfiegleaknleaaXrQ
namespace Go.Proofs.Ytdfiegleaknleaa.Aw
open Go Go.RowKit Go.Lib
set_option linter.unusedVariables false
set_option linter.unusedSimpArgs false
set_option maxRecDepth 100000
theorem rSelRun_fuel {nest : Nest} {t : List Tok} (hF : ∀ i, i ≤ t.length → Far t i (nest i).2.1 (nest i).2.2) : ∀ (f g i : Nat) (cb : Int) (ps : Selr), i ≤ t.length → t.length - i < f → t.length - i < g → rSelRun nest t f i cb ps = rSelRun nest t g i cb ps
  | 0, _, _, _, _, _, h, _ => by omega
  | f + 1, 0, _, _, _, _, _, h => by omega
  | f + 1, g + 1, i, cb, ps, hi, h1, h2 => by
    have hc := rCmp_far hF hi
    have k1 := ws_le t (rCmp nest t i).2.1
    have k2 := ws_le t (ws t (rCmp nest t i).2.1 + 1)
    unfold rSelRun
    split
    · rfl
    rename_i hb
    have hb := hc.ok (by simpa using hb)
    split
    · rename_i h
      have := pcomb_lt h
      exact rSelRun_fuel hF f g _ _ _ (by omega) (by omega) (by omega)
    split
    · rfl
    split
    · rfl
    · exact rSelRun_fuel hF f g _ _ _ (by omega) (by omega) (by omega)
theorem rListRun_fuel {nest : Nest} {t : List Tok} (hF : ∀ i, i ≤ t.length → Far t i (nest i).2.1 (nest i).2.2) (q : Int) : ∀ (f g i : Nat) (out : List Selr), i ≤ t.length → t.length - i < f → t.length - i < g → rListRun nest t q f i out = rListRun nest t q g i out
  | 0, _, _, _, _, h, _ => by omega
  | f + 1, 0, _, _, _, _, h => by omega
  | f + 1, g + 1, i, out, hi, h1, h2 => by
    have k1 := ws_le t i
    have hc := rSelRun_far hF (t.length + 1) (ws t i) 0 [] (by omega)
    rw [← rSel] at hc
    unfold rListRun
    split
    · rfl
    rename_i hb
    have hb := hc.ok (by simpa using hb)
    split
    · have := tk_lt (t := t) (i := (rSel nest t (ws t i)).2.1) (by omega)
      exact rListRun_fuel hF q f g _ _ (by omega) (by omega) (by omega)
    · rfl
abbrev partsO (ps : Selr) : D := .own 0 42 6 (ps.map partRow)
structure SelI (nest : Nest) (t : List Tok) (a : Nat) (s : Nat × Int × Selr) : Prop where
  le : s.1 ≤ t.length
  sz : s.2.2.length ≤ s.1
  run : ∀ f, t.length - s.1 < f → rSelRun nest t f s.1 s.2.1 s.2.2 = rSel nest t a
theorem Fin.selr {ps : Selr} {t : List Tok} {p : Int} {b b' : Bool} {q q' : Int} {more : Hp} {n : Nat} {R : D → Hp → Prop} {rows : List (List F)} (a : Nat) (hr : rows = ps.map partRow) (hp : p = a) (hb : b = b') (hq : q = q') (hR : R (.agg [.f (.sl (ps.map partRow))]) [some (pkr t a b' q')]) : Fin (.agg [.own 0 42 6 rows]) (some [.f (.sl (toksF t)), int p, bool b, int q] :: more) n 1 0 R := by
  subst hr
  refine Fin.frz 0 ?_
  refine Fin.pkc (d' := .agg [.f (.sl (ps.map partRow))]) a ?_ hp hb hq hR
  repeat' first | exact rfl | exact trivial | apply And.intro
set_option maxHeartbeats 4000000 in
theorem rsel_spec {nest : Nest} {t : List Tok} (hf : Fit t) {q : Int} (hF : ∀ i, i ≤ t.length → Far t i (nest i).2.1 (nest i).2.2) (hN : InnerOk nest t q) (a : Nat) (ha : a ≤ t.length) : PMeth 30 t a false q (.agg [.f (.sl ((rSel nest t a).1.map partRow))]) (rSel nest t a).2.1 (rSel nest t a).2.2 := by
  refine ⟨⟨trivial, trivial⟩, spec_mk tab_ok Try.func30 (by rfl) rfl ?_⟩
  have hl := hf.len
  conv => whnf
  refine step_loop tab_ok (fun s : Nat × Int × Selr => padK [.ptr 0 0, .junk, .ptr 1 0, .ptr 2 0, int s.2.1] 54) (fun s => [some (pkr t s.1 false q), some [.junk], some [partsO s.2.2]]) 1 (SelI nest t a) (fun s => t.length - s.1) (a, 0, []) ⟨ha, by simp, fun f hf => rSelRun_fuel hF _ _ _ _ _ ha hf (by dsimp only at hf ⊢; omega)⟩ (fun _ => rfl) ?_ ?_
  ·
    repeat' first | exact trivial | exact rfl | exact Nat.zero_le _ | exact Nat.zero_lt_succ _ | exact (by decide : (0 : Nat) < 1) | exact (by decide : (1 : Nat) < 4) | exact (by decide : (2 : Nat) < 4) | exact (by decide : (3 : Nat) < 4) | exact (by decide : (1 : Nat) < 2) | exact (by decide : (2 : Nat) < 3) | exact congrArg int (by (try dsimp only); omega) | exact congrArg bool (by (try dsimp only); simp; omega) | (show _ < List.length _; simp; done) | apply And.intro
  · rintro ⟨i, cb, ps⟩ ⟨h1, h2, h3⟩
    simp only at h1 h2 h3
    have e1 := h3 (t.length - i + 1) (by omega)
    rw [rSelRun] at e1
    have hfar := rCmp_far hF h1
    have hsp := rcmp_spec hf hF hN i h1
    have k1 := ws_le t (rCmp nest t i).2.1
    have k2 := ws_le t (ws t (rCmp nest t i).2.1 + 1)
    have l1 : (ps.map partRow).length = ps.length := List.length_map ..
    rcases hr : rCmp nest t i with ⟨c, p, b⟩
    simp only [hr] at e1 hfar hsp k1 k2
    have hup := hfar.up
    have er : ps.map partRow ++ [partRow (cb, c)] = (ps ++ [(cb, c)]).map partRow := by simp
    cases b with
    | true =>
      rw [if_pos rfl] at e1
      conv => whnf
      repeat' first
        | (refine Case.not ?_; conv => whnf)
        | (refine Case.yes ?_; conv => whnf)
        | (refine Case.no ?_; conv => whnf)
        | (refine Case.isTrue (by assumption) ?_; conv => whnf)
        | (refine Case.isFalse (by assumption) ?_; conv => whnf)
        | (refine Case.decT (by assumption) ?_; conv => whnf)
        | (refine Case.decF (by assumption) ?_; conv => whnf)
        | (refine Case.decT (by omega) ?_; conv => whnf)
        | (refine Case.decF (by omega) ?_; conv => whnf)
        | (refine Case.beqT (by omega) ?_; conv => whnf)
        | (refine Case.beqF (by omega) ?_; conv => whnf)
        | (refine Case.strT (by assumption) ?_; conv => whnf)
        | (refine Case.strF (by assumption) ?_; conv => whnf)
        | (refine Case.strF (by simp only [*]; decide) ?_; conv => whnf)
        | (refine step_kinds 2 ?hk ?_; (case hk => decide +kernel); conv => whnf)
        | (refine step_kinds 3 ?hk ?_; (case hk => decide +kernel); conv => whnf)
        | (refine hsp.call ?_; conv => whnf)
        | (refine Owes.mk (by first | (dsimp only [List.length]; omega) | (simp only [List.length_cons, List.length_nil]; omega)) ?_; conv => whnf)
        | (refine Num.id (by omega) (by omega) ?_; conv => whnf)
        | (refine Case.strI (fun _ => ?_) (fun _ => ?_) <;> conv => whnf)
        | (refine Both.mk ?_ ?_ <;> conv => whnf)
        | (refine Case.dec (fun _ => ?_) (fun _ => ?_) <;> conv => whnf)
        | (refine Case.beqI (fun _ => ?_) (fun _ => ?_) <;> conv => whnf)
        | (refine Case.mk (fun _ => ?_) (fun _ => ?_) <;> conv => whnf)
        | (refine Way.fst ?_; conv => whnf)
      rw [← e1]
      refine Fin.selr (ps := ps ++ [(cb, c)]) p er rfl rfl rfl ?_
      exact ⟨rfl, rfl⟩
    | false =>
      have hok := hfar.ok rfl
      rw [if_neg (by simp)] at e1
      conv => whnf
      repeat' first
        | (refine Case.not ?_; conv => whnf)
        | (refine Case.yes ?_; conv => whnf)
        | (refine Case.no ?_; conv => whnf)
        | (refine Case.isTrue (by assumption) ?_; conv => whnf)
        | (refine Case.isFalse (by assumption) ?_; conv => whnf)
        | (refine Case.decT (by assumption) ?_; conv => whnf)
        | (refine Case.decF (by assumption) ?_; conv => whnf)
        | (refine Case.decT (by omega) ?_; conv => whnf)
        | (refine Case.decF (by omega) ?_; conv => whnf)
        | (refine Case.beqT (by omega) ?_; conv => whnf)
        | (refine Case.beqF (by omega) ?_; conv => whnf)
        | (refine Case.strT (by assumption) ?_; conv => whnf)
        | (refine Case.strF (by assumption) ?_; conv => whnf)
        | (refine Case.strF (by simp only [*]; decide) ?_; conv => whnf)
        | (refine step_kinds 2 ?hk ?_; (case hk => decide +kernel); conv => whnf)
        | (refine step_kinds 3 ?hk ?_; (case hk => decide +kernel); conv => whnf)
        | (refine hsp.call ?_; conv => whnf)
        | (refine Owes.mk (by first | (dsimp only [List.length]; omega) | (simp only [List.length_cons, List.length_nil]; omega)) ?_; conv => whnf)
        | (refine (pwhite_spec t (by omega) p false q (by omega)).call ?_; conv => whnf)
        | (refine (pcomb_spec t (by omega) (ws t p) false q (by omega)).call ⟨⟨rfl, rfl, rfl, rfl, trivial⟩, rfl⟩ ?_; conv => whnf)
        | (refine (pwhite_spec t (by omega) (ws t p + 1) false q (by omega)).call ?_; conv => whnf)
        | (refine (pends_spec t (by omega) (ws t p) false q (by omega)).call ⟨⟨rfl, rfl, rfl, rfl, trivial⟩, rfl⟩ ?_; conv => whnf)
        | (refine Num.id (by omega) (by omega) ?_; conv => whnf)
        | (refine Case.strI (fun _ => ?_) (fun _ => ?_) <;> conv => whnf)
        | (refine Both.mk ?_ ?_ <;> conv => whnf)
        | (refine Case.dec (fun _ => ?_) (fun _ => ?_) <;> conv => whnf)
        | (refine Case.beqI (fun _ => ?_) (fun _ => ?_) <;> conv => whnf)
        | (refine Case.mk (fun _ => ?_) (fun _ => ?_) <;> conv => whnf)
        | (refine Way.fst ?_; conv => whnf)
      · have hlt := pcomb_lt (by assumption : 0 < pcomb t (ws t p))
        rw [if_pos (by assumption)] at e1
        refine ⟨(ws t (ws t p + 1), pcomb t (ws t p), ps ++ [(cb, c)]), ⟨by dsimp only; omega, by dsimp only; rw [List.length_append]; simp; omega, fun f hf => ?_⟩, by dsimp only; omega, ?_⟩
        · dsimp only at hf ⊢
          rw [← e1]
          exact rSelRun_fuel hF _ _ _ _ _ (by omega) hf (by omega)
        ·
          repeat' first | exact trivial | exact rfl | exact Nat.zero_le _ | exact Nat.zero_lt_succ _ | exact (by decide : (0 : Nat) < 1) | exact (by decide : (1 : Nat) < 4) | exact (by decide : (2 : Nat) < 4) | exact (by decide : (3 : Nat) < 4) | exact (by decide : (1 : Nat) < 2) | exact (by decide : (2 : Nat) < 3) | exact congrArg int (by (try dsimp only); omega) | exact congrArg (D.own _ _ _) (by simp [partRow]; done) | exact congrArg bool (by (try dsimp only); simp; omega) | (show _ < List.length _; simp; done) | apply And.intro
      · rw [if_neg (by assumption), if_pos (by assumption)] at e1
        rw [← e1]
        refine Fin.selr (ps := ps ++ [(cb, c)]) (ws t p) er rfl rfl rfl ?_
        exact ⟨rfl, rfl⟩
      · rw [if_neg (by assumption), if_neg (by simp [*]), if_neg (by omega)] at e1
        refine ⟨(ws t p, 1, ps ++ [(cb, c)]), ⟨by dsimp only; omega, by dsimp only; rw [List.length_append]; simp; omega, fun f hf => ?_⟩, by dsimp only; omega, ?_⟩
        · dsimp only at hf ⊢
          rw [← e1]
          exact rSelRun_fuel hF _ _ _ _ _ (by omega) hf (by omega)
        ·
          repeat' first | exact trivial | exact rfl | exact Nat.zero_le _ | exact Nat.zero_lt_succ _ | exact (by decide : (0 : Nat) < 1) | exact (by decide : (1 : Nat) < 4) | exact (by decide : (2 : Nat) < 4) | exact (by decide : (3 : Nat) < 4) | exact (by decide : (1 : Nat) < 2) | exact (by decide : (2 : Nat) < 3) | exact congrArg int (by (try dsimp only); omega) | exact congrArg (D.own _ _ _) (by simp [partRow]; done) | exact congrArg bool (by (try dsimp only); simp; omega) | (show _ < List.length _; simp; done) | apply And.intro
      · rw [if_neg (by assumption), if_neg (by simp [*]), if_pos (by omega)] at e1
        rw [← e1]
        refine Fin.selr (ps := ps ++ [(cb, c)]) (ws t p) er rfl rfl rfl ?_
        exact ⟨rfl, rfl⟩
abbrev selsO (l : List Selr) : D := .own 0 45 1 (l.map selRow)
structure ListI (nest : Nest) (t : List Tok) (q : Int) (a : Nat) (s : Nat × Bool × List Selr) : Prop where
  up : s.1 ≤ t.length + 4
  le : s.2.1 = false → s.1 ≤ t.length ∧ s.2.2.length ≤ s.1
  run : s.2.1 = false → ∀ f, t.length - s.1 < f → rListRun nest t q f s.1 s.2.2 = rList nest t q a
  bad : s.2.1 = true → rList nest t q a = ([], s.1, true)
theorem Fin.sels {l : List Selr} {rows : List (List F)} {t : List Tok} {p : Int} {b b' : Bool} {q q' : Int} {more : Hp} {n : Nat} {R : D → Hp → Prop} (a : Nat) (hr : rows = l.map selRow) (hp : p = a) (hb : b = b') (hq : q = q') (hR : R (.f (.sl (l.map selRow))) [some (pkr t a b' q')]) : Fin (.own 0 45 1 rows) (some [.f (.sl (toksF t)), int p, bool b, int q] :: more) n 1 0 R := by
  subst hr
  refine Fin.frz 0 ?_
  refine Fin.pkc (d' := .f (.sl (l.map selRow))) a ?_ hp hb hq hR
  exact rfl
set_option maxHeartbeats 4000000 in
theorem rlist_spec {nest : Nest} {t : List Tok} (hf : Fit t) {q : Int} (hq : 0 ≤ q ∧ q < 1000) (hF : ∀ i, i ≤ t.length → Far t i (nest i).2.1 (nest i).2.2) (hN : InnerOk nest t q) (a : Nat) (ha : a ≤ t.length) : PMeth 21 t a false q (.f (.sl ((rList nest t q a).1.map selRow))) (rList nest t q a).2.1 (rList nest t q a).2.2 := by
  refine ⟨trivial, spec_mk tab_ok Try.func21 (by rfl) rfl ?_⟩
  have hl := hf.len
  conv => whnf
  refine step_loop tab_ok (fun s : Nat × Bool × List Selr => padK [.ptr 0 0, .junk, .junk, selsO s.2.2] 71) (fun s => [some (pkr t s.1 s.2.1 q)]) 1 (ListI nest t q a) (fun s => if s.2.1 = true then 0 else t.length + 1 - s.1) (a, false, []) ⟨by dsimp only; omega, fun _ => ⟨ha, by simp⟩, fun _ f hf => rListRun_fuel hF q _ _ _ _ ha hf (by dsimp only at hf ⊢; omega), fun h => by simp at h⟩ (fun _ => rfl) ?_ ?_
  ·
    repeat' first | exact trivial | exact rfl | exact Nat.zero_le _ | exact Nat.zero_lt_succ _ | exact (by decide : (0 : Nat) < 1) | exact (by decide : (1 : Nat) < 4) | exact (by decide : (2 : Nat) < 4) | exact (by decide : (3 : Nat) < 4) | exact (by decide : (1 : Nat) < 2) | exact (by decide : (2 : Nat) < 3) | exact congrArg int (by (try dsimp only); omega) | exact congrArg bool (by (try dsimp only); simp; omega) | (show _ < List.length _; simp; done) | apply And.intro
  · rintro ⟨i, b, out⟩ ⟨h1, h2, h3, h4⟩
    simp only at h1 h2 h3 h4
    cases b with
    | true =>
      have h4 := h4 rfl
      conv => whnf
      repeat' first
        | (refine Case.not ?_; conv => whnf)
        | (refine Case.yes ?_; conv => whnf)
        | (refine Case.no ?_; conv => whnf)
        | (refine Case.isTrue (by assumption) ?_; conv => whnf)
        | (refine Case.isFalse (by assumption) ?_; conv => whnf)
        | (refine Case.decT (by assumption) ?_; conv => whnf)
        | (refine Case.decF (by assumption) ?_; conv => whnf)
        | (refine Case.decT (by omega) ?_; conv => whnf)
        | (refine Case.decF (by omega) ?_; conv => whnf)
        | (refine Case.beqT (by omega) ?_; conv => whnf)
        | (refine Case.beqF (by omega) ?_; conv => whnf)
        | (refine Case.strT (by assumption) ?_; conv => whnf)
        | (refine Case.strF (by assumption) ?_; conv => whnf)
        | (refine Case.strF (by simp only [*]; decide) ?_; conv => whnf)
        | (refine step_kinds 2 ?hk ?_; (case hk => decide +kernel); conv => whnf)
        | (refine step_kinds 3 ?hk ?_; (case hk => decide +kernel); conv => whnf)
        | (refine Num.id (by omega) (by omega) ?_; conv => whnf)
        | (refine Case.strI (fun _ => ?_) (fun _ => ?_) <;> conv => whnf)
        | (refine Both.mk ?_ ?_ <;> conv => whnf)
        | (refine Case.dec (fun _ => ?_) (fun _ => ?_) <;> conv => whnf)
        | (refine Case.beqI (fun _ => ?_) (fun _ => ?_) <;> conv => whnf)
        | (refine Case.mk (fun _ => ?_) (fun _ => ?_) <;> conv => whnf)
        | (refine Way.fst ?_; conv => whnf)
      rw [h4]
      refine Fin.pkc i ?_ rfl rfl rfl ⟨rfl, rfl⟩
      exact rfl
    | false =>
      obtain ⟨h2, h5⟩ := h2 rfl
      have h3 := h3 rfl
      clear h4
      have e1 := h3 (t.length - i + 1) (by omega)
      rw [rListRun] at e1
      have k1 := ws_le t i
      have hfar := rSelRun_far hF (t.length + 1) (ws t i) 0 [] (by omega)
      rw [← rSel] at hfar
      have hsp := rsel_spec hf hF hN (ws t i) (by omega)
      rcases hr : rSel nest t (ws t i) with ⟨s, p, b⟩
      simp only [hr] at e1 hfar hsp
      have hup := hfar.up
      have l1 : (out.map selRow).length = out.length := List.length_map ..
      have er : out.map selRow ++ [selRow s] = (out ++ [s]).map selRow := by simp
      cases b with
      | true =>
        rw [if_pos rfl] at e1
        dsimp only
        conv => whnf
        repeat' first
          | (refine Case.not ?_; conv => whnf)
          | (refine Case.yes ?_; conv => whnf)
          | (refine Case.no ?_; conv => whnf)
          | (refine Case.isTrue (by assumption) ?_; conv => whnf)
          | (refine Case.isFalse (by assumption) ?_; conv => whnf)
          | (refine Case.decT (by assumption) ?_; conv => whnf)
          | (refine Case.decF (by assumption) ?_; conv => whnf)
          | (refine Case.decT (by omega) ?_; conv => whnf)
          | (refine Case.decF (by omega) ?_; conv => whnf)
          | (refine Case.beqT (by omega) ?_; conv => whnf)
          | (refine Case.beqF (by omega) ?_; conv => whnf)
          | (refine Case.strT (by assumption) ?_; conv => whnf)
          | (refine Case.strF (by assumption) ?_; conv => whnf)
          | (refine Case.strF (by simp only [*]; decide) ?_; conv => whnf)
          | (refine step_kinds 2 ?hk ?_; (case hk => decide +kernel); conv => whnf)
          | (refine step_kinds 3 ?hk ?_; (case hk => decide +kernel); conv => whnf)
          | (refine (pwhite_spec t (by omega) i false q (by omega)).call ?_; conv => whnf)
          | (refine hsp.call ?_; conv => whnf)
          | (refine Owes.mk (by first | (dsimp only [List.length]; omega) | (simp only [List.length_cons, List.length_nil]; omega)) ?_; conv => whnf)
          | (refine (psee_at t (by omega) p true q (by omega) _ p (by omega) (by omega) (by omega)).call ⟨⟨rfl, rfl, rfl, rfl, trivial⟩, rfl, rfl⟩ ?_; conv => whnf)
          | (refine (pover_spec t (by omega) p true q (by omega)).call ⟨⟨rfl, rfl, rfl, rfl, trivial⟩, rfl⟩ ?_; conv => whnf)
          | (refine Num.id (by omega) (by omega) ?_; conv => whnf)
          | (refine Case.strI (fun _ => ?_) (fun _ => ?_) <;> conv => whnf)
          | (refine Both.mk ?_ ?_ <;> conv => whnf)
          | (refine Case.dec (fun _ => ?_) (fun _ => ?_) <;> conv => whnf)
          | (refine Case.beqI (fun _ => ?_) (fun _ => ?_) <;> conv => whnf)
          | (refine Case.mk (fun _ => ?_) (fun _ => ?_) <;> conv => whnf)
          | (refine Way.fst ?_; conv => whnf)
        refine ⟨(p, true, out ++ [s]), ⟨hup, fun h => by simp at h, fun h => by simp at h, fun _ => e1.symm⟩, by dsimp only; simp; omega, ?_⟩
        repeat' first | exact trivial | exact rfl | exact Nat.zero_le _ | exact Nat.zero_lt_succ _ | exact (by decide : (0 : Nat) < 1) | exact (by decide : (1 : Nat) < 4) | exact (by decide : (2 : Nat) < 4) | exact (by decide : (3 : Nat) < 4) | exact (by decide : (1 : Nat) < 2) | exact (by decide : (2 : Nat) < 3) | exact congrArg int (by (try dsimp only); omega) | exact congrArg (D.own _ _ _) (by simp [selRow]; done) | exact congrArg bool (by (try dsimp only); simp; omega) | (show _ < List.length _; simp; done) | apply And.intro
      | false =>
        have hok := hfar.ok rfl
        rw [if_neg (by simp)] at e1
        dsimp only
        conv => whnf
        repeat' first
          | (refine Case.not ?_; conv => whnf)
          | (refine Case.yes ?_; conv => whnf)
          | (refine Case.no ?_; conv => whnf)
          | (refine Case.isTrue (by assumption) ?_; conv => whnf)
          | (refine Case.isFalse (by assumption) ?_; conv => whnf)
          | (refine Case.decT (by assumption) ?_; conv => whnf)
          | (refine Case.decF (by assumption) ?_; conv => whnf)
          | (refine Case.decT (by omega) ?_; conv => whnf)
          | (refine Case.decF (by omega) ?_; conv => whnf)
          | (refine Case.beqT (by omega) ?_; conv => whnf)
          | (refine Case.beqF (by omega) ?_; conv => whnf)
          | (refine Case.strT (by assumption) ?_; conv => whnf)
          | (refine Case.strF (by assumption) ?_; conv => whnf)
          | (refine Case.strF (by simp only [*]; decide) ?_; conv => whnf)
          | (refine step_kinds 2 ?hk ?_; (case hk => decide +kernel); conv => whnf)
          | (refine step_kinds 3 ?hk ?_; (case hk => decide +kernel); conv => whnf)
          | (refine (pwhite_spec t (by omega) i false q (by omega)).call ?_; conv => whnf)
          | (refine hsp.call ?_; conv => whnf)
          | (refine Owes.mk (by first | (dsimp only [List.length]; omega) | (simp only [List.length_cons, List.length_nil]; omega)) ?_; conv => whnf)
          | (refine (psee_at t (by omega) p false q (by omega) _ p (by omega) (by omega) (by omega)).call ⟨⟨rfl, rfl, rfl, rfl, trivial⟩, rfl, rfl⟩ ?_; conv => whnf)
          | (refine (pover_spec t (by omega) p false q (by omega)).call ⟨⟨rfl, rfl, rfl, rfl, trivial⟩, rfl⟩ ?_; conv => whnf)
          | (refine Num.id (by omega) (by omega) ?_; conv => whnf)
          | (refine Case.strI (fun _ => ?_) (fun _ => ?_) <;> conv => whnf)
          | (refine Both.mk ?_ ?_ <;> conv => whnf)
          | (refine Case.dec (fun _ => ?_) (fun _ => ?_) <;> conv => whnf)
          | (refine Case.beqI (fun _ => ?_) (fun _ => ?_) <;> conv => whnf)
          | (refine Case.mk (fun _ => ?_) (fun _ => ?_) <;> conv => whnf)
          | (refine Way.fst ?_; conv => whnf)
        · have := tk_lt (t := t) (i := p) (by omega)
          rw [if_pos (by assumption)] at e1
          refine ⟨(p + 1, false, out ++ [s]), ⟨by dsimp only; omega, fun _ => ⟨by dsimp only; omega, by dsimp only; rw [List.length_append]; simp; omega⟩, fun _ f hf => ?_, fun h => by simp at h⟩, by dsimp only; simp; omega, ?_⟩
          · dsimp only at hf ⊢
            rw [← e1]
            exact rListRun_fuel hF q _ _ _ _ (by omega) hf (by omega)
          ·
            repeat' first | exact trivial | exact rfl | exact Nat.zero_le _ | exact Nat.zero_lt_succ _ | exact (by decide : (0 : Nat) < 1) | exact (by decide : (1 : Nat) < 4) | exact (by decide : (2 : Nat) < 4) | exact (by decide : (3 : Nat) < 4) | exact (by decide : (1 : Nat) < 2) | exact (by decide : (2 : Nat) < 3) | exact congrArg int (by (try dsimp only); omega) | exact congrArg (D.own _ _ _) (by simp [selRow]; done) | exact congrArg bool (by (try dsimp only); simp; omega) | (show _ < List.length _; simp; done) | apply And.intro
        · rw [if_neg (by assumption), if_pos ⟨by assumption, by assumption⟩] at e1
          rw [← e1]
          refine Fin.sels (l := out ++ [s]) p er rfl rfl rfl ?_
          exact ⟨rfl, rfl⟩
        · rw [if_neg (by assumption), if_neg (by omega), if_pos ⟨by assumption, by omega⟩] at e1
          rw [← e1]
          refine Fin.sels (l := out ++ [s]) (p + 1) er rfl rfl rfl ?_
          exact ⟨rfl, rfl⟩
        · rw [if_neg (by assumption), if_neg (by omega), if_neg (by omega)] at e1
          refine ⟨(p, true, out ++ [s]), ⟨hup, fun h => by simp at h, fun h => by simp at h, fun _ => e1.symm⟩, by dsimp only; simp; omega, ?_⟩
          repeat' first | exact trivial | exact rfl | exact Nat.zero_le _ | exact Nat.zero_lt_succ _ | exact (by decide : (0 : Nat) < 1) | exact (by decide : (1 : Nat) < 4) | exact (by decide : (2 : Nat) < 4) | exact (by decide : (3 : Nat) < 4) | exact (by decide : (1 : Nat) < 2) | exact (by decide : (2 : Nat) < 3) | exact congrArg int (by (try dsimp only); omega) | exact congrArg (D.own _ _ _) (by simp [selRow]; done) | exact congrArg bool (by (try dsimp only); simp; omega) | (show _ < List.length _; simp; done) | apply And.intro
        · rw [if_neg (by assumption), if_neg (by omega), if_pos ⟨by assumption, by omega⟩] at e1
          rw [← e1]
          refine Fin.sels (l := out ++ [s]) (p + 1) er rfl rfl rfl ?_
          exact ⟨rfl, rfl⟩
        · rw [if_neg (by assumption), if_neg (by omega), if_neg (by omega)] at e1
          refine ⟨(p, true, out ++ [s]), ⟨hup, fun h => by simp at h, fun h => by simp at h, fun _ => e1.symm⟩, by dsimp only; simp; omega, ?_⟩
          repeat' first | exact trivial | exact rfl | exact Nat.zero_le _ | exact Nat.zero_lt_succ _ | exact (by decide : (0 : Nat) < 1) | exact (by decide : (1 : Nat) < 4) | exact (by decide : (2 : Nat) < 4) | exact (by decide : (3 : Nat) < 4) | exact (by decide : (1 : Nat) < 2) | exact (by decide : (2 : Nat) < 3) | exact congrArg int (by (try dsimp only); omega) | exact congrArg (D.own _ _ _) (by simp [selRow]; done) | exact congrArg bool (by (try dsimp only); simp; omega) | (show _ < List.length _; simp; done) | apply And.intro
        · rw [if_neg (by assumption), if_neg (by omega), if_neg (by omega)] at e1
          refine ⟨(p, true, out ++ [s]), ⟨hup, fun h => by simp at h, fun h => by simp at h, fun _ => e1.symm⟩, by dsimp only; simp; omega, ?_⟩
          repeat' first | exact trivial | exact rfl | exact Nat.zero_le _ | exact Nat.zero_lt_succ _ | exact (by decide : (0 : Nat) < 1) | exact (by decide : (1 : Nat) < 4) | exact (by decide : (2 : Nat) < 4) | exact (by decide : (3 : Nat) < 4) | exact (by decide : (1 : Nat) < 2) | exact (by decide : (2 : Nat) < 3) | exact congrArg int (by (try dsimp only); omega) | exact congrArg (D.own _ _ _) (by simp [selRow]; done) | exact congrArg bool (by (try dsimp only); simp; omega) | (show _ < List.length _; simp; done) | apply And.intro
theorem rlist_bad {t : List Tok} (ht : t.length < 100000000) (q : Int) (a : Nat) : PMeth 21 t a true q (.f (.sl [])) a true := by
  refine ⟨trivial, spec_mk tab_ok Try.func21 (by rfl) rfl ?_⟩
  conv => whnf
  refine step_loop tab_ok (fun s : Unit => padK [.ptr 0 0] 71) (fun s => [some (pkr t a true q)]) 0 (fun _ => True) (fun _ => 0) () trivial (fun _ => rfl) ?_ ?_
  ·
    repeat' first | exact trivial | exact rfl | exact Nat.zero_le _ | exact Nat.zero_lt_succ _ | exact (by decide : (0 : Nat) < 1) | exact (by decide : (1 : Nat) < 4) | exact (by decide : (2 : Nat) < 4) | exact (by decide : (3 : Nat) < 4) | exact (by decide : (1 : Nat) < 2) | exact (by decide : (2 : Nat) < 3) | exact congrArg int (by (try dsimp only); omega) | exact congrArg bool (by (try dsimp only); simp; omega) | (show _ < List.length _; simp; done) | apply And.intro
  · rintro _ _
    conv => whnf
    repeat' first
      | (refine Case.not ?_; conv => whnf)
      | (refine Case.yes ?_; conv => whnf)
      | (refine Case.no ?_; conv => whnf)
      | (refine Case.isTrue (by assumption) ?_; conv => whnf)
      | (refine Case.isFalse (by assumption) ?_; conv => whnf)
      | (refine Case.decT (by assumption) ?_; conv => whnf)
      | (refine Case.decF (by assumption) ?_; conv => whnf)
      | (refine Case.decT (by omega) ?_; conv => whnf)
      | (refine Case.decF (by omega) ?_; conv => whnf)
      | (refine Case.beqT (by omega) ?_; conv => whnf)
      | (refine Case.beqF (by omega) ?_; conv => whnf)
      | (refine Case.strT (by assumption) ?_; conv => whnf)
      | (refine Case.strF (by assumption) ?_; conv => whnf)
      | (refine Case.strF (by simp only [*]; decide) ?_; conv => whnf)
      | (refine step_kinds 2 ?hk ?_; (case hk => decide +kernel); conv => whnf)
      | (refine step_kinds 3 ?hk ?_; (case hk => decide +kernel); conv => whnf)
      | (refine Num.id (by omega) (by omega) ?_; conv => whnf)
      | (refine Case.strI (fun _ => ?_) (fun _ => ?_) <;> conv => whnf)
      | (refine Both.mk ?_ ?_ <;> conv => whnf)
      | (refine Case.dec (fun _ => ?_) (fun _ => ?_) <;> conv => whnf)
      | (refine Case.beqI (fun _ => ?_) (fun _ => ?_) <;> conv => whnf)
      | (refine Case.mk (fun _ => ?_) (fun _ => ?_) <;> conv => whnf)
      | (refine Way.fst ?_; conv => whnf)
    refine Fin.pkc a ?_ rfl rfl rfl ⟨rfl, rfl⟩
    exact rfl
set_option maxHeartbeats 1000000 in
theorem rinner_spec {t : List Tok} (hf : Fit t) : ∀ (k : Nat) (q : Int), 0 ≤ q → q + k = 8 → InnerOk (rNest t k (q + 1)) t q := by
  intro k
  induction k with
  | zero =>
    intro q h0 h1 a ha
    have hl := hf.len
    have hq : q = 8 := by omega
    subst hq
    refine ⟨trivial, spec_mk tab_ok Try.func73 (by rfl) rfl ?_⟩
    conv => whnf
    repeat' first
      | (refine Case.not ?_; conv => whnf)
      | (refine Case.yes ?_; conv => whnf)
      | (refine Case.no ?_; conv => whnf)
      | (refine Case.isTrue (by assumption) ?_; conv => whnf)
      | (refine Case.isFalse (by assumption) ?_; conv => whnf)
      | (refine Case.decT (by assumption) ?_; conv => whnf)
      | (refine Case.decF (by assumption) ?_; conv => whnf)
      | (refine Case.decT (by omega) ?_; conv => whnf)
      | (refine Case.decF (by omega) ?_; conv => whnf)
      | (refine Case.beqT (by omega) ?_; conv => whnf)
      | (refine Case.beqF (by omega) ?_; conv => whnf)
      | (refine Case.strT (by assumption) ?_; conv => whnf)
      | (refine Case.strF (by assumption) ?_; conv => whnf)
      | (refine Case.strF (by simp only [*]; decide) ?_; conv => whnf)
      | (refine step_kinds 2 ?hk ?_; (case hk => decide +kernel); conv => whnf)
      | (refine step_kinds 3 ?hk ?_; (case hk => decide +kernel); conv => whnf)
      | (refine (rlist_bad hl (8 + 1) a).call ?_; conv => whnf)
      | (refine Num.id (by omega) (by omega) ?_; conv => whnf)
      | (refine Case.strI (fun _ => ?_) (fun _ => ?_) <;> conv => whnf)
      | (refine Both.mk ?_ ?_ <;> conv => whnf)
      | (refine Case.dec (fun _ => ?_) (fun _ => ?_) <;> conv => whnf)
      | (refine Case.beqI (fun _ => ?_) (fun _ => ?_) <;> conv => whnf)
      | (refine Case.mk (fun _ => ?_) (fun _ => ?_) <;> conv => whnf)
      | (refine Way.fst ?_; conv => whnf)
    exact Fin.pk a trivial rfl rfl rfl ⟨rfl, rfl⟩
  | succ k ih =>
    intro q h0 h1 a ha
    have hl := hf.len
    have hsp := rlist_spec hf (q := q + 1) (by omega) (rNest_far t k (q + 1 + 1)) (ih (q + 1) (by omega) (by omega)) a ha
    refine ⟨trivial, spec_mk tab_ok Try.func73 (by rfl) rfl ?_⟩
    unfold rNest
    conv => whnf
    repeat' first
      | (refine Case.not ?_; conv => whnf)
      | (refine Case.yes ?_; conv => whnf)
      | (refine Case.no ?_; conv => whnf)
      | (refine Case.isTrue (by assumption) ?_; conv => whnf)
      | (refine Case.isFalse (by assumption) ?_; conv => whnf)
      | (refine Case.decT (by assumption) ?_; conv => whnf)
      | (refine Case.decF (by assumption) ?_; conv => whnf)
      | (refine Case.decT (by omega) ?_; conv => whnf)
      | (refine Case.decF (by omega) ?_; conv => whnf)
      | (refine Case.beqT (by omega) ?_; conv => whnf)
      | (refine Case.beqF (by omega) ?_; conv => whnf)
      | (refine Case.strT (by assumption) ?_; conv => whnf)
      | (refine Case.strF (by assumption) ?_; conv => whnf)
      | (refine Case.strF (by simp only [*]; decide) ?_; conv => whnf)
      | (refine step_kinds 2 ?hk ?_; (case hk => decide +kernel); conv => whnf)
      | (refine step_kinds 3 ?hk ?_; (case hk => decide +kernel); conv => whnf)
      | (refine hsp.call ?_; conv => whnf)
      | (refine Num.id (by omega) (by omega) ?_; conv => whnf)
      | (refine Case.strI (fun _ => ?_) (fun _ => ?_) <;> conv => whnf)
      | (refine Both.mk ?_ ?_ <;> conv => whnf)
      | (refine Case.dec (fun _ => ?_) (fun _ => ?_) <;> conv => whnf)
      | (refine Case.beqI (fun _ => ?_) (fun _ => ?_) <;> conv => whnf)
      | (refine Case.mk (fun _ => ?_) (fun _ => ?_) <;> conv => whnf)
      | (refine Way.fst ?_; conv => whnf)
    exact Fin.pk _ trivial rfl rfl (by omega) ⟨rfl, rfl⟩
theorem Fin.val {d d' : D} {H : Hp} {n n0 : Nat} {R : D → Hp → Prop} (hd : intoD n n0 0 d d') (hR : R d' []) : Fin d H n 0 n0 R :=
  Fin.mk d' [] hR rfl ⟨by unfold intoL; exact ⟨hd, by unfold intoL; rfl⟩, by unfold intoH; cases H <;> trivial⟩
def rSelectors (t : List Tok) : List Selr × Bool := if 1000 < t.length then ([], false) else if (rNest t 9 0 0).2.2 = true then ([], false) else ((rNest t 9 0 0).1, true)
theorem selectors_spec {t : List Tok} (hf : Fit t) : Val 15 [.f (.sl (toksF t))] (.tup [.f (.sl ((rSelectors t).1.map selRow)), bool (rSelectors t).2]) := by
  have hl := hf.len
  have hlen : (toksF t).length = t.length := by simp
  have hsp := rlist_spec hf (q := 0) (by omega) (rNest_far t 8 (0 + 1)) (rinner_spec hf 8 0 (by omega) (by omega)) 0 (by omega)
  have er : rNest t 9 0 0 = rList (rNest t 8 (0 + 1)) t 0 0 := rfl
  refine ⟨rfl, ⟨trivial, trivial⟩, rfl, spec_mk tab_ok Try.func15 (by rfl) rfl ?_⟩
  unfold rSelectors
  rw [er]
  conv => whnf
  repeat' first
    | (refine Case.not ?_; conv => whnf)
    | (refine Case.yes ?_; conv => whnf)
    | (refine Case.no ?_; conv => whnf)
    | (refine Case.isTrue (by assumption) ?_; conv => whnf)
    | (refine Case.isFalse (by assumption) ?_; conv => whnf)
    | (refine Case.decT (by assumption) ?_; conv => whnf)
    | (refine Case.decF (by assumption) ?_; conv => whnf)
    | (refine Case.decT (by omega) ?_; conv => whnf)
    | (refine Case.decF (by omega) ?_; conv => whnf)
    | (refine Case.beqT (by omega) ?_; conv => whnf)
    | (refine Case.beqF (by omega) ?_; conv => whnf)
    | (refine Case.strT (by assumption) ?_; conv => whnf)
    | (refine Case.strF (by assumption) ?_; conv => whnf)
    | (refine Case.strF (by simp only [*]; decide) ?_; conv => whnf)
    | (refine step_kinds 2 ?hk ?_; (case hk => decide +kernel); conv => whnf)
    | (refine step_kinds 3 ?hk ?_; (case hk => decide +kernel); conv => whnf)
    | (refine hsp.call ?_; conv => whnf)
    | (refine Num.id (by omega) (by omega) ?_; conv => whnf)
    | (refine Case.strI (fun _ => ?_) (fun _ => ?_) <;> conv => whnf)
    | (refine Both.mk ?_ ?_ <;> conv => whnf)
    | (refine Case.dec (fun _ => ?_) (fun _ => ?_) <;> conv => whnf)
    | (refine Case.beqI (fun _ => ?_) (fun _ => ?_) <;> conv => whnf)
    | (refine Case.mk (fun _ => ?_) (fun _ => ?_) <;> conv => whnf)
    | (refine Way.fst ?_; conv => whnf)
  · rw [if_pos (by omega)]
    refine Fin.val (d' := .tup [.f (.sl []), bool false]) ?_ ⟨rfl, rfl⟩
    exact ⟨rfl, rfl, rfl⟩
  · rw [if_neg (by omega), if_pos (by assumption)]
    refine Fin.val (d' := .tup [.f (.sl []), bool false]) ?_ ⟨rfl, rfl⟩
    exact ⟨rfl, rfl, rfl⟩
  · rw [if_neg (by omega), if_neg (by rename_i h; rw [h]; decide)]
    refine Fin.val (d' := .tup [.f (.sl ((rList (rNest t 8 (0 + 1)) t 0 0).1.map selRow)), bool true]) ?_ ⟨rfl, rfl⟩
    exact ⟨rfl, rfl, rfl⟩
end Go.Proofs.Ytdfiegleaknleaa.Aw
