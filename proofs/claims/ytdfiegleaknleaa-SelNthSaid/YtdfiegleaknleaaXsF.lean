/- The program's reader of selectors: selectors, lists, Parse. -/
import Derived.Test.YtdfiegleaknleaaXsE
import Derived.Test.YtdfiegleaknleaaXrR
namespace Go.Proofs.Ytdfiegleaknleaa.Aw
open Go Go.RowKit Go.Lib
set_option linter.unusedVariables false
set_option linter.unusedSimpArgs false
set_option maxRecDepth 100000
theorem sComb_le {t : List Tok} {i : Nat} {q : Int} (hi : i ≤ t.length) : i ≤ (sComb t i q).2.2 ∧ (sComb t i q).2.2 ≤ t.length := by
  have k1 := ws_le t i
  have k2 := ws_le t (ws t i + 1)
  unfold sComb
  split
  · rename_i h
    have := pcomb_lt h
    dsimp only
    omega
  split
  · dsimp only; omega
  · dsimp only; omega
def sSelRun (b : Bool) (nest : SNest) (t : List Tok) (q : Int) : Nat → Nat → Int → Selr → Selr × Bool × Nat
  | 0, i, cb, ps => ([], false, i)
  | f + 1, i, cb, ps =>
    if (sCmp b nest t i).2.1 = false then ([], false, (sCmp b nest t i).2.2)
    else if (sComb t (sCmp b nest t i).2.2 q).2.1 = false then (ps ++ [(cb, (sCmp b nest t i).1)], false, (sComb t (sCmp b nest t i).2.2 q).2.2)
    else if (sComb t (sCmp b nest t i).2.2 q).1 = 0 then (ps ++ [(cb, (sCmp b nest t i).1)], true, (sComb t (sCmp b nest t i).2.2 q).2.2)
    else sSelRun b nest t q f (sComb t (sCmp b nest t i).2.2 q).2.2 (sComb t (sCmp b nest t i).2.2 q).1 (ps ++ [(cb, (sCmp b nest t i).1)])
def sSel (b : Bool) (nest : SNest) (t : List Tok) (q : Int) (i : Nat) : Selr × Bool × Nat := sSelRun b nest t q (t.length + 1) i 0 []
def sListRun (b : Bool) (nest : SNest) (t : List Tok) (q : Int) : Nat → Nat → List Selr → List Selr × Bool × Nat
  | 0, i, out => ([], false, i)
  | f + 1, i, out =>
    if (sSel b nest t q (ws t i)).2.1 = false then ([], false, (sSel b nest t q (ws t i)).2.2)
    else if (tk t (sSel b nest t q (ws t i)).2.2).kind = 13 then sListRun b nest t q f ((sSel b nest t q (ws t i)).2.2 + 1) (out ++ [(sSel b nest t q (ws t i)).1])
    else (out ++ [(sSel b nest t q (ws t i)).1], true, (sSel b nest t q (ws t i)).2.2)
def sList (b : Bool) (nest : SNest) (t : List Tok) (q : Int) (i : Nat) : List Selr × Bool × Nat := sListRun b nest t q (t.length + 1) i []
def sNest (t : List Tok) : Nat → Int → SNest
  | 0, q, i => ([], false, i)
  | k + 1, q, i => sList (decide (q = 8)) (sNest t k (q + 1)) t q i
theorem sSelRun_far {b : Bool} {nest : SNest} {t : List Tok} {q : Int} (hU : ∀ a, a ≤ t.length → SFar t a (nest a).2.1 (nest a).2.2) : ∀ (f i : Nat) (cb : Int) (ps : Selr), i ≤ t.length → SFar t (i + 1) (sSelRun b nest t q f i cb ps).2.1 (sSelRun b nest t q f i cb ps).2.2
  | 0, i, cb, ps, hi => ⟨by unfold sSelRun; dsimp only; omega, by simp [sSelRun]⟩
  | f + 1, i, cb, ps, hi => by
    have hc := sCmp_far (b := b) hU hi
    unfold sSelRun
    split
    · exact ⟨hc.up, by simp⟩
    rename_i hb
    have hb := hc.ok (by simpa using hb)
    have hm := sComb_le (q := q) hb.2
    split
    · exact ⟨by dsimp only; omega, by simp⟩
    split
    · exact ⟨by dsimp only; omega, fun _ => by dsimp only; omega⟩
    · have g := sSelRun_far (b := b) (q := q) hU f (sComb t (sCmp b nest t i).2.2 q).2.2 (sComb t (sCmp b nest t i).2.2 q).1 (ps ++ [(cb, (sCmp b nest t i).1)]) hm.2
      exact ⟨g.up, fun h => by have := g.ok h; omega⟩
theorem sSelRun_fuel {b : Bool} {nest : SNest} {t : List Tok} {q : Int} (hU : ∀ a, a ≤ t.length → SFar t a (nest a).2.1 (nest a).2.2) : ∀ (f g i : Nat) (cb : Int) (ps : Selr), i ≤ t.length → t.length - i < f → t.length - i < g → sSelRun b nest t q f i cb ps = sSelRun b nest t q g i cb ps
  | 0, _, _, _, _, _, h, _ => by omega
  | f + 1, 0, _, _, _, _, _, h => by omega
  | f + 1, g + 1, i, cb, ps, hi, h1, h2 => by
    have hc := sCmp_far (b := b) hU hi
    unfold sSelRun
    split
    · rfl
    rename_i hb
    have hb := hc.ok (by simpa using hb)
    have hm := sComb_le (q := q) hb.2
    split
    · rfl
    split
    · rfl
    · exact sSelRun_fuel hU f g _ _ _ (by omega) (by omega) (by omega)
theorem sListRun_far {b : Bool} {nest : SNest} {t : List Tok} {q : Int} (hU : ∀ a, a ≤ t.length → SFar t a (nest a).2.1 (nest a).2.2) : ∀ (f i : Nat) (out : List Selr), i ≤ t.length → SFar t (i + 1) (sListRun b nest t q f i out).2.1 (sListRun b nest t q f i out).2.2
  | 0, i, out, hi => ⟨by unfold sListRun; dsimp only; omega, by simp [sListRun]⟩
  | f + 1, i, out, hi => by
    have k1 := ws_le t i
    have hc := sSelRun_far (b := b) (q := q) hU (t.length + 1) (ws t i) 0 [] (by omega)
    rw [← sSel] at hc
    unfold sListRun
    split
    · exact ⟨hc.up, by simp⟩
    rename_i hb
    have hb := hc.ok (by simpa using hb)
    split
    · have := tk_lt (t := t) (i := (sSel b nest t q (ws t i)).2.2) (by omega)
      have g := sListRun_far (b := b) (q := q) hU f ((sSel b nest t q (ws t i)).2.2 + 1) (out ++ [(sSel b nest t q (ws t i)).1]) (by omega)
      exact ⟨g.up, fun h => by have := g.ok h; omega⟩
    · exact ⟨by dsimp only; omega, fun _ => by dsimp only; omega⟩
theorem sListRun_fuel {b : Bool} {nest : SNest} {t : List Tok} {q : Int} (hU : ∀ a, a ≤ t.length → SFar t a (nest a).2.1 (nest a).2.2) : ∀ (f g i : Nat) (out : List Selr), i ≤ t.length → t.length - i < f → t.length - i < g → sListRun b nest t q f i out = sListRun b nest t q g i out
  | 0, _, _, _, _, h, _ => by omega
  | f + 1, 0, _, _, _, _, h => by omega
  | f + 1, g + 1, i, out, hi, h1, h2 => by
    have k1 := ws_le t i
    have hc := sSelRun_far (b := b) (q := q) hU (t.length + 1) (ws t i) 0 [] (by omega)
    rw [← sSel] at hc
    unfold sListRun
    split
    · rfl
    rename_i hb
    have hb := hc.ok (by simpa using hb)
    split
    · have := tk_lt (t := t) (i := (sSel b nest t q (ws t i)).2.2) (by omega)
      exact sListRun_fuel hU f g _ _ (by omega) (by omega) (by omega)
    · rfl
theorem sNest_far (t : List Tok) : ∀ (k : Nat) (q : Int) (i : Nat), i ≤ t.length → SFar t i (sNest t k q i).2.1 (sNest t k q i).2.2
  | 0, q, i, hi => ⟨by unfold sNest; dsimp only; omega, by simp [sNest]⟩
  | k + 1, q, i, hi => by
    have := sListRun_far (b := decide (q = 8)) (q := q) (sNest_far t k (q + 1)) (t.length + 1) i [] hi
    unfold sNest sList
    exact ⟨this.up, fun h => by have := this.ok h; omega⟩
structure SSelI (b : Bool) (nest : SNest) (t : List Tok) (q : Int) (a : Nat) (s : Nat × Int × Selr) : Prop where
  le : s.1 ≤ t.length
  sz : s.2.2.length ≤ s.1
  run : ∀ f, t.length - s.1 < f → sSelRun b nest t q f s.1 s.2.1 s.2.2 = sSel b nest t q a
theorem Fin.sselr {ps : Selr} {rows : List (List F)} {k : Bool} {t : List Tok} {p q : Int} {more : Hp} {n : Nat} {R : D → Hp → Prop} (a : Nat) (hr : rows = ps.map partRow) (hp : p = a) (hR : R (.tup [.agg [.f (.sl (ps.map partRow))], bool k]) [some (srd t a q)]) : Fin (.tup [.agg [.own 0 42 6 rows], bool k]) (some [.f (.sl (toksF t)), int p, int q] :: more) n 1 0 R := by
  subst hr
  refine Fin.frz 0 ?_
  refine Fin.sk (d' := .tup [.agg [.f (.sl (ps.map partRow))], bool k]) a ?_ hp rfl hR
  repeat' first | exact rfl | exact trivial | apply And.intro
set_option maxHeartbeats 4000000 in
theorem ssel_spec {nest : SNest} {t : List Tok} (hf : Fit t) {q : Int} (hq : 0 ≤ q ∧ q ≤ 8) (hU : ∀ a, a ≤ t.length → SFar t a (nest a).2.1 (nest a).2.2) (hN : q < 8 → SListOk nest t (q + 1)) (a : Nat) (ha : a ≤ t.length) :
    SMeth 27 [] t a q (.tup [.agg [.f (.sl ((sSel (decide (q = 8)) nest t q a).1.map partRow))], bool (sSel (decide (q = 8)) nest t q a).2.1]) (sSel (decide (q = 8)) nest t q a).2.2 := by
  refine ⟨trivial, ⟨⟨trivial, trivial⟩, trivial, trivial⟩, spec_mk tab_ok Try.func27 (by rfl) rfl ?_⟩
  have hl := hf.len
  conv => whnf
  refine step_loop tab_ok (fun s : Nat × Int × Selr => padK [.ptr 0 0, .junk, .ptr 1 0, .junk, .ptr 2 0, int s.2.1] 37) (fun s => [some (srd t s.1 q), some [.junk], some [partsO s.2.2]]) 1 (SSelI (decide (q = 8)) nest t q a) (fun s => t.length - s.1) (a, 0, []) ⟨ha, by simp, fun f hf => sSelRun_fuel hU _ _ _ _ _ ha hf (by dsimp only at hf ⊢; omega)⟩ (fun _ => rfl) ?_ ?_
  ·
    repeat' first | exact trivial | exact rfl | exact Nat.zero_le _ | exact Nat.zero_lt_succ _ | exact (by decide : (0 : Nat) < 1) | exact (by decide : (1 : Nat) < 4) | exact (by decide : (2 : Nat) < 4) | exact (by decide : (3 : Nat) < 4) | exact (by decide : (1 : Nat) < 2) | exact (by decide : (2 : Nat) < 3) | exact congrArg int (by (try dsimp only); omega) | exact congrArg bool (by (try dsimp only); simp; omega) | (show _ < List.length _; simp; done) | apply And.intro
  · rintro ⟨i, cb, ps⟩ ⟨h1, h2, h3⟩
    simp only at h1 h2 h3
    have e1 := h3 (t.length - i + 1) (by omega)
    rw [sSelRun] at e1
    have hfar := sCmp_far (b := decide (q = 8)) hU h1
    have hsp := scmp_spec hf hq hU hN i h1
    have l1 : (ps.map partRow).length = ps.length := List.length_map ..
    rcases hr : sCmp (decide (q = 8)) nest t i with ⟨c, k, p⟩
    simp only [hr] at e1 hfar hsp
    have hup := hfar.up
    have er : ps.map partRow ++ [partRow (cb, c)] = (ps ++ [(cb, c)]).map partRow := by simp
    cases k with
    | false =>
      rw [if_pos rfl] at e1
      rw [← e1]
      conv => whnf
      repeat' first
        | (refine Case.not ?_; conv => whnf)
        | (refine Case.yes ?_; conv => whnf)
        | (refine Case.no ?_; conv => whnf)
        | (refine Case.isTrue (by assumption) ?_; conv => whnf)
        | (refine Case.isFalse (by assumption) ?_; conv => whnf)
        | (refine Case.decT (by assumption) ?_; conv => whnf)
        | (refine Case.decF (by assumption) ?_; conv => whnf)
        | (refine Case.decT (by omega) ?_; conv => whnf)
        | (refine Case.decF (by omega) ?_; conv => whnf)
        | (refine Case.beqT (by omega) ?_; conv => whnf)
        | (refine Case.beqF (by omega) ?_; conv => whnf)
        | (refine Case.strT (by assumption) ?_; conv => whnf)
        | (refine Case.strF (by assumption) ?_; conv => whnf)
        | (refine Case.strF (by simp only [*]; decide) ?_; conv => whnf)
        | (refine hsp.call ?_; conv => whnf)
        | (refine step_kinds 2 ?hk ?_; (case hk => decide +kernel); conv => whnf)
        | (refine step_kinds 3 ?hk ?_; (case hk => decide +kernel); conv => whnf)
        | (refine Num.id (by omega) (by omega) ?_; conv => whnf)
        | (refine Case.strI (fun _ => ?_) (fun _ => ?_) <;> conv => whnf)
        | (refine Both.mk ?_ ?_ <;> conv => whnf)
        | (refine Case.dec (fun _ => ?_) (fun _ => ?_) <;> conv => whnf)
        | (refine Case.beqI (fun _ => ?_) (fun _ => ?_) <;> conv => whnf)
        | (refine Case.mk (fun _ => ?_) (fun _ => ?_) <;> conv => whnf)
        | (refine Way.fst ?_; conv => whnf)
      refine Fin.sk p ?_ rfl rfl ⟨rfl, rfl⟩
      exact ⟨⟨rfl, rfl⟩, rfl, rfl⟩
    | true =>
      have hok := hfar.ok rfl
      rw [if_neg (by simp)] at e1
      have hm := sComb_le (q := q) hok.2
      have hcs := scomb_spec t (by omega) p q (by omega)
      rcases hs : sComb t p q with ⟨x, m, p'⟩
      simp only [hs] at e1 hm hcs
      conv => whnf
      repeat' first
        | (refine Case.not ?_; conv => whnf)
        | (refine Case.yes ?_; conv => whnf)
        | (refine Case.no ?_; conv => whnf)
        | (refine Case.isTrue (by assumption) ?_; conv => whnf)
        | (refine Case.isFalse (by assumption) ?_; conv => whnf)
        | (refine Case.decT (by assumption) ?_; conv => whnf)
        | (refine Case.decF (by assumption) ?_; conv => whnf)
        | (refine Case.decT (by omega) ?_; conv => whnf)
        | (refine Case.decF (by omega) ?_; conv => whnf)
        | (refine Case.beqT (by omega) ?_; conv => whnf)
        | (refine Case.beqF (by omega) ?_; conv => whnf)
        | (refine Case.strT (by assumption) ?_; conv => whnf)
        | (refine Case.strF (by assumption) ?_; conv => whnf)
        | (refine Case.strF (by simp only [*]; decide) ?_; conv => whnf)
        | (refine hsp.call ?_; conv => whnf)
        | (refine hcs.call ?_; conv => whnf)
        | (refine Owes.mk (by first | (dsimp only [List.length]; omega) | (simp only [List.length_cons, List.length_nil]; omega)) ?_; conv => whnf)
        | (refine step_kinds 2 ?hk ?_; (case hk => decide +kernel); conv => whnf)
        | (refine step_kinds 3 ?hk ?_; (case hk => decide +kernel); conv => whnf)
        | (refine Num.id (by omega) (by omega) ?_; conv => whnf)
        | (refine Case.strI (fun _ => ?_) (fun _ => ?_) <;> conv => whnf)
        | (refine Both.mk ?_ ?_ <;> conv => whnf)
        | (refine Case.dec (fun _ => ?_) (fun _ => ?_) <;> conv => whnf)
        | (refine Case.beqI (fun _ => ?_) (fun _ => ?_) <;> conv => whnf)
        | (refine Case.mk (fun _ => ?_) (fun _ => ?_) <;> conv => whnf)
        | (refine Way.fst ?_; conv => whnf)
      · subst ‹m = true›
        rw [if_neg (by simp), if_pos (by assumption)] at e1
        rw [← e1]
        refine Fin.sselr (ps := ps ++ [(cb, c)]) p' er rfl ?_
        exact ⟨rfl, rfl⟩
      · subst ‹m = true›
        rw [if_neg (by simp), if_neg (by assumption)] at e1
        refine ⟨(p', x, ps ++ [(cb, c)]), ⟨by dsimp only; omega, by dsimp only; rw [List.length_append]; simp; omega, fun f hf => ?_⟩, by dsimp only; omega, ?_⟩
        · dsimp only at hf ⊢
          rw [← e1]
          exact sSelRun_fuel hU _ _ _ _ _ (by omega) hf (by omega)
        ·
          repeat' first | exact trivial | exact rfl | exact Nat.zero_le _ | exact Nat.zero_lt_succ _ | exact (by decide : (0 : Nat) < 1) | exact (by decide : (1 : Nat) < 4) | exact (by decide : (2 : Nat) < 4) | exact (by decide : (3 : Nat) < 4) | exact (by decide : (1 : Nat) < 2) | exact (by decide : (2 : Nat) < 3) | exact congrArg int (by (try dsimp only); omega) | exact congrArg (D.own _ _ _) (by simp [partRow]; done) | exact congrArg bool (by (try dsimp only); simp; omega) | (show _ < List.length _; simp; done) | apply And.intro
      · subst ‹m = false›
        rw [if_pos rfl] at e1
        rw [← e1]
        refine Fin.sselr (ps := ps ++ [(cb, c)]) p' er rfl ?_
        exact ⟨rfl, rfl⟩
structure SListI (b : Bool) (nest : SNest) (t : List Tok) (q : Int) (a : Nat) (s : Nat × List Selr) : Prop where
  le : s.1 ≤ t.length
  sz : s.2.length ≤ s.1
  run : ∀ f, t.length - s.1 < f → sListRun b nest t q f s.1 s.2 = sList b nest t q a
theorem Fin.ssels {l : List Selr} {rows : List (List F)} {k : Bool} {t : List Tok} {p q : Int} {more : Hp} {n : Nat} {R : D → Hp → Prop} (a : Nat) (hr : rows = l.map selRow) (hp : p = a) (hR : R (.tup [.f (.sl (l.map selRow)), bool k]) [some (srd t a q)]) : Fin (.tup [.own 0 45 1 rows, bool k]) (some [.f (.sl (toksF t)), int p, int q] :: more) n 1 0 R := by
  subst hr
  refine Fin.frz 0 ?_
  refine Fin.sk (d' := .tup [.f (.sl (l.map selRow)), bool k]) a ?_ hp rfl hR
  exact ⟨rfl, rfl, rfl⟩
set_option maxHeartbeats 4000000 in
theorem slist_step {nest : SNest} {t : List Tok} (hf : Fit t) {q : Int} (hq : 0 ≤ q ∧ q ≤ 8) (hU : ∀ a, a ≤ t.length → SFar t a (nest a).2.1 (nest a).2.2) (hN : q < 8 → SListOk nest t (q + 1)) : SListOk (sList (decide (q = 8)) nest t q) t q := by
  intro a ha
  refine ⟨trivial, ⟨trivial, trivial, trivial⟩, spec_mk tab_ok Try.func20 (by rfl) rfl ?_⟩
  have hl := hf.len
  conv => whnf
  refine step_loop tab_ok (fun s : Nat × List Selr => padK [.ptr 0 0, .junk, .junk, .junk, selsO s.2] 24) (fun s => [some (srd t s.1 q)]) 1 (SListI (decide (q = 8)) nest t q a) (fun s => t.length + 1 - s.1) (a, []) ⟨ha, by simp, fun f hf => sListRun_fuel hU _ _ _ _ ha hf (by dsimp only at hf ⊢; omega)⟩ (fun _ => rfl) ?_ ?_
  ·
    repeat' first | exact trivial | exact rfl | exact Nat.zero_le _ | exact Nat.zero_lt_succ _ | exact (by decide : (0 : Nat) < 1) | exact (by decide : (1 : Nat) < 4) | exact (by decide : (2 : Nat) < 4) | exact (by decide : (3 : Nat) < 4) | exact (by decide : (1 : Nat) < 2) | exact (by decide : (2 : Nat) < 3) | exact congrArg int (by (try dsimp only); omega) | exact congrArg bool (by (try dsimp only); simp; omega) | (show _ < List.length _; simp; done) | apply And.intro
  · rintro ⟨i, out⟩ ⟨h1, h2, h3⟩
    simp only at h1 h2 h3
    have e1 := h3 (t.length - i + 1) (by omega)
    rw [sListRun] at e1
    have k1 := ws_le t i
    have hfar := sSelRun_far (b := decide (q = 8)) (q := q) hU (t.length + 1) (ws t i) 0 [] (by omega)
    rw [← sSel] at hfar
    have hsp := ssel_spec hf hq hU hN (ws t i) (by omega)
    have hw := swhite_spec t (by omega) i q (by omega)
    have l1 : (out.map selRow).length = out.length := List.length_map ..
    rcases hr : sSel (decide (q = 8)) nest t q (ws t i) with ⟨s, k, p⟩
    simp only [hr] at e1 hfar hsp
    have hup := hfar.up
    have er : out.map selRow ++ [selRow s] = (out ++ [s]).map selRow := by simp
    cases k with
    | false =>
      rw [if_pos rfl] at e1
      rw [← e1]
      conv => whnf
      repeat' first
        | (refine Case.not ?_; conv => whnf)
        | (refine Case.yes ?_; conv => whnf)
        | (refine Case.no ?_; conv => whnf)
        | (refine Case.isTrue (by assumption) ?_; conv => whnf)
        | (refine Case.isFalse (by assumption) ?_; conv => whnf)
        | (refine Case.decT (by assumption) ?_; conv => whnf)
        | (refine Case.decF (by assumption) ?_; conv => whnf)
        | (refine Case.decT (by omega) ?_; conv => whnf)
        | (refine Case.decF (by omega) ?_; conv => whnf)
        | (refine Case.beqT (by omega) ?_; conv => whnf)
        | (refine Case.beqF (by omega) ?_; conv => whnf)
        | (refine Case.strT (by assumption) ?_; conv => whnf)
        | (refine Case.strF (by assumption) ?_; conv => whnf)
        | (refine Case.strF (by simp only [*]; decide) ?_; conv => whnf)
        | (refine hw.call ?_; conv => whnf)
        | (refine hsp.call ?_; conv => whnf)
        | (refine step_kinds 2 ?hk ?_; (case hk => decide +kernel); conv => whnf)
        | (refine step_kinds 3 ?hk ?_; (case hk => decide +kernel); conv => whnf)
        | (refine Num.id (by omega) (by omega) ?_; conv => whnf)
        | (refine Case.strI (fun _ => ?_) (fun _ => ?_) <;> conv => whnf)
        | (refine Both.mk ?_ ?_ <;> conv => whnf)
        | (refine Case.dec (fun _ => ?_) (fun _ => ?_) <;> conv => whnf)
        | (refine Case.beqI (fun _ => ?_) (fun _ => ?_) <;> conv => whnf)
        | (refine Case.mk (fun _ => ?_) (fun _ => ?_) <;> conv => whnf)
        | (refine Way.fst ?_; conv => whnf)
      refine Fin.sk p ?_ rfl rfl ⟨rfl, rfl⟩
      exact ⟨rfl, rfl, rfl⟩
    | true =>
      have hok := hfar.ok rfl
      rw [if_neg (by simp)] at e1
      have b13 := sis_spec t (by omega) p q (by omega) 13
      by_cases c13 : (tk t p).kind = 13
      · have := tk_lt (t := t) (i := p) (by omega)
        rw [sIs_of c13] at b13
        rw [if_pos c13] at e1
        conv => whnf
        repeat' first
          | (refine Case.not ?_; conv => whnf)
          | (refine Case.yes ?_; conv => whnf)
          | (refine Case.no ?_; conv => whnf)
          | (refine Case.isTrue (by assumption) ?_; conv => whnf)
          | (refine Case.isFalse (by assumption) ?_; conv => whnf)
          | (refine Case.decT (by assumption) ?_; conv => whnf)
          | (refine Case.decF (by assumption) ?_; conv => whnf)
          | (refine Case.decT (by omega) ?_; conv => whnf)
          | (refine Case.decF (by omega) ?_; conv => whnf)
          | (refine Case.beqT (by omega) ?_; conv => whnf)
          | (refine Case.beqF (by omega) ?_; conv => whnf)
          | (refine Case.strT (by assumption) ?_; conv => whnf)
          | (refine Case.strF (by assumption) ?_; conv => whnf)
          | (refine Case.strF (by simp only [*]; decide) ?_; conv => whnf)
          | (refine hw.call ?_; conv => whnf)
          | (refine hsp.call ?_; conv => whnf)
          | (refine b13.call ?_; conv => whnf)
          | (refine Owes.mk (by first | (dsimp only [List.length]; omega) | (simp only [List.length_cons, List.length_nil]; omega)) ?_; conv => whnf)
          | (refine step_kinds 2 ?hk ?_; (case hk => decide +kernel); conv => whnf)
          | (refine step_kinds 3 ?hk ?_; (case hk => decide +kernel); conv => whnf)
          | (refine Num.id (by omega) (by omega) ?_; conv => whnf)
          | (refine Case.strI (fun _ => ?_) (fun _ => ?_) <;> conv => whnf)
          | (refine Both.mk ?_ ?_ <;> conv => whnf)
          | (refine Case.dec (fun _ => ?_) (fun _ => ?_) <;> conv => whnf)
          | (refine Case.beqI (fun _ => ?_) (fun _ => ?_) <;> conv => whnf)
          | (refine Case.mk (fun _ => ?_) (fun _ => ?_) <;> conv => whnf)
          | (refine Way.fst ?_; conv => whnf)
        refine ⟨(p + 1, out ++ [s]), ⟨by dsimp only; omega, by dsimp only; rw [List.length_append]; simp; omega, fun f hf => ?_⟩, by dsimp only; omega, ?_⟩
        · dsimp only at hf ⊢
          rw [← e1]
          exact sListRun_fuel hU _ _ _ _ (by omega) hf (by omega)
        ·
          repeat' first | exact trivial | exact rfl | exact Nat.zero_le _ | exact Nat.zero_lt_succ _ | exact (by decide : (0 : Nat) < 1) | exact (by decide : (1 : Nat) < 4) | exact (by decide : (2 : Nat) < 4) | exact (by decide : (3 : Nat) < 4) | exact (by decide : (1 : Nat) < 2) | exact (by decide : (2 : Nat) < 3) | exact congrArg int (by (try dsimp only); omega) | exact congrArg (D.own _ _ _) (by simp [selRow]; done) | exact congrArg bool (by (try dsimp only); simp; omega) | (show _ < List.length _; simp; done) | apply And.intro
      · rw [sIs_ne c13] at b13
        rw [if_neg c13] at e1
        rw [← e1]
        conv => whnf
        repeat' first
          | (refine Case.not ?_; conv => whnf)
          | (refine Case.yes ?_; conv => whnf)
          | (refine Case.no ?_; conv => whnf)
          | (refine Case.isTrue (by assumption) ?_; conv => whnf)
          | (refine Case.isFalse (by assumption) ?_; conv => whnf)
          | (refine Case.decT (by assumption) ?_; conv => whnf)
          | (refine Case.decF (by assumption) ?_; conv => whnf)
          | (refine Case.decT (by omega) ?_; conv => whnf)
          | (refine Case.decF (by omega) ?_; conv => whnf)
          | (refine Case.beqT (by omega) ?_; conv => whnf)
          | (refine Case.beqF (by omega) ?_; conv => whnf)
          | (refine Case.strT (by assumption) ?_; conv => whnf)
          | (refine Case.strF (by assumption) ?_; conv => whnf)
          | (refine Case.strF (by simp only [*]; decide) ?_; conv => whnf)
          | (refine hw.call ?_; conv => whnf)
          | (refine hsp.call ?_; conv => whnf)
          | (refine b13.call ?_; conv => whnf)
          | (refine Owes.mk (by first | (dsimp only [List.length]; omega) | (simp only [List.length_cons, List.length_nil]; omega)) ?_; conv => whnf)
          | (refine step_kinds 2 ?hk ?_; (case hk => decide +kernel); conv => whnf)
          | (refine step_kinds 3 ?hk ?_; (case hk => decide +kernel); conv => whnf)
          | (refine Num.id (by omega) (by omega) ?_; conv => whnf)
          | (refine Case.strI (fun _ => ?_) (fun _ => ?_) <;> conv => whnf)
          | (refine Both.mk ?_ ?_ <;> conv => whnf)
          | (refine Case.dec (fun _ => ?_) (fun _ => ?_) <;> conv => whnf)
          | (refine Case.beqI (fun _ => ?_) (fun _ => ?_) <;> conv => whnf)
          | (refine Case.mk (fun _ => ?_) (fun _ => ?_) <;> conv => whnf)
          | (refine Way.fst ?_; conv => whnf)
        refine Fin.ssels (l := out ++ [s]) p er rfl ?_
        exact ⟨rfl, rfl⟩
theorem slist_spec {t : List Tok} (hf : Fit t) : ∀ (k : Nat) (q : Int), 0 ≤ q → q + k = 8 → SListOk (sNest t (k + 1) q) t q
  | 0, q, h0, h1 => slist_step hf ⟨h0, by omega⟩ (sNest_far t 0 (q + 1)) (fun h => by omega)
  | k + 1, q, h0, h1 => slist_step hf ⟨h0, by omega⟩ (sNest_far t (k + 1) (q + 1)) (fun _ => slist_spec hf k (q + 1) (by omega) (by omega))
def sParse (t : List Tok) : List Selr × Bool :=
  if 1000 < t.length then ([], false) else if (sNest t 9 0 0).2.1 = false ∨ (sNest t 9 0 0).2.2 < t.length then ([], false) else ((sNest t 9 0 0).1, true)
theorem parse_spec {t : List Tok} (hf : Fit t) : Val 14 [.f (.sl (toksF t))] (.tup [.f (.sl ((sParse t).1.map selRow)), bool (sParse t).2]) := by
  have hl := hf.len
  have hlen : (toksF t).length = t.length := by simp
  have hsp := slist_spec hf 8 0 (by omega) (by omega) 0 (by omega)
  have hfar := sNest_far t 9 0 0 (by omega)
  refine ⟨rfl, ⟨trivial, trivial⟩, rfl, spec_mk tab_ok Try.func14 (by rfl) rfl ?_⟩
  unfold sParse
  rcases hr : sNest t 9 0 0 with ⟨l, k, p⟩
  simp only [show (8 : Nat) + 1 = 9 from rfl, hr] at hsp hfar
  conv => whnf
  repeat' first
    | (refine Case.not ?_; conv => whnf)
    | (refine Case.yes ?_; conv => whnf)
    | (refine Case.no ?_; conv => whnf)
    | (refine Case.isTrue (by assumption) ?_; conv => whnf)
    | (refine Case.isFalse (by assumption) ?_; conv => whnf)
    | (refine Case.decT (by assumption) ?_; conv => whnf)
    | (refine Case.decF (by assumption) ?_; conv => whnf)
    | (refine Case.decT (by omega) ?_; conv => whnf)
    | (refine Case.decF (by omega) ?_; conv => whnf)
    | (refine Case.beqT (by omega) ?_; conv => whnf)
    | (refine Case.beqF (by omega) ?_; conv => whnf)
    | (refine Case.strT (by assumption) ?_; conv => whnf)
    | (refine Case.strF (by assumption) ?_; conv => whnf)
    | (refine Case.strF (by simp only [*]; decide) ?_; conv => whnf)
    | (refine hsp.call ?_; conv => whnf)
    | (refine step_kinds 2 ?hk ?_; (case hk => decide +kernel); conv => whnf)
    | (refine step_kinds 3 ?hk ?_; (case hk => decide +kernel); conv => whnf)
    | (refine Num.id (by omega) (by omega) ?_; conv => whnf)
    | (refine Case.strI (fun _ => ?_) (fun _ => ?_) <;> conv => whnf)
    | (refine Both.mk ?_ ?_ <;> conv => whnf)
    | (refine Case.dec (fun _ => ?_) (fun _ => ?_) <;> conv => whnf)
    | (refine Case.beqI (fun _ => ?_) (fun _ => ?_) <;> conv => whnf)
    | (refine Case.mk (fun _ => ?_) (fun _ => ?_) <;> conv => whnf)
    | (refine Way.fst ?_; conv => whnf)
  · rw [if_pos (by omega)]
    refine Fin.val ?_ ⟨rfl, rfl⟩
    exact ⟨rfl, rfl, rfl⟩
  · rw [if_neg (by omega), if_pos (.inr (by dsimp only; omega))]
    refine Fin.val ?_ ⟨rfl, rfl⟩
    exact ⟨rfl, rfl, rfl⟩
  · subst ‹k = true›
    rw [if_neg (by omega), if_neg (by dsimp only; simp; omega)]
    refine Fin.val ?_ ⟨rfl, rfl⟩
    exact ⟨rfl, rfl, rfl⟩
  · rw [if_neg (by omega), if_pos (.inl (by assumption))]
    refine Fin.val ?_ ⟨rfl, rfl⟩
    exact ⟨rfl, rfl, rfl⟩
end Go.Proofs.Ytdfiegleaknleaa.Aw
