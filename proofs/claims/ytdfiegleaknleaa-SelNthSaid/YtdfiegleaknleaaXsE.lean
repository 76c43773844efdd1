/- The program's reader of selectors: simple and compound. -/
import Derived.Test.YtdfiegleaknleaaXsD
namespace Go.Proofs.Ytdfiegleaknleaa.Aw
open Go Go.RowKit Go.Lib
set_option linter.unusedVariables false
set_option linter.unusedSimpArgs false
set_option maxRecDepth 100000
/-- An end of 'simple'. -/
theorem Fin.simp {c : Cmp} {m k : Bool} {t : List Tok} {p : Int} {q : Int} {more : Hp} {n : Nat} {r1 r2 r3 r4 : List (List F)} {g : List UInt8} {R : D → Hp → Prop} (hn : 4 ≤ n) (a : Nat) (h0 : g = c.tag) (h1 : r1 = strs c.ids) (h2 : r2 = strs c.cls) (h3 : r3 = c.atts.map Att.row) (h4 : r4 = c.pss.map Psd.row) (hp : p = a)
    (hR : R (.tup [bool m, bool k]) [some (srd t a q), some c.own]) :
    Fin (.tup [bool m, bool k]) (some [.f (.sl (toksF t)), int p, int q] :: some [.str ⟨g.toArray⟩, .own 0 9 1 r1, .own 1 9 1 r2, .own 2 50 3 r3, .own 3 47 4 r4] :: more) n 2 4 R := by
  subst h0 h1 h2 h3 h4 hp
  refine Fin.mk (.tup [bool m, bool k]) [some (srd t a q), some c.own] hR rfl ⟨?_, ?_⟩
  · exact ⟨⟨rfl, rfl, rfl⟩, rfl⟩
  · refine ⟨⟨rfl, rfl, rfl, rfl⟩, ⟨rfl, ⟨rfl, ?_⟩, ⟨rfl, ?_⟩, ⟨rfl, ?_⟩, ⟨rfl, ?_⟩, rfl⟩, ?_⟩
    · decide
    · decide
    · decide
    · decide
    · unfold intoH; cases more <;> trivial
/-- A compound's size. -/
structure CmpSz (c : Cmp) (n : Nat) : Prop where
  ids : c.ids.length ≤ n
  cls : c.cls.length ≤ n
  atts : c.atts.length ≤ n
  pss : c.pss.length ≤ n
theorem sSimple_sz {b : Bool} {nest : SNest} {t : List Tok} {i n : Nat} {c : Cmp} (h : CmpSz c n) : CmpSz (sSimple b nest t i c).1 (n + 1) := by
  obtain ⟨h1, h2, h3, h4⟩ := h
  unfold sSimple
  repeat' split
  all_goals (refine ⟨?_, ?_, ?_, ?_⟩ <;> dsimp only <;> (try rw [List.length_append]) <;> (try simp only [List.length_cons, List.length_nil]) <;> omega)
set_option maxHeartbeats 4000000 in
theorem ssimple_spec {nest : SNest} {t : List Tok} (hf : Fit t) {q : Int} (hq : 0 ≤ q ∧ q ≤ 8) (hU : ∀ a, a ≤ t.length → SFar t a (nest a).2.1 (nest a).2.2) (hN : q < 8 → SListOk nest t (q + 1)) (a : Nat) (ha : a ≤ t.length) (c : Cmp) (hz : CmpSz c 1000000000) :
    Spec P 60 [.ptr 0 0, .ptr 1 0] [some (srd t a q), some c.own] 4 (fun d H => d = .tup [bool (sSimple (decide (q = 8)) nest t a c).2.1, bool (sSimple (decide (q = 8)) nest t a c).2.2.1] ∧ H = [some (srd t (sSimple (decide (q = 8)) nest t a c).2.2.2 q), some (sSimple (decide (q = 8)) nest t a c).1.own]) := by
  refine spec_mk tab_ok Try.func60 (by rfl) rfl ?_
  have hl := hf.len
  obtain ⟨z1, z2, z3, z4⟩ := hz
  have l1 := strs_length c.ids
  have l2 := strs_length c.cls
  have l3 : (c.atts.map Att.row).length = c.atts.length := List.length_map ..
  have l4 : (c.pss.map Psd.row).length = c.pss.length := List.length_map ..
  have hlt := tk_or t a
  have b3 := sis_spec t (by omega) a q (by omega) 3
  have g46 := ssign_spec t (by omega) a q (by omega) 46
  have b18 := sis_spec t (by omega) a q (by omega) 18
  have b11 := sis_spec t (by omega) a q (by omega) 11
  have s0 := sat_at t (by omega) a q (by omega) 0 a (by omega) (by omega) (by omega)
  unfold sSign at g46
  unfold sSimple
  by_cases c3 : (tk t a).kind = 3
  · rw [sIs_of c3] at b3
    rw [if_pos c3]
    conv => whnf
    repeat' first
      | (refine Case.not ?_; conv => whnf)
      | (refine Case.yes ?_; conv => whnf)
      | (refine Case.no ?_; conv => whnf)
      | (refine Case.isTrue (by assumption) ?_; conv => whnf)
      | (refine Case.isFalse (by assumption) ?_; conv => whnf)
      | (refine Case.decT (by assumption) ?_; conv => whnf)
      | (refine Case.decF (by assumption) ?_; conv => whnf)
      | (refine Case.decT (by omega) ?_; conv => whnf)
      | (refine Case.decF (by omega) ?_; conv => whnf)
      | (refine Case.beqT (by omega) ?_; conv => whnf)
      | (refine Case.beqF (by omega) ?_; conv => whnf)
      | (refine Case.strT (by assumption) ?_; conv => whnf)
      | (refine Case.strF (by assumption) ?_; conv => whnf)
      | (refine Case.strF (by simp only [*]; decide) ?_; conv => whnf)
      | (refine s0.call ⟨⟨rfl, rfl, rfl, trivial⟩, rfl, rfl⟩ ?_; conv => whnf)
      | (refine b3.call ?_; conv => whnf)
      | (refine Owes.mk (by first | (dsimp only [List.length]; omega) | (simp only [List.length_cons, List.length_nil]; omega)) ?_; conv => whnf)
      | (refine step_kinds 2 ?hk ?_; (case hk => decide +kernel); conv => whnf)
      | (refine step_kinds 3 ?hk ?_; (case hk => decide +kernel); conv => whnf)
      | (refine Num.id (by omega) (by omega) ?_; conv => whnf)
      | (refine Case.strI (fun _ => ?_) (fun _ => ?_) <;> conv => whnf)
      | (refine Both.mk ?_ ?_ <;> conv => whnf)
      | (refine Case.dec (fun _ => ?_) (fun _ => ?_) <;> conv => whnf)
      | (refine Case.beqI (fun _ => ?_) (fun _ => ?_) <;> conv => whnf)
      | (refine Case.mk (fun _ => ?_) (fun _ => ?_) <;> conv => whnf)
      | (refine Way.fst ?_; conv => whnf)
    refine Fin.simp (c := { c with ids := c.ids ++ [(tk t a).text] }) (by decide) (a + 1) rfl ?_ rfl rfl rfl rfl ⟨rfl, rfl⟩
    simp [strs]
  rw [sIs_ne c3] at b3
  rw [if_neg c3]
  by_cases c46 : isD t a 46 = true
  · rw [if_pos c46] at g46 ⊢
    have := isD_lt c46
    have b1 := sis_spec t (by omega) (a + 1) q (by omega) 1
    have s1 := sat_at t (by omega) (a + 1) q (by omega) 0 (a + 1) (by omega) (by omega) (by omega)
    conv => whnf
    repeat' first
      | (refine Case.not ?_; conv => whnf)
      | (refine Case.yes ?_; conv => whnf)
      | (refine Case.no ?_; conv => whnf)
      | (refine Case.isTrue (by assumption) ?_; conv => whnf)
      | (refine Case.isFalse (by assumption) ?_; conv => whnf)
      | (refine Case.decT (by assumption) ?_; conv => whnf)
      | (refine Case.decF (by assumption) ?_; conv => whnf)
      | (refine Case.decT (by omega) ?_; conv => whnf)
      | (refine Case.decF (by omega) ?_; conv => whnf)
      | (refine Case.beqT (by omega) ?_; conv => whnf)
      | (refine Case.beqF (by omega) ?_; conv => whnf)
      | (refine Case.strT (by assumption) ?_; conv => whnf)
      | (refine Case.strF (by assumption) ?_; conv => whnf)
      | (refine Case.strF (by simp only [*]; decide) ?_; conv => whnf)
      | (refine s0.call ⟨⟨rfl, rfl, rfl, trivial⟩, rfl, rfl⟩ ?_; conv => whnf)
      | (refine b3.call ?_; conv => whnf)
      | (refine g46.call ?_; conv => whnf)
      | (refine s1.call ⟨⟨rfl, rfl, rfl, trivial⟩, rfl, rfl⟩ ?_; conv => whnf)
      | (refine s1.callB ⟨⟨rfl, rfl, rfl, trivial⟩, rfl, rfl⟩ ?_; conv => whnf)
      | (refine b1.call ?_; conv => whnf)
      | (refine Owes.mk (by first | (dsimp only [List.length]; omega) | (simp only [List.length_cons, List.length_nil]; omega)) ?_; conv => whnf)
      | (refine step_kinds 2 ?hk ?_; (case hk => decide +kernel); conv => whnf)
      | (refine step_kinds 3 ?hk ?_; (case hk => decide +kernel); conv => whnf)
      | (refine Num.id (by omega) (by omega) ?_; conv => whnf)
      | (refine Case.strI (fun _ => ?_) (fun _ => ?_) <;> conv => whnf)
      | (refine Both.mk ?_ ?_ <;> conv => whnf)
      | (refine Case.dec (fun _ => ?_) (fun _ => ?_) <;> conv => whnf)
      | (refine Case.beqI (fun _ => ?_) (fun _ => ?_) <;> conv => whnf)
      | (refine Case.mk (fun _ => ?_) (fun _ => ?_) <;> conv => whnf)
      | (refine Way.fst ?_; conv => whnf)
    refine Fin.simp (c := { c with cls := c.cls ++ [(tk t (a + 1)).text] }) (by decide) _ rfl rfl ?_ rfl rfl rfl ⟨rfl, rfl⟩
    simp [strs]
  rw [if_neg c46] at g46 ⊢
  by_cases c18 : (tk t a).kind = 18
  · rw [sIs_of c18] at b18
    rw [if_pos c18]
    have hsp := sattr_spec hf (a + 1) q (by omega)
    conv => whnf
    repeat' first
      | (refine Case.not ?_; conv => whnf)
      | (refine Case.yes ?_; conv => whnf)
      | (refine Case.no ?_; conv => whnf)
      | (refine Case.isTrue (by assumption) ?_; conv => whnf)
      | (refine Case.isFalse (by assumption) ?_; conv => whnf)
      | (refine Case.decT (by assumption) ?_; conv => whnf)
      | (refine Case.decF (by assumption) ?_; conv => whnf)
      | (refine Case.decT (by omega) ?_; conv => whnf)
      | (refine Case.decF (by omega) ?_; conv => whnf)
      | (refine Case.beqT (by omega) ?_; conv => whnf)
      | (refine Case.beqF (by omega) ?_; conv => whnf)
      | (refine Case.strT (by assumption) ?_; conv => whnf)
      | (refine Case.strF (by assumption) ?_; conv => whnf)
      | (refine Case.strF (by simp only [*]; decide) ?_; conv => whnf)
      | (refine s0.call ⟨⟨rfl, rfl, rfl, trivial⟩, rfl, rfl⟩ ?_; conv => whnf)
      | (refine b3.call ?_; conv => whnf)
      | (refine g46.call ?_; conv => whnf)
      | (refine b18.call ?_; conv => whnf)
      | (refine hsp.call ?_; conv => whnf)
      | (refine Owes.mk (by first | (dsimp only [List.length]; omega) | (simp only [List.length_cons, List.length_nil]; omega)) ?_; conv => whnf)
      | (refine step_kinds 2 ?hk ?_; (case hk => decide +kernel); conv => whnf)
      | (refine step_kinds 3 ?hk ?_; (case hk => decide +kernel); conv => whnf)
      | (refine Num.id (by omega) (by omega) ?_; conv => whnf)
      | (refine Case.strI (fun _ => ?_) (fun _ => ?_) <;> conv => whnf)
      | (refine Both.mk ?_ ?_ <;> conv => whnf)
      | (refine Case.dec (fun _ => ?_) (fun _ => ?_) <;> conv => whnf)
      | (refine Case.beqI (fun _ => ?_) (fun _ => ?_) <;> conv => whnf)
      | (refine Case.mk (fun _ => ?_) (fun _ => ?_) <;> conv => whnf)
      | (refine Way.fst ?_; conv => whnf)
    refine Fin.simp (c := { c with atts := c.atts ++ [(sAttr t (a + 1)).1] }) (by decide) _ rfl rfl rfl ?_ rfl rfl ⟨rfl, rfl⟩
    simp [Att.row]
  rw [sIs_ne c18] at b18
  rw [if_neg c18]
  by_cases c11 : (tk t a).kind = 11
  · rw [sIs_of c11] at b11
    rw [if_pos c11]
    have hsp := spseudo_spec hf hq (fun a ha => (hU a ha).up) hN (a + 1) (by omega)
    conv => whnf
    repeat' first
      | (refine Case.not ?_; conv => whnf)
      | (refine Case.yes ?_; conv => whnf)
      | (refine Case.no ?_; conv => whnf)
      | (refine Case.isTrue (by assumption) ?_; conv => whnf)
      | (refine Case.isFalse (by assumption) ?_; conv => whnf)
      | (refine Case.decT (by assumption) ?_; conv => whnf)
      | (refine Case.decF (by assumption) ?_; conv => whnf)
      | (refine Case.decT (by omega) ?_; conv => whnf)
      | (refine Case.decF (by omega) ?_; conv => whnf)
      | (refine Case.beqT (by omega) ?_; conv => whnf)
      | (refine Case.beqF (by omega) ?_; conv => whnf)
      | (refine Case.strT (by assumption) ?_; conv => whnf)
      | (refine Case.strF (by assumption) ?_; conv => whnf)
      | (refine Case.strF (by simp only [*]; decide) ?_; conv => whnf)
      | (refine s0.call ⟨⟨rfl, rfl, rfl, trivial⟩, rfl, rfl⟩ ?_; conv => whnf)
      | (refine b3.call ?_; conv => whnf)
      | (refine g46.call ?_; conv => whnf)
      | (refine b18.call ?_; conv => whnf)
      | (refine b11.call ?_; conv => whnf)
      | (refine hsp.call ?_; conv => whnf)
      | (refine Owes.mk (by first | (dsimp only [List.length]; omega) | (simp only [List.length_cons, List.length_nil]; omega)) ?_; conv => whnf)
      | (refine step_kinds 2 ?hk ?_; (case hk => decide +kernel); conv => whnf)
      | (refine step_kinds 3 ?hk ?_; (case hk => decide +kernel); conv => whnf)
      | (refine Num.id (by omega) (by omega) ?_; conv => whnf)
      | (refine Case.strI (fun _ => ?_) (fun _ => ?_) <;> conv => whnf)
      | (refine Both.mk ?_ ?_ <;> conv => whnf)
      | (refine Case.dec (fun _ => ?_) (fun _ => ?_) <;> conv => whnf)
      | (refine Case.beqI (fun _ => ?_) (fun _ => ?_) <;> conv => whnf)
      | (refine Case.mk (fun _ => ?_) (fun _ => ?_) <;> conv => whnf)
      | (refine Way.fst ?_; conv => whnf)
    refine Fin.simp (c := { c with pss := c.pss ++ [(sPseudo (decide (q = 8)) nest t (a + 1)).1] }) (by decide) _ rfl rfl rfl rfl ?_ rfl ⟨rfl, rfl⟩
    simp [Psd.row]
  rw [sIs_ne c11] at b11
  rw [if_neg c11]
  conv => whnf
  repeat' first
    | (refine Case.not ?_; conv => whnf)
    | (refine Case.yes ?_; conv => whnf)
    | (refine Case.no ?_; conv => whnf)
    | (refine Case.isTrue (by assumption) ?_; conv => whnf)
    | (refine Case.isFalse (by assumption) ?_; conv => whnf)
    | (refine Case.decT (by assumption) ?_; conv => whnf)
    | (refine Case.decF (by assumption) ?_; conv => whnf)
    | (refine Case.decT (by omega) ?_; conv => whnf)
    | (refine Case.decF (by omega) ?_; conv => whnf)
    | (refine Case.beqT (by omega) ?_; conv => whnf)
    | (refine Case.beqF (by omega) ?_; conv => whnf)
    | (refine Case.strT (by assumption) ?_; conv => whnf)
    | (refine Case.strF (by assumption) ?_; conv => whnf)
    | (refine Case.strF (by simp only [*]; decide) ?_; conv => whnf)
    | (refine s0.call ⟨⟨rfl, rfl, rfl, trivial⟩, rfl, rfl⟩ ?_; conv => whnf)
    | (refine b3.call ?_; conv => whnf)
    | (refine g46.call ?_; conv => whnf)
    | (refine b18.call ?_; conv => whnf)
    | (refine b11.call ?_; conv => whnf)
    | (refine step_kinds 2 ?hk ?_; (case hk => decide +kernel); conv => whnf)
    | (refine step_kinds 3 ?hk ?_; (case hk => decide +kernel); conv => whnf)
    | (refine Num.id (by omega) (by omega) ?_; conv => whnf)
    | (refine Case.strI (fun _ => ?_) (fun _ => ?_) <;> conv => whnf)
    | (refine Both.mk ?_ ?_ <;> conv => whnf)
    | (refine Case.dec (fun _ => ?_) (fun _ => ?_) <;> conv => whnf)
    | (refine Case.beqI (fun _ => ?_) (fun _ => ?_) <;> conv => whnf)
    | (refine Case.mk (fun _ => ?_) (fun _ => ?_) <;> conv => whnf)
    | (refine Way.fst ?_; conv => whnf)
  refine Fin.simp (by decide) a rfl rfl rfl rfl rfl rfl ⟨rfl, rfl⟩
/-- 'simple' as compound calls it. -/
theorem simple_call {c c' : Cmp} {m k : Bool} {t : List Tok} {a p : Nat} {q : Int} {E : List D} {K : KD}
    (h : Spec P 60 [.ptr 0 0, .ptr 1 0] [some (srd t a q), some c.own] 4 (fun d H => d = .tup [bool m, bool k] ∧ H = [some (srd t p q), some c'.own]))
    (hk : killsK [0, 1, 2, 3] E fun E => K (.tup [bool m, bool k]) E [some (srd t p q), some [.junk, .junk, .junk, .junk, .junk], some c'.own] 4) :
    Call P 60 [.ptr 0 0, .ptr 2 0] E [some (srd t a q), some [.junk, .junk, .junk, .junk, .junk], some c.own] 4 K := by
  rw [killsK_eq] at hk
  refine call_gen («as» := [.ptr 0 0, .ptr 1 0]) [0, 2] [0, 1, 2, 3] h (by decide) (by decide) (by simp) (by simp) ?_ ?_ ?_
  · exact ⟨⟨rfl, ⟨trivial, trivial, trivial, trivial⟩⟩, ⟨rfl, ⟨trivial, Nat.zero_lt_succ _, by show 1 < 4; decide, by show 2 < 4; decide, by show 3 < 4; decide, trivial⟩⟩, trivial⟩
  · exact ⟨Nat.zero_lt_succ _, by show 1 < 2; decide, trivial⟩
  · rintro d Hs' ⟨rfl, rfl⟩ _
    exact hk
structure SCmpI (b : Bool) (nest : SNest) (t : List Tok) (a : Nat) (s : Cmp × Nat × Bool × Nat) : Prop where
  le : s.2.1 ≤ t.length
  n : s.2.2.2 ≤ s.2.1
  sz : CmpSz s.1 s.2.2.2
  run : ∀ f, t.length - s.2.1 < f → sCmpRun b nest t f s.2.1 s.2.2.1 s.1 = sCmp b nest t a
theorem Fin.scmp {c : Cmp} {k : Bool} {t : List Tok} {p : Int} {q : Int} {more : Hp} {R : D → Hp → Prop} (a : Nat) (hp : p = a) (hR : R (.tup [c.d, bool k]) [some (srd t a q)]) : Fin (.tup [.agg c.own, bool k]) (some [.f (.sl (toksF t)), int p, int q] :: more) 4 1 0 R := by
  refine Fin.frz 0 (Fin.frz 1 (Fin.frz 2 (Fin.frz 3 ?_)))
  refine Fin.sk (d' := .tup [c.d, bool k]) a ?_ hp rfl hR
  repeat' first | exact rfl | exact trivial | apply And.intro
set_option maxHeartbeats 4000000 in
theorem scmp_spec {nest : SNest} {t : List Tok} (hf : Fit t) {q : Int} (hq : 0 ≤ q ∧ q ≤ 8) (hU : ∀ a, a ≤ t.length → SFar t a (nest a).2.1 (nest a).2.2) (hN : q < 8 → SListOk nest t (q + 1)) (a : Nat) (ha : a ≤ t.length) :
    SMeth 45 [] t a q (.tup [(sCmp (decide (q = 8)) nest t a).1.d, bool (sCmp (decide (q = 8)) nest t a).2.1]) (sCmp (decide (q = 8)) nest t a).2.2 := by
  refine ⟨trivial, ⟨⟨trivial, trivial, trivial, trivial, trivial, trivial⟩, trivial, trivial⟩, spec_mk tab_ok Try.func45 (by rfl) rfl ?_⟩
  have hl := hf.len
  have hlt := tk_or t a
  have s0 := sat_at t (by omega) a q (by omega) 0 a (by omega) (by omega) (by omega)
  have b1 := sis_spec t (by omega) a q (by omega) 1
  have g42 := ssign_spec t (by omega) a q (by omega) 42
  have hlg := fun h => isD_lt (t := t) (i := a) (c := 42) h
  by_cases c1 : (tk t a).kind = 1
  · have e0 : sCmp (decide (q = 8)) nest t a = sCmpRun (decide (q = 8)) nest t (t.length + 2) (a + 1) true { tag := lower (tk t a).text } := if_pos c1
    rw [sIs_of c1] at b1
    conv => whnf
    repeat' first
      | (refine Case.not ?_; conv => whnf)
      | (refine Case.yes ?_; conv => whnf)
      | (refine Case.no ?_; conv => whnf)
      | (refine Case.isTrue (by assumption) ?_; conv => whnf)
      | (refine Case.isFalse (by assumption) ?_; conv => whnf)
      | (refine Case.decT (by assumption) ?_; conv => whnf)
      | (refine Case.decF (by assumption) ?_; conv => whnf)
      | (refine Case.decT (by omega) ?_; conv => whnf)
      | (refine Case.decF (by omega) ?_; conv => whnf)
      | (refine Case.beqT (by omega) ?_; conv => whnf)
      | (refine Case.beqF (by omega) ?_; conv => whnf)
      | (refine Case.strT (by assumption) ?_; conv => whnf)
      | (refine Case.strF (by assumption) ?_; conv => whnf)
      | (refine Case.strF (by simp only [*]; decide) ?_; conv => whnf)
      | (refine s0.call ⟨⟨rfl, rfl, rfl, trivial⟩, rfl, rfl⟩ ?_; conv => whnf)
      | (refine s0.callB ⟨⟨rfl, rfl, rfl, trivial⟩, rfl, rfl⟩ ?_; conv => whnf)
      | (refine b1.call ?_; conv => whnf)
      | (refine (lowerP_spec _ (hf.text _)).call ⟨rfl, rfl⟩ ?_; conv => whnf)
      | (refine step_kinds 2 ?hk ?_; (case hk => decide +kernel); conv => whnf)
      | (refine step_kinds 3 ?hk ?_; (case hk => decide +kernel); conv => whnf)
      | (refine Num.id (by omega) (by omega) ?_; conv => whnf)
      | (refine Case.strI (fun _ => ?_) (fun _ => ?_) <;> conv => whnf)
      | (refine Both.mk ?_ ?_ <;> conv => whnf)
      | (refine Case.dec (fun _ => ?_) (fun _ => ?_) <;> conv => whnf)
      | (refine Case.beqI (fun _ => ?_) (fun _ => ?_) <;> conv => whnf)
      | (refine Case.mk (fun _ => ?_) (fun _ => ?_) <;> conv => whnf)
      | (refine Way.fst ?_; conv => whnf)
    refine step_loop tab_ok (fun s : Cmp × Nat × Bool × Nat => padK [.ptr 0 0, .junk, .ptr 1 0, .junk, .ptr 2 0, .junk, bool s.2.2.1] 32) (fun s => [some (srd t s.2.1 q), some [.junk, .junk, .junk, .junk, .junk], some s.1.own]) 4 (SCmpI (decide (q = 8)) nest t a) (fun s => t.length - s.2.1) ({ tag := lower (tk t a).text }, (a + 1), true, 0) ⟨by dsimp only; omega, by dsimp only; omega, ⟨by simp, by simp, by simp, by simp⟩, fun f hf => by dsimp only at hf ⊢; rw [e0]; exact sCmpRun_fuel hU _ _ _ _ _ (by omega) hf (by omega)⟩ (fun _ => rfl) ?_ ?_
    ·
      repeat' first | exact trivial | exact rfl | exact Nat.zero_le _ | exact Nat.zero_lt_succ _ | exact (by decide : (0 : Nat) < 1) | exact (by decide : (1 : Nat) < 4) | exact (by decide : (2 : Nat) < 4) | exact (by decide : (3 : Nat) < 4) | exact (by decide : (1 : Nat) < 2) | exact (by decide : (2 : Nat) < 3) | exact congrArg int (by (try dsimp only); omega) | exact congrArg (D.own _ _ _) (by simp [strs, Att.row, Psd.row]; done) | exact congrArg bool (by (try dsimp only); simp; omega) | (show _ < List.length _; simp; done) | apply And.intro
    · rintro ⟨c, i, s, n⟩ ⟨h1, h2, h3, h4⟩
      simp only at h1 h2 h3 h4
      have e1 := h4 (t.length - i + 1) (by omega)
      rw [sCmpRun] at e1
      have hsp := ssimple_spec hf hq hU hN i (by omega) c ⟨by have := h3.ids; omega, by have := h3.cls; omega, by have := h3.atts; omega, by have := h3.pss; omega⟩
      have hsz := sSimple_sz (b := decide (q = 8)) (nest := nest) (t := t) (i := i) h3
      obtain ⟨hs1, hs2⟩ := sSimple_far (b := decide (q = 8)) hU (by omega : i ≤ t.length) c
      rcases hr : sSimple (decide (q = 8)) nest t i c with ⟨c', m, k, p⟩
      simp only [hr] at e1 hsp hsz hs1 hs2
      have hup := hs1.up
      cases k with
      | false =>
        rw [if_pos rfl] at e1
        rw [← e1]
        conv => whnf
        repeat' first
          | (refine Case.not ?_; conv => whnf)
          | (refine Case.yes ?_; conv => whnf)
          | (refine Case.no ?_; conv => whnf)
          | (refine Case.isTrue (by assumption) ?_; conv => whnf)
          | (refine Case.isFalse (by assumption) ?_; conv => whnf)
          | (refine Case.decT (by assumption) ?_; conv => whnf)
          | (refine Case.decF (by assumption) ?_; conv => whnf)
          | (refine Case.decT (by omega) ?_; conv => whnf)
          | (refine Case.decF (by omega) ?_; conv => whnf)
          | (refine Case.beqT (by omega) ?_; conv => whnf)
          | (refine Case.beqF (by omega) ?_; conv => whnf)
          | (refine Case.strT (by assumption) ?_; conv => whnf)
          | (refine Case.strF (by assumption) ?_; conv => whnf)
          | (refine Case.strF (by simp only [*]; decide) ?_; conv => whnf)
          | (refine simple_call hsp ?_; conv => whnf)
          | (refine step_kinds 2 ?hk ?_; (case hk => decide +kernel); conv => whnf)
          | (refine step_kinds 3 ?hk ?_; (case hk => decide +kernel); conv => whnf)
          | (refine Num.id (by omega) (by omega) ?_; conv => whnf)
          | (refine Case.strI (fun _ => ?_) (fun _ => ?_) <;> conv => whnf)
          | (refine Both.mk ?_ ?_ <;> conv => whnf)
          | (refine Case.dec (fun _ => ?_) (fun _ => ?_) <;> conv => whnf)
          | (refine Case.beqI (fun _ => ?_) (fun _ => ?_) <;> conv => whnf)
          | (refine Case.mk (fun _ => ?_) (fun _ => ?_) <;> conv => whnf)
          | (refine Way.fst ?_; conv => whnf)
        refine Fin.sk p ?_ rfl rfl ⟨rfl, rfl⟩
        exact ⟨⟨rfl, rfl, rfl, rfl, rfl, rfl⟩, rfl, rfl⟩
      | true =>
        have hok := hs1.ok rfl
        rw [if_neg (by simp)] at e1
        cases m with
        | false =>
          rw [if_pos rfl] at e1
          rw [← e1]
          conv => whnf
          repeat' first
            | (refine Case.not ?_; conv => whnf)
            | (refine Case.yes ?_; conv => whnf)
            | (refine Case.no ?_; conv => whnf)
            | (refine Case.isTrue (by assumption) ?_; conv => whnf)
            | (refine Case.isFalse (by assumption) ?_; conv => whnf)
            | (refine Case.decT (by assumption) ?_; conv => whnf)
            | (refine Case.decF (by assumption) ?_; conv => whnf)
            | (refine Case.decT (by omega) ?_; conv => whnf)
            | (refine Case.decF (by omega) ?_; conv => whnf)
            | (refine Case.beqT (by omega) ?_; conv => whnf)
            | (refine Case.beqF (by omega) ?_; conv => whnf)
            | (refine Case.strT (by assumption) ?_; conv => whnf)
            | (refine Case.strF (by assumption) ?_; conv => whnf)
            | (refine Case.strF (by simp only [*]; decide) ?_; conv => whnf)
            | (refine simple_call hsp ?_; conv => whnf)
            | (refine step_kinds 2 ?hk ?_; (case hk => decide +kernel); conv => whnf)
            | (refine step_kinds 3 ?hk ?_; (case hk => decide +kernel); conv => whnf)
            | (refine Num.id (by omega) (by omega) ?_; conv => whnf)
            | (refine Case.strI (fun _ => ?_) (fun _ => ?_) <;> conv => whnf)
            | (refine Both.mk ?_ ?_ <;> conv => whnf)
            | (refine Case.dec (fun _ => ?_) (fun _ => ?_) <;> conv => whnf)
            | (refine Case.beqI (fun _ => ?_) (fun _ => ?_) <;> conv => whnf)
            | (refine Case.mk (fun _ => ?_) (fun _ => ?_) <;> conv => whnf)
            | (refine Way.fst ?_; conv => whnf)
          exact Fin.scmp p rfl ⟨rfl, rfl⟩
        | true =>
          have hgt := hs2 rfl rfl
          rw [if_neg (by simp)] at e1
          conv => whnf
          repeat' first
            | (refine Case.not ?_; conv => whnf)
            | (refine Case.yes ?_; conv => whnf)
            | (refine Case.no ?_; conv => whnf)
            | (refine Case.isTrue (by assumption) ?_; conv => whnf)
            | (refine Case.isFalse (by assumption) ?_; conv => whnf)
            | (refine Case.decT (by assumption) ?_; conv => whnf)
            | (refine Case.decF (by assumption) ?_; conv => whnf)
            | (refine Case.decT (by omega) ?_; conv => whnf)
            | (refine Case.decF (by omega) ?_; conv => whnf)
            | (refine Case.beqT (by omega) ?_; conv => whnf)
            | (refine Case.beqF (by omega) ?_; conv => whnf)
            | (refine Case.strT (by assumption) ?_; conv => whnf)
            | (refine Case.strF (by assumption) ?_; conv => whnf)
            | (refine Case.strF (by simp only [*]; decide) ?_; conv => whnf)
            | (refine simple_call hsp ?_; conv => whnf)
            | (refine step_kinds 2 ?hk ?_; (case hk => decide +kernel); conv => whnf)
            | (refine step_kinds 3 ?hk ?_; (case hk => decide +kernel); conv => whnf)
            | (refine Num.id (by omega) (by omega) ?_; conv => whnf)
            | (refine Case.strI (fun _ => ?_) (fun _ => ?_) <;> conv => whnf)
            | (refine Both.mk ?_ ?_ <;> conv => whnf)
            | (refine Case.dec (fun _ => ?_) (fun _ => ?_) <;> conv => whnf)
            | (refine Case.beqI (fun _ => ?_) (fun _ => ?_) <;> conv => whnf)
            | (refine Case.mk (fun _ => ?_) (fun _ => ?_) <;> conv => whnf)
            | (refine Way.fst ?_; conv => whnf)
          refine ⟨(c', p, true, n + 1), ⟨by dsimp only; omega, by dsimp only; omega, hsz, fun f hf => ?_⟩, by dsimp only; omega, ?_⟩
          · dsimp only at hf ⊢
            rw [← e1]
            exact sCmpRun_fuel hU _ _ _ _ _ (by omega) hf (by omega)
          ·
            repeat' first | exact trivial | exact rfl | exact Nat.zero_le _ | exact Nat.zero_lt_succ _ | exact (by decide : (0 : Nat) < 1) | exact (by decide : (1 : Nat) < 4) | exact (by decide : (2 : Nat) < 4) | exact (by decide : (3 : Nat) < 4) | exact (by decide : (1 : Nat) < 2) | exact (by decide : (2 : Nat) < 3) | exact congrArg int (by (try dsimp only); omega) | exact congrArg bool (by (try dsimp only); simp; omega) | (show _ < List.length _; simp; done) | apply And.intro
  · have e0 : sCmp (decide (q = 8)) nest t a = sCmpRun (decide (q = 8)) nest t (t.length + 2) (sSign t a 42).2 (sSign t a 42).1 {} := if_neg c1
    rw [sIs_ne c1] at b1
    have hsz : (sSign t a 42).2 ≤ t.length := by unfold sSign; split <;> (try have := hlg (by assumption)) <;> dsimp only <;> omega
    conv => whnf
    repeat' first
      | (refine Case.not ?_; conv => whnf)
      | (refine Case.yes ?_; conv => whnf)
      | (refine Case.no ?_; conv => whnf)
      | (refine Case.isTrue (by assumption) ?_; conv => whnf)
      | (refine Case.isFalse (by assumption) ?_; conv => whnf)
      | (refine Case.decT (by assumption) ?_; conv => whnf)
      | (refine Case.decF (by assumption) ?_; conv => whnf)
      | (refine Case.decT (by omega) ?_; conv => whnf)
      | (refine Case.decF (by omega) ?_; conv => whnf)
      | (refine Case.beqT (by omega) ?_; conv => whnf)
      | (refine Case.beqF (by omega) ?_; conv => whnf)
      | (refine Case.strT (by assumption) ?_; conv => whnf)
      | (refine Case.strF (by assumption) ?_; conv => whnf)
      | (refine Case.strF (by simp only [*]; decide) ?_; conv => whnf)
      | (refine s0.call ⟨⟨rfl, rfl, rfl, trivial⟩, rfl, rfl⟩ ?_; conv => whnf)
      | (refine s0.callB ⟨⟨rfl, rfl, rfl, trivial⟩, rfl, rfl⟩ ?_; conv => whnf)
      | (refine b1.call ?_; conv => whnf)
      | (refine g42.call ?_; conv => whnf)
      | (refine step_kinds 2 ?hk ?_; (case hk => decide +kernel); conv => whnf)
      | (refine step_kinds 3 ?hk ?_; (case hk => decide +kernel); conv => whnf)
      | (refine Num.id (by omega) (by omega) ?_; conv => whnf)
      | (refine Case.strI (fun _ => ?_) (fun _ => ?_) <;> conv => whnf)
      | (refine Both.mk ?_ ?_ <;> conv => whnf)
      | (refine Case.dec (fun _ => ?_) (fun _ => ?_) <;> conv => whnf)
      | (refine Case.beqI (fun _ => ?_) (fun _ => ?_) <;> conv => whnf)
      | (refine Case.mk (fun _ => ?_) (fun _ => ?_) <;> conv => whnf)
      | (refine Way.fst ?_; conv => whnf)
    refine step_loop tab_ok (fun s : Cmp × Nat × Bool × Nat => padK [.ptr 0 0, .junk, .ptr 1 0, .junk, .ptr 2 0, .junk, bool s.2.2.1] 32) (fun s => [some (srd t s.2.1 q), some [.junk, .junk, .junk, .junk, .junk], some s.1.own]) 4 (SCmpI (decide (q = 8)) nest t a) (fun s => t.length - s.2.1) ({}, (sSign t a 42).2, (sSign t a 42).1, 0) ⟨by dsimp only; omega, by dsimp only; omega, ⟨by simp, by simp, by simp, by simp⟩, fun f hf => by dsimp only at hf ⊢; rw [e0]; exact sCmpRun_fuel hU _ _ _ _ _ (by omega) hf (by omega)⟩ (fun _ => rfl) ?_ ?_
    ·
      repeat' first | exact trivial | exact rfl | exact Nat.zero_le _ | exact Nat.zero_lt_succ _ | exact (by decide : (0 : Nat) < 1) | exact (by decide : (1 : Nat) < 4) | exact (by decide : (2 : Nat) < 4) | exact (by decide : (3 : Nat) < 4) | exact (by decide : (1 : Nat) < 2) | exact (by decide : (2 : Nat) < 3) | exact congrArg int (by (try dsimp only); omega) | exact congrArg (D.own _ _ _) (by simp [strs, Att.row, Psd.row]; done) | exact congrArg bool (by (try dsimp only); simp; omega) | (show _ < List.length _; simp; done) | apply And.intro
    · rintro ⟨c, i, s, n⟩ ⟨h1, h2, h3, h4⟩
      simp only at h1 h2 h3 h4
      have e1 := h4 (t.length - i + 1) (by omega)
      rw [sCmpRun] at e1
      have hsp := ssimple_spec hf hq hU hN i (by omega) c ⟨by have := h3.ids; omega, by have := h3.cls; omega, by have := h3.atts; omega, by have := h3.pss; omega⟩
      have hsz := sSimple_sz (b := decide (q = 8)) (nest := nest) (t := t) (i := i) h3
      obtain ⟨hs1, hs2⟩ := sSimple_far (b := decide (q = 8)) hU (by omega : i ≤ t.length) c
      rcases hr : sSimple (decide (q = 8)) nest t i c with ⟨c', m, k, p⟩
      simp only [hr] at e1 hsp hsz hs1 hs2
      have hup := hs1.up
      cases k with
      | false =>
        rw [if_pos rfl] at e1
        rw [← e1]
        conv => whnf
        repeat' first
          | (refine Case.not ?_; conv => whnf)
          | (refine Case.yes ?_; conv => whnf)
          | (refine Case.no ?_; conv => whnf)
          | (refine Case.isTrue (by assumption) ?_; conv => whnf)
          | (refine Case.isFalse (by assumption) ?_; conv => whnf)
          | (refine Case.decT (by assumption) ?_; conv => whnf)
          | (refine Case.decF (by assumption) ?_; conv => whnf)
          | (refine Case.decT (by omega) ?_; conv => whnf)
          | (refine Case.decF (by omega) ?_; conv => whnf)
          | (refine Case.beqT (by omega) ?_; conv => whnf)
          | (refine Case.beqF (by omega) ?_; conv => whnf)
          | (refine Case.strT (by assumption) ?_; conv => whnf)
          | (refine Case.strF (by assumption) ?_; conv => whnf)
          | (refine Case.strF (by simp only [*]; decide) ?_; conv => whnf)
          | (refine simple_call hsp ?_; conv => whnf)
          | (refine step_kinds 2 ?hk ?_; (case hk => decide +kernel); conv => whnf)
          | (refine step_kinds 3 ?hk ?_; (case hk => decide +kernel); conv => whnf)
          | (refine Num.id (by omega) (by omega) ?_; conv => whnf)
          | (refine Case.strI (fun _ => ?_) (fun _ => ?_) <;> conv => whnf)
          | (refine Both.mk ?_ ?_ <;> conv => whnf)
          | (refine Case.dec (fun _ => ?_) (fun _ => ?_) <;> conv => whnf)
          | (refine Case.beqI (fun _ => ?_) (fun _ => ?_) <;> conv => whnf)
          | (refine Case.mk (fun _ => ?_) (fun _ => ?_) <;> conv => whnf)
          | (refine Way.fst ?_; conv => whnf)
        refine Fin.sk p ?_ rfl rfl ⟨rfl, rfl⟩
        exact ⟨⟨rfl, rfl, rfl, rfl, rfl, rfl⟩, rfl, rfl⟩
      | true =>
        have hok := hs1.ok rfl
        rw [if_neg (by simp)] at e1
        cases m with
        | false =>
          rw [if_pos rfl] at e1
          rw [← e1]
          conv => whnf
          repeat' first
            | (refine Case.not ?_; conv => whnf)
            | (refine Case.yes ?_; conv => whnf)
            | (refine Case.no ?_; conv => whnf)
            | (refine Case.isTrue (by assumption) ?_; conv => whnf)
            | (refine Case.isFalse (by assumption) ?_; conv => whnf)
            | (refine Case.decT (by assumption) ?_; conv => whnf)
            | (refine Case.decF (by assumption) ?_; conv => whnf)
            | (refine Case.decT (by omega) ?_; conv => whnf)
            | (refine Case.decF (by omega) ?_; conv => whnf)
            | (refine Case.beqT (by omega) ?_; conv => whnf)
            | (refine Case.beqF (by omega) ?_; conv => whnf)
            | (refine Case.strT (by assumption) ?_; conv => whnf)
            | (refine Case.strF (by assumption) ?_; conv => whnf)
            | (refine Case.strF (by simp only [*]; decide) ?_; conv => whnf)
            | (refine simple_call hsp ?_; conv => whnf)
            | (refine step_kinds 2 ?hk ?_; (case hk => decide +kernel); conv => whnf)
            | (refine step_kinds 3 ?hk ?_; (case hk => decide +kernel); conv => whnf)
            | (refine Num.id (by omega) (by omega) ?_; conv => whnf)
            | (refine Case.strI (fun _ => ?_) (fun _ => ?_) <;> conv => whnf)
            | (refine Both.mk ?_ ?_ <;> conv => whnf)
            | (refine Case.dec (fun _ => ?_) (fun _ => ?_) <;> conv => whnf)
            | (refine Case.beqI (fun _ => ?_) (fun _ => ?_) <;> conv => whnf)
            | (refine Case.mk (fun _ => ?_) (fun _ => ?_) <;> conv => whnf)
            | (refine Way.fst ?_; conv => whnf)
          exact Fin.scmp p rfl ⟨rfl, rfl⟩
        | true =>
          have hgt := hs2 rfl rfl
          rw [if_neg (by simp)] at e1
          conv => whnf
          repeat' first
            | (refine Case.not ?_; conv => whnf)
            | (refine Case.yes ?_; conv => whnf)
            | (refine Case.no ?_; conv => whnf)
            | (refine Case.isTrue (by assumption) ?_; conv => whnf)
            | (refine Case.isFalse (by assumption) ?_; conv => whnf)
            | (refine Case.decT (by assumption) ?_; conv => whnf)
            | (refine Case.decF (by assumption) ?_; conv => whnf)
            | (refine Case.decT (by omega) ?_; conv => whnf)
            | (refine Case.decF (by omega) ?_; conv => whnf)
            | (refine Case.beqT (by omega) ?_; conv => whnf)
            | (refine Case.beqF (by omega) ?_; conv => whnf)
            | (refine Case.strT (by assumption) ?_; conv => whnf)
            | (refine Case.strF (by assumption) ?_; conv => whnf)
            | (refine Case.strF (by simp only [*]; decide) ?_; conv => whnf)
            | (refine simple_call hsp ?_; conv => whnf)
            | (refine step_kinds 2 ?hk ?_; (case hk => decide +kernel); conv => whnf)
            | (refine step_kinds 3 ?hk ?_; (case hk => decide +kernel); conv => whnf)
            | (refine Num.id (by omega) (by omega) ?_; conv => whnf)
            | (refine Case.strI (fun _ => ?_) (fun _ => ?_) <;> conv => whnf)
            | (refine Both.mk ?_ ?_ <;> conv => whnf)
            | (refine Case.dec (fun _ => ?_) (fun _ => ?_) <;> conv => whnf)
            | (refine Case.beqI (fun _ => ?_) (fun _ => ?_) <;> conv => whnf)
            | (refine Case.mk (fun _ => ?_) (fun _ => ?_) <;> conv => whnf)
            | (refine Way.fst ?_; conv => whnf)
          refine ⟨(c', p, true, n + 1), ⟨by dsimp only; omega, by dsimp only; omega, hsz, fun f hf => ?_⟩, by dsimp only; omega, ?_⟩
          · dsimp only at hf ⊢
            rw [← e1]
            exact sCmpRun_fuel hU _ _ _ _ _ (by omega) hf (by omega)
          ·
            repeat' first | exact trivial | exact rfl | exact Nat.zero_le _ | exact Nat.zero_lt_succ _ | exact (by decide : (0 : Nat) < 1) | exact (by decide : (1 : Nat) < 4) | exact (by decide : (2 : Nat) < 4) | exact (by decide : (3 : Nat) < 4) | exact (by decide : (1 : Nat) < 2) | exact (by decide : (2 : Nat) < 3) | exact congrArg int (by (try dsimp only); omega) | exact congrArg bool (by (try dsimp only); simp; omega) | (show _ < List.length _; simp; done) | apply And.intro
end Go.Proofs.Ytdfiegleaknleaa.Aw
