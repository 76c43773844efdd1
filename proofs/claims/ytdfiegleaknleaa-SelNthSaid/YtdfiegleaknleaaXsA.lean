/- The program's reader of selectors: its small methods. -/
import Derived.Test.YtdfiegleaknleaaXrQ
namespace Go.Proofs.Ytdfiegleaknleaa.Aw
open Go Go.RowKit Go.Lib
set_option linter.unusedVariables false
set_option linter.unusedSimpArgs false
set_option maxRecDepth 100000
mutual
theorem ref_cls (h n : Nat) : ∀ d : D, clsD d → refD h n d
  | .f _, _ => by simp [refD]
  | .nil, _ => by simp [refD]
  | .junk, _ => by simp [refD]
  | .agg cs, hs => by unfold clsD at hs; simp [refD, refL_cls h n cs hs]
  | .tup cs, hs => by unfold clsD at hs; simp [refD, refL_cls h n cs hs]
  | .own _ _ _ _, hs => hs.elim
  | .optr _ _ _ _ _ _, hs => hs.elim
  | .ptr _ _, hs => hs.elim
  | .ip _, hs => hs.elim
  | .fn _ _, hs => hs.elim
  | .yl _ _ _ _, hs => hs.elim
theorem refL_cls (h n : Nat) : ∀ ds : List D, clsL ds → refL h n ds
  | [], _ => trivial
  | d :: ds, hs => by unfold clsL at hs; exact ⟨ref_cls h n d hs.1, refL_cls h n ds hs.2⟩
end
abbrev sip (t : List Tok) (a : Nat) (q : Int) : D := .ip [.sl (toksF t), .v (.int .i64 a), .v (.int .i64 q)]
abbrev srd (t : List Tok) (a : Nat) (q : Int) : Cells := [.f (.sl (toksF t)), int a, int q]
/-- An end of one of the reader's methods. -/
theorem Fin.sk {d d' : D} {t : List Tok} {p : Int} {q q' : Int} {more : Hp} {n : Nat} {R : D → Hp → Prop} (a : Nat) (hd : intoD n 0 1 d d') (hp : p = a) (hq : q = q') (hR : R d' [some (srd t a q')]) : Fin d (some [.f (.sl (toksF t)), int p, int q] :: more) n 1 0 R := by
  subst hp hq
  exact Fin.mk d' [some (srd t a q)] hR rfl ⟨by unfold intoL; exact ⟨hd, by unfold intoL; rfl⟩, ⟨rfl, rfl, rfl, rfl⟩, by unfold intoH; cases more <;> trivial⟩
/-- A method of the reader. -/
def SMeth (g : FuncId) (xs : List D) (t : List Tok) (a : Nat) (q : Int) (V : D) (p : Nat) : Prop := clsL xs ∧ clsD V ∧ Spec P g (.ptr 0 0 :: xs) [some (srd t a q)] 0 (fun d H => d = V ∧ H = [some (srd t p q)])
theorem SMeth.call {g : FuncId} {xs : List D} {t : List Tok} {a p : Nat} {q : Int} {V : D} {E : List D} {H : Hp} {n : Nat} {K : KD} (h : SMeth g xs t a q V p) (k : K V E (some (srd t p q) :: H) n) : Call P g (.ptr 0 0 :: xs) E (some (srd t a q) :: H) n K := by
  have e : renL [0] [] (.ptr 0 0 :: xs) = .ptr 0 0 :: xs := by
    rw [renL, renL_cls _ _ _ h.1]
    rfl
  have := call_gen (E := E) (H := some (srd t a q) :: H) (n := n) (K := K) («as» := .ptr 0 0 :: xs) [0] [] h.2.2 (by simp) (by simp) (by simp) (by simp) (by unfold fitH fitH; exact ⟨⟨rfl, ⟨trivial, trivial, trivial, trivial⟩⟩, trivial⟩) ⟨Nat.zero_lt_one, refL_cls _ _ _ h.1⟩ (fun d Hs' hR _ => by
    obtain ⟨rfl, rfl⟩ := hR
    rw [ren_cls _ _ _ h.2.1, killsL_nil, killsH_nil]
    exact k)
  rwa [e] at this
theorem sat_at (t : List Tok) (ht : t.length < 1000000000) (a : Nat) (q : Int) (ha : a < 2000000000) (k : Int) (i : Nat) (hi : (a : Int) + k = i) (h0 : 0 ≤ k) (hk : k < 1000) : Pure 47 [sip t a q, int k] (tk t i).d := by
  have hlen : (toksF t).length = t.length := by simp
  refine ⟨Tok.scal _, spec_mk tab_ok Try.func47 (by rfl) rfl ?_⟩
  conv => whnf
  repeat' first
    | (refine Case.not ?_; conv => whnf)
    | (refine Case.yes ?_; conv => whnf)
    | (refine Case.no ?_; conv => whnf)
    | (refine Case.isTrue (by assumption) ?_; conv => whnf)
    | (refine Case.isFalse (by assumption) ?_; conv => whnf)
    | (refine Case.decT (by assumption) ?_; conv => whnf)
    | (refine Case.decF (by assumption) ?_; conv => whnf)
    | (refine Case.decT (by omega) ?_; conv => whnf)
    | (refine Case.decF (by omega) ?_; conv => whnf)
    | (refine Case.beqT (by omega) ?_; conv => whnf)
    | (refine Case.beqF (by omega) ?_; conv => whnf)
    | (refine Case.strT (by assumption) ?_; conv => whnf)
    | (refine Case.strF (by assumption) ?_; conv => whnf)
    | (refine Case.strF (by simp only [*]; decide) ?_; conv => whnf)
    | (refine step_kinds 2 ?hk ?_; (case hk => decide +kernel); conv => whnf)
    | (refine step_kinds 3 ?hk ?_; (case hk => decide +kernel); conv => whnf)
    | (refine Num.id (by omega) (by omega) ?_; conv => whnf)
    | (refine Case.strI (fun _ => ?_) (fun _ => ?_) <;> conv => whnf)
    | (refine Both.mk ?_ ?_ <;> conv => whnf)
    | (refine Case.dec (fun _ => ?_) (fun _ => ?_) <;> conv => whnf)
    | (refine Case.beqI (fun _ => ?_) (fun _ => ?_) <;> conv => whnf)
    | (refine Case.mk (fun _ => ?_) (fun _ => ?_) <;> conv => whnf)
    | (refine Way.fst ?_; conv => whnf)
  · have e : tk t i = {} := by unfold tk; rw [List.getElem?_eq_none (by omega)]
    rw [e]
    exact Fin.agg (Tok.scal {}) rfl
  · obtain ⟨c, hc⟩ : ∃ c, t[i]? = some c := ⟨_, List.getElem?_eq_getElem (by omega)⟩
    have e : tk t i = c := by unfold tk; rw [hc]
    rw [e]
    repeat' first
      | (refine Case.not ?_; conv => whnf)
      | (refine Case.yes ?_; conv => whnf)
      | (refine Case.no ?_; conv => whnf)
      | (refine Case.isTrue (by assumption) ?_; conv => whnf)
      | (refine Case.isFalse (by assumption) ?_; conv => whnf)
      | (refine Case.decT (by assumption) ?_; conv => whnf)
      | (refine Case.decF (by assumption) ?_; conv => whnf)
      | (refine Case.decT (by omega) ?_; conv => whnf)
      | (refine Case.decF (by omega) ?_; conv => whnf)
      | (refine Case.beqT (by omega) ?_; conv => whnf)
      | (refine Case.beqF (by omega) ?_; conv => whnf)
      | (refine Case.strT (by assumption) ?_; conv => whnf)
      | (refine Case.strF (by assumption) ?_; conv => whnf)
      | (refine Case.strF (by simp only [*]; decide) ?_; conv => whnf)
      | (refine step_kinds 2 ?hk ?_; (case hk => decide +kernel); conv => whnf)
      | (refine step_kinds 3 ?hk ?_; (case hk => decide +kernel); conv => whnf)
      | (refine Owes.mk toksF_row ?_; conv => whnf)
      | (refine Elem.mk i _ (by omega) (toksF_get hc) ?_; conv => whnf)
      | (refine Num.id (by omega) (by omega) ?_; conv => whnf)
      | (refine Case.strI (fun _ => ?_) (fun _ => ?_) <;> conv => whnf)
      | (refine Both.mk ?_ ?_ <;> conv => whnf)
      | (refine Case.dec (fun _ => ?_) (fun _ => ?_) <;> conv => whnf)
      | (refine Case.beqI (fun _ => ?_) (fun _ => ?_) <;> conv => whnf)
      | (refine Case.mk (fun _ => ?_) (fun _ => ?_) <;> conv => whnf)
      | (refine Way.fst ?_; conv => whnf)
    exact Fin.agg (Tok.scal c) rfl
theorem sdelim_spec (k : Tok) (c : Int) : Pure 68 [k.d, int c] (bool (decide (k.kind = 10) && decide (k.c = c))) := by
  refine .mk trivial (spec_mk tab_ok Try.func68 (by rfl) rfl ?_)
  conv => whnf
  repeat' first
    | (refine Case.not ?_; conv => whnf)
    | (refine Case.yes ?_; conv => whnf)
    | (refine Case.no ?_; conv => whnf)
    | (refine Case.isTrue (by assumption) ?_; conv => whnf)
    | (refine Case.isFalse (by assumption) ?_; conv => whnf)
    | (refine Case.decT (by assumption) ?_; conv => whnf)
    | (refine Case.decF (by assumption) ?_; conv => whnf)
    | (refine Case.decT (by omega) ?_; conv => whnf)
    | (refine Case.decF (by omega) ?_; conv => whnf)
    | (refine Case.beqT (by omega) ?_; conv => whnf)
    | (refine Case.beqF (by omega) ?_; conv => whnf)
    | (refine Case.strT (by assumption) ?_; conv => whnf)
    | (refine Case.strF (by assumption) ?_; conv => whnf)
    | (refine Case.strF (by simp only [*]; decide) ?_; conv => whnf)
    | (refine step_kinds 2 ?hk ?_; (case hk => decide +kernel); conv => whnf)
    | (refine step_kinds 3 ?hk ?_; (case hk => decide +kernel); conv => whnf)
    | (refine Num.id (by omega) (by omega) ?_; conv => whnf)
    | (refine Case.strI (fun _ => ?_) (fun _ => ?_) <;> conv => whnf)
    | (refine Both.mk ?_ ?_ <;> conv => whnf)
    | (refine Case.dec (fun _ => ?_) (fun _ => ?_) <;> conv => whnf)
    | (refine Case.beqI (fun _ => ?_) (fun _ => ?_) <;> conv => whnf)
    | (refine Case.mk (fun _ => ?_) (fun _ => ?_) <;> conv => whnf)
    | (refine Way.fst ?_; conv => whnf)
  all_goals (refine Fin.isB ?_; rw [Bool.eq_iff_iff]; simp [*])
def sIs (t : List Tok) (i : Nat) (k : Int) : Bool × Nat := if (tk t i).kind = k then (true, i + 1) else (false, i)
theorem sis_spec (t : List Tok) (ht : t.length < 1000000000) (a : Nat) (q : Int) (ha : a < 1900000000) (k : Int) : SMeth 28 [int k] t a q (bool (sIs t a k).1) (sIs t a k).2 := by
  refine ⟨⟨trivial, trivial⟩, trivial, spec_mk tab_ok Try.func28 (by rfl) rfl ?_⟩
  unfold sIs
  conv => whnf
  repeat' first
    | (refine Case.not ?_; conv => whnf)
    | (refine Case.yes ?_; conv => whnf)
    | (refine Case.no ?_; conv => whnf)
    | (refine Case.isTrue (by assumption) ?_; conv => whnf)
    | (refine Case.isFalse (by assumption) ?_; conv => whnf)
    | (refine Case.decT (by assumption) ?_; conv => whnf)
    | (refine Case.decF (by assumption) ?_; conv => whnf)
    | (refine Case.decT (by omega) ?_; conv => whnf)
    | (refine Case.decF (by omega) ?_; conv => whnf)
    | (refine Case.beqT (by omega) ?_; conv => whnf)
    | (refine Case.beqF (by omega) ?_; conv => whnf)
    | (refine Case.strT (by assumption) ?_; conv => whnf)
    | (refine Case.strF (by assumption) ?_; conv => whnf)
    | (refine Case.strF (by simp only [*]; decide) ?_; conv => whnf)
    | (refine step_kinds 2 ?hk ?_; (case hk => decide +kernel); conv => whnf)
    | (refine step_kinds 3 ?hk ?_; (case hk => decide +kernel); conv => whnf)
    | (refine (sat_at t (by omega) a q (by omega) _ a (by omega) (by omega) (by omega)).call ⟨⟨rfl, rfl, rfl, trivial⟩, rfl, rfl⟩ ?_; conv => whnf)
    | (refine (sat_at t (by omega) a q (by omega) _ a (by omega) (by omega) (by omega)).callB ⟨⟨rfl, rfl, rfl, trivial⟩, rfl, rfl⟩ ?_; conv => whnf)
    | (refine Num.id (by omega) (by omega) ?_; conv => whnf)
    | (refine Case.strI (fun _ => ?_) (fun _ => ?_) <;> conv => whnf)
    | (refine Both.mk ?_ ?_ <;> conv => whnf)
    | (refine Case.dec (fun _ => ?_) (fun _ => ?_) <;> conv => whnf)
    | (refine Case.beqI (fun _ => ?_) (fun _ => ?_) <;> conv => whnf)
    | (refine Case.mk (fun _ => ?_) (fun _ => ?_) <;> conv => whnf)
    | (refine Way.fst ?_; conv => whnf)
  · rw [if_pos (by omega)]
    refine Fin.sk (a + 1) ?_ rfl rfl ⟨rfl, rfl⟩
    exact rfl
  · rw [if_neg (by omega)]
    refine Fin.sk a ?_ rfl rfl ⟨rfl, rfl⟩
    exact rfl
def sSign (t : List Tok) (i : Nat) (c : Int) : Bool × Nat := if isD t i c = true then (true, i + 1) else (false, i)
theorem ssign_spec (t : List Tok) (ht : t.length < 1000000000) (a : Nat) (q : Int) (ha : a < 1900000000) (c : Int) : SMeth 59 [int c] t a q (bool (sSign t a c).1) (sSign t a c).2 := by
  refine ⟨⟨trivial, trivial⟩, trivial, spec_mk tab_ok Try.func59 (by rfl) rfl ?_⟩
  unfold sSign isD
  conv => whnf
  repeat' first
    | (refine Case.not ?_; conv => whnf)
    | (refine Case.yes ?_; conv => whnf)
    | (refine Case.no ?_; conv => whnf)
    | (refine Case.isTrue (by assumption) ?_; conv => whnf)
    | (refine Case.isFalse (by assumption) ?_; conv => whnf)
    | (refine Case.decT (by assumption) ?_; conv => whnf)
    | (refine Case.decF (by assumption) ?_; conv => whnf)
    | (refine Case.decT (by omega) ?_; conv => whnf)
    | (refine Case.decF (by omega) ?_; conv => whnf)
    | (refine Case.beqT (by omega) ?_; conv => whnf)
    | (refine Case.beqF (by omega) ?_; conv => whnf)
    | (refine Case.strT (by assumption) ?_; conv => whnf)
    | (refine Case.strF (by assumption) ?_; conv => whnf)
    | (refine Case.strF (by simp only [*]; decide) ?_; conv => whnf)
    | (refine step_kinds 2 ?hk ?_; (case hk => decide +kernel); conv => whnf)
    | (refine step_kinds 3 ?hk ?_; (case hk => decide +kernel); conv => whnf)
    | (refine (sat_at t (by omega) a q (by omega) _ a (by omega) (by omega) (by omega)).call ⟨⟨rfl, rfl, rfl, trivial⟩, rfl, rfl⟩ ?_; conv => whnf)
    | (refine (sat_at t (by omega) a q (by omega) _ a (by omega) (by omega) (by omega)).callB ⟨⟨rfl, rfl, rfl, trivial⟩, rfl, rfl⟩ ?_; conv => whnf)
    | (refine (sdelim_spec (tk t a) c).call ⟨⟨rfl, rfl, rfl, rfl, rfl, rfl⟩, rfl, rfl⟩ ?_; conv => whnf)
    | (refine Num.id (by omega) (by omega) ?_; conv => whnf)
    | (refine Case.strI (fun _ => ?_) (fun _ => ?_) <;> conv => whnf)
    | (refine Both.mk ?_ ?_ <;> conv => whnf)
    | (refine Case.dec (fun _ => ?_) (fun _ => ?_) <;> conv => whnf)
    | (refine Case.beqI (fun _ => ?_) (fun _ => ?_) <;> conv => whnf)
    | (refine Case.mk (fun _ => ?_) (fun _ => ?_) <;> conv => whnf)
    | (refine Way.fst ?_; conv => whnf)
  · rw [if_pos (by assumption)]
    refine Fin.sk (a + 1) ?_ rfl rfl ⟨rfl, rfl⟩
    exact rfl
  · rw [if_neg (by rename_i h; rw [h]; decide)]
    refine Fin.sk a ?_ rfl rfl ⟨rfl, rfl⟩
    exact rfl
theorem swhite_spec (t : List Tok) (ht : t.length < 1000000000) (a : Nat) (q : Int) (ha : a < 1800000000) : SMeth 26 [] t a q (bool (decide (a < ws t a))) (ws t a) := by
  refine ⟨trivial, trivial, spec_mk tab_ok Try.func26 (by rfl) rfl ?_⟩
  conv => whnf
  repeat' first
    | (refine Case.not ?_; conv => whnf)
    | (refine Case.yes ?_; conv => whnf)
    | (refine Case.no ?_; conv => whnf)
    | (refine Case.isTrue (by assumption) ?_; conv => whnf)
    | (refine Case.isFalse (by assumption) ?_; conv => whnf)
    | (refine Case.decT (by assumption) ?_; conv => whnf)
    | (refine Case.decF (by assumption) ?_; conv => whnf)
    | (refine Case.decT (by omega) ?_; conv => whnf)
    | (refine Case.decF (by omega) ?_; conv => whnf)
    | (refine Case.beqT (by omega) ?_; conv => whnf)
    | (refine Case.beqF (by omega) ?_; conv => whnf)
    | (refine Case.strT (by assumption) ?_; conv => whnf)
    | (refine Case.strF (by assumption) ?_; conv => whnf)
    | (refine Case.strF (by simp only [*]; decide) ?_; conv => whnf)
    | (refine step_kinds 2 ?hk ?_; (case hk => decide +kernel); conv => whnf)
    | (refine step_kinds 3 ?hk ?_; (case hk => decide +kernel); conv => whnf)
    | (refine Num.id (by omega) (by omega) ?_; conv => whnf)
    | (refine Case.strI (fun _ => ?_) (fun _ => ?_) <;> conv => whnf)
    | (refine Both.mk ?_ ?_ <;> conv => whnf)
    | (refine Case.dec (fun _ => ?_) (fun _ => ?_) <;> conv => whnf)
    | (refine Case.beqI (fun _ => ?_) (fun _ => ?_) <;> conv => whnf)
    | (refine Case.mk (fun _ => ?_) (fun _ => ?_) <;> conv => whnf)
    | (refine Way.fst ?_; conv => whnf)
  refine step_loop tab_ok (fun i : Nat => padK [.ptr 0 0, .junk, .junk, bool (decide (a < i))] 7) (fun i => [some (srd t i q)]) 0 (WsI t a) (fun i => t.length - i) a ⟨by omega, by omega, fun f hf => wsTo_fuel t _ _ _ hf (by omega)⟩ (fun _ => rfl) ?_ ?_
  · simp only [Nat.lt_irrefl, decide_false]
    repeat' first | exact trivial | exact rfl | exact Nat.zero_le _ | exact Nat.zero_lt_succ _ | exact (by decide : (0 : Nat) < 1) | exact (by decide : (1 : Nat) < 4) | exact (by decide : (2 : Nat) < 4) | exact (by decide : (3 : Nat) < 4) | exact (by decide : (1 : Nat) < 2) | exact (by decide : (2 : Nat) < 3) | exact congrArg int (by (try dsimp only); omega) | exact congrArg bool (by (try dsimp only); simp; omega) | (show _ < List.length _; simp; done) | apply And.intro
  · rintro i ⟨h1, h2, h3⟩
    have e := h3 (t.length - i + 1) (by omega)
    rw [wsTo] at e
    have hsp := sis_spec t ht i q (by omega) 9
    unfold sIs at hsp
    conv => whnf
    by_cases hk : (tk t i).kind = 9
    · rw [if_pos hk] at hsp e
      have := tk_lt (t := t) (i := i) (by omega)
      repeat' first
        | (refine Case.not ?_; conv => whnf)
        | (refine Case.yes ?_; conv => whnf)
        | (refine Case.no ?_; conv => whnf)
        | (refine Case.isTrue (by assumption) ?_; conv => whnf)
        | (refine Case.isFalse (by assumption) ?_; conv => whnf)
        | (refine Case.decT (by assumption) ?_; conv => whnf)
        | (refine Case.decF (by assumption) ?_; conv => whnf)
        | (refine Case.decT (by omega) ?_; conv => whnf)
        | (refine Case.decF (by omega) ?_; conv => whnf)
        | (refine Case.beqT (by omega) ?_; conv => whnf)
        | (refine Case.beqF (by omega) ?_; conv => whnf)
        | (refine Case.strT (by assumption) ?_; conv => whnf)
        | (refine Case.strF (by assumption) ?_; conv => whnf)
        | (refine Case.strF (by simp only [*]; decide) ?_; conv => whnf)
        | (refine step_kinds 2 ?hk ?_; (case hk => decide +kernel); conv => whnf)
        | (refine step_kinds 3 ?hk ?_; (case hk => decide +kernel); conv => whnf)
        | (refine hsp.call ?_; conv => whnf)
        | (refine Num.id (by omega) (by omega) ?_; conv => whnf)
        | (refine Case.strI (fun _ => ?_) (fun _ => ?_) <;> conv => whnf)
        | (refine Both.mk ?_ ?_ <;> conv => whnf)
        | (refine Case.dec (fun _ => ?_) (fun _ => ?_) <;> conv => whnf)
        | (refine Case.beqI (fun _ => ?_) (fun _ => ?_) <;> conv => whnf)
        | (refine Case.mk (fun _ => ?_) (fun _ => ?_) <;> conv => whnf)
        | (refine Way.fst ?_; conv => whnf)
      refine ⟨i + 1, ⟨by omega, by omega, fun f hf => by rw [← h3 (f + 1) (by omega), wsTo, if_pos (by assumption)]⟩, by omega, ?_⟩
      have e2 : decide (a < i + 1) = true := by simp; omega
      rw [e2]
      repeat' first | exact trivial | exact rfl | exact Nat.zero_le _ | exact Nat.zero_lt_succ _ | exact (by decide : (0 : Nat) < 1) | exact (by decide : (1 : Nat) < 4) | exact (by decide : (2 : Nat) < 4) | exact (by decide : (3 : Nat) < 4) | exact (by decide : (1 : Nat) < 2) | exact (by decide : (2 : Nat) < 3) | exact congrArg int (by (try dsimp only); omega) | exact congrArg bool (by (try dsimp only); simp; omega) | (show _ < List.length _; simp; done) | apply And.intro
    · rw [if_neg hk] at hsp e
      repeat' first
        | (refine Case.not ?_; conv => whnf)
        | (refine Case.yes ?_; conv => whnf)
        | (refine Case.no ?_; conv => whnf)
        | (refine Case.isTrue (by assumption) ?_; conv => whnf)
        | (refine Case.isFalse (by assumption) ?_; conv => whnf)
        | (refine Case.decT (by assumption) ?_; conv => whnf)
        | (refine Case.decF (by assumption) ?_; conv => whnf)
        | (refine Case.decT (by omega) ?_; conv => whnf)
        | (refine Case.decF (by omega) ?_; conv => whnf)
        | (refine Case.beqT (by omega) ?_; conv => whnf)
        | (refine Case.beqF (by omega) ?_; conv => whnf)
        | (refine Case.strT (by assumption) ?_; conv => whnf)
        | (refine Case.strF (by assumption) ?_; conv => whnf)
        | (refine Case.strF (by simp only [*]; decide) ?_; conv => whnf)
        | (refine step_kinds 2 ?hk ?_; (case hk => decide +kernel); conv => whnf)
        | (refine step_kinds 3 ?hk ?_; (case hk => decide +kernel); conv => whnf)
        | (refine hsp.call ?_; conv => whnf)
        | (refine Num.id (by omega) (by omega) ?_; conv => whnf)
        | (refine Case.strI (fun _ => ?_) (fun _ => ?_) <;> conv => whnf)
        | (refine Both.mk ?_ ?_ <;> conv => whnf)
        | (refine Case.dec (fun _ => ?_) (fun _ => ?_) <;> conv => whnf)
        | (refine Case.beqI (fun _ => ?_) (fun _ => ?_) <;> conv => whnf)
        | (refine Case.mk (fun _ => ?_) (fun _ => ?_) <;> conv => whnf)
        | (refine Way.fst ?_; conv => whnf)
      subst e
      refine Fin.sk _ ?_ rfl rfl ⟨rfl, rfl⟩
      exact rfl
def sEnds (t : List Tok) (i : Nat) (q : Int) : Bool := decide (t.length ≤ i) || decide ((tk t i).kind = 13) || (decide ((tk t i).kind = 17) && decide (0 < q))
theorem sends_spec (t : List Tok) (ht : t.length < 1000000000) (a : Nat) (q : Int) (ha : a < 1900000000) : Pure 61 [sip t a q] (bool (sEnds t a q)) := by
  have hlen : (toksF t).length = t.length := by simp
  refine .mk trivial (spec_mk tab_ok Try.func61 (by rfl) rfl ?_)
  conv => whnf
  repeat' first
    | (refine Case.not ?_; conv => whnf)
    | (refine Case.yes ?_; conv => whnf)
    | (refine Case.no ?_; conv => whnf)
    | (refine Case.isTrue (by assumption) ?_; conv => whnf)
    | (refine Case.isFalse (by assumption) ?_; conv => whnf)
    | (refine Case.decT (by assumption) ?_; conv => whnf)
    | (refine Case.decF (by assumption) ?_; conv => whnf)
    | (refine Case.decT (by omega) ?_; conv => whnf)
    | (refine Case.decF (by omega) ?_; conv => whnf)
    | (refine Case.beqT (by omega) ?_; conv => whnf)
    | (refine Case.beqF (by omega) ?_; conv => whnf)
    | (refine Case.strT (by assumption) ?_; conv => whnf)
    | (refine Case.strF (by assumption) ?_; conv => whnf)
    | (refine Case.strF (by simp only [*]; decide) ?_; conv => whnf)
    | (refine step_kinds 2 ?hk ?_; (case hk => decide +kernel); conv => whnf)
    | (refine step_kinds 3 ?hk ?_; (case hk => decide +kernel); conv => whnf)
    | (refine (sat_at t (by omega) a q (by omega) _ a (by omega) (by omega) (by omega)).call ⟨rfl, rfl, rfl⟩ ?_; conv => whnf)
    | (refine (sat_at t (by omega) a q (by omega) _ a (by omega) (by omega) (by omega)).callB ⟨rfl, rfl, rfl⟩ ?_; conv => whnf)
    | (refine Num.id (by omega) (by omega) ?_; conv => whnf)
    | (refine Case.strI (fun _ => ?_) (fun _ => ?_) <;> conv => whnf)
    | (refine Both.mk ?_ ?_ <;> conv => whnf)
    | (refine Case.dec (fun _ => ?_) (fun _ => ?_) <;> conv => whnf)
    | (refine Case.beqI (fun _ => ?_) (fun _ => ?_) <;> conv => whnf)
    | (refine Case.mk (fun _ => ?_) (fun _ => ?_) <;> conv => whnf)
    | (refine Way.fst ?_; conv => whnf)
  all_goals (refine Fin.isB ?_; rw [Bool.eq_iff_iff]; simp only [sEnds, Bool.or_eq_true, Bool.and_eq_true, decide_eq_true_eq, beq_iff_eq, Bool.false_eq_true, false_iff, true_iff]; omega)
end Go.Proofs.Ytdfiegleaknleaa.Aw
