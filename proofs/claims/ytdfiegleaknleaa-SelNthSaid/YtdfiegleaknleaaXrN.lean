/- The picker's small methods. -/
import Derived.Test.YtdfiegleaknleaaXrM
namespace Go.Proofs.Ytdfiegleaknleaa.Aw
open Go Go.RowKit Go.Lib
set_option linter.unusedVariables false
set_option linter.unusedSimpArgs false
set_option maxRecDepth 100000
abbrev pip (t : List Tok) (a : Nat) (b : Bool) (deep : Int) : D := .ip [.sl (toksF t), .v (.int .i64 a), .v (.bool b), .v (.int .i64 deep)]
abbrev pkr (t : List Tok) (a : Nat) (b : Bool) (deep : Int) : Cells := [.f (.sl (toksF t)), int a, bool b, int deep]
theorem psee_spec (t : List Tok) (ht : t.length < 1000000000) (a k : Nat) (b : Bool) (deep : Int) (ha : a < 2000000000) (hk : k < 1000) : Pure 31 [pip t a b deep, int k] (tk t (a + k)).d := by
  have hlen : (toksF t).length = t.length := by simp
  refine ⟨Tok.scal _, spec_mk tab_ok Try.func31 (by rfl) rfl ?_⟩
  conv => whnf
  refine step_kinds 2 (by decide +kernel) ?_
  conv => whnf
  repeat' first
    | (refine Case.not ?_; conv => whnf)
    | (refine Case.yes ?_; conv => whnf)
    | (refine Case.no ?_; conv => whnf)
    | (refine Case.isTrue (by assumption) ?_; conv => whnf)
    | (refine Case.isFalse (by assumption) ?_; conv => whnf)
    | (refine Case.decT (by assumption) ?_; conv => whnf)
    | (refine Case.decF (by assumption) ?_; conv => whnf)
    | (refine Case.decT (by omega) ?_; conv => whnf)
    | (refine Case.decF (by omega) ?_; conv => whnf)
    | (refine Case.beqT (by omega) ?_; conv => whnf)
    | (refine Case.beqF (by omega) ?_; conv => whnf)
    | (refine Num.id (by omega) (by omega) ?_; conv => whnf)
    | (refine Case.dec (fun _ => ?_) (fun _ => ?_) <;> conv => whnf)
    | (refine Case.beqI (fun _ => ?_) (fun _ => ?_) <;> conv => whnf)
    | (refine Case.mk (fun _ => ?_) (fun _ => ?_) <;> conv => whnf)
    | (refine Way.fst ?_; conv => whnf)
  · have e : tk t (a + k) = {} := by unfold tk; rw [List.getElem?_eq_none (by omega)]
    rw [e]
    exact Fin.agg (Tok.scal {}) rfl
  · obtain ⟨c, hc⟩ : ∃ c, t[a + k]? = some c := ⟨_, List.getElem?_eq_getElem (by omega)⟩
    have e : tk t (a + k) = c := by unfold tk; rw [hc]
    rw [e]
    repeat' first
      | (refine Case.not ?_; conv => whnf)
      | (refine Case.yes ?_; conv => whnf)
      | (refine Case.no ?_; conv => whnf)
      | (refine Case.isTrue (by assumption) ?_; conv => whnf)
      | (refine Case.isFalse (by assumption) ?_; conv => whnf)
      | (refine Case.decT (by assumption) ?_; conv => whnf)
      | (refine Case.decF (by assumption) ?_; conv => whnf)
      | (refine Case.decT (by omega) ?_; conv => whnf)
      | (refine Case.decF (by omega) ?_; conv => whnf)
      | (refine Case.beqT (by omega) ?_; conv => whnf)
      | (refine Case.beqF (by omega) ?_; conv => whnf)
      | (refine Case.strT (by assumption) ?_; conv => whnf)
      | (refine Case.strF (by assumption) ?_; conv => whnf)
      | (refine Case.strF (by simp only [*]; decide) ?_; conv => whnf)
      | (refine step_kinds 2 ?hk ?_; (case hk => decide +kernel); conv => whnf)
      | (refine step_kinds 3 ?hk ?_; (case hk => decide +kernel); conv => whnf)
      | (refine Owes.mk toksF_row ?_; conv => whnf)
      | (refine Elem.mk (a + k) _ (by omega) (toksF_get hc) ?_; conv => whnf)
      | (refine Num.id (by omega) (by omega) ?_; conv => whnf)
      | (refine Case.strI (fun _ => ?_) (fun _ => ?_) <;> conv => whnf)
      | (refine Both.mk ?_ ?_ <;> conv => whnf)
      | (refine Case.dec (fun _ => ?_) (fun _ => ?_) <;> conv => whnf)
      | (refine Case.beqI (fun _ => ?_) (fun _ => ?_) <;> conv => whnf)
      | (refine Case.mk (fun _ => ?_) (fun _ => ?_) <;> conv => whnf)
      | (refine Way.fst ?_; conv => whnf)
    exact Fin.agg (Tok.scal c) rfl
theorem psee_at (t : List Tok) (ht : t.length < 1000000000) (a : Nat) (b : Bool) (deep : Int) (ha : a < 2000000000) (k : Int) (i : Nat) (hi : (a : Int) + k = i) (h0 : 0 ≤ k) (hk : k < 1000) : Pure 31 [pip t a b deep, int k] (tk t i).d := by
  obtain ⟨m, rfl⟩ : ∃ m : Nat, k = m := ⟨k.toNat, by omega⟩
  have : i = a + m := by omega
  subst this
  exact psee_spec t ht a m b deep ha (by omega)
theorem tk_lt {t : List Tok} {i : Nat} (h : (tk t i).kind ≠ 0) : i < t.length := by
  rcases Nat.lt_or_ge i t.length with h1 | h1
  · exact h1
  · exfalso; apply h; unfold tk; rw [List.getElem?_eq_none h1]
def isD (t : List Tok) (i : Nat) (c : Int) : Bool := decide ((tk t i).kind = 10) && decide ((tk t i).c = c)
theorem isD_lt {t : List Tok} {i : Nat} {c : Int} (h : isD t i c = true) : i < t.length := by
  simp only [isD, Bool.and_eq_true, decide_eq_true_eq] at h
  exact tk_lt (by omega)
theorem pdelim_at (t : List Tok) (ht : t.length < 1000000000) (a : Nat) (b : Bool) (deep : Int) (ha : a < 2000000000) (k c : Int) (i : Nat) (hi : (a : Int) + k = i) (h0 : 0 ≤ k) (hk : k < 1000) : Pure 63 [pip t a b deep, int k, int c] (bool (isD t i c)) := by
  refine .mk trivial (spec_mk tab_ok Try.func63 (by rfl) rfl ?_)
  conv => whnf
  repeat' first
    | (refine Case.not ?_; conv => whnf)
    | (refine Case.yes ?_; conv => whnf)
    | (refine Case.no ?_; conv => whnf)
    | (refine Case.isTrue (by assumption) ?_; conv => whnf)
    | (refine Case.isFalse (by assumption) ?_; conv => whnf)
    | (refine Case.decT (by assumption) ?_; conv => whnf)
    | (refine Case.decF (by assumption) ?_; conv => whnf)
    | (refine Case.decT (by omega) ?_; conv => whnf)
    | (refine Case.decF (by omega) ?_; conv => whnf)
    | (refine Case.beqT (by omega) ?_; conv => whnf)
    | (refine Case.beqF (by omega) ?_; conv => whnf)
    | (refine Case.strT (by assumption) ?_; conv => whnf)
    | (refine Case.strF (by assumption) ?_; conv => whnf)
    | (refine Case.strF (by simp only [*]; decide) ?_; conv => whnf)
    | (refine step_kinds 2 ?hk ?_; (case hk => decide +kernel); conv => whnf)
    | (refine step_kinds 3 ?hk ?_; (case hk => decide +kernel); conv => whnf)
    | (refine (psee_at t ht a b deep ha k i hi h0 hk).callB ⟨rfl, rfl, rfl⟩ ?_; conv => whnf)
    | (refine (psee_at t ht a b deep ha k i hi h0 hk).call ⟨rfl, rfl, rfl⟩ ?_; conv => whnf)
    | (refine Num.id (by omega) (by omega) ?_; conv => whnf)
    | (refine Case.strI (fun _ => ?_) (fun _ => ?_) <;> conv => whnf)
    | (refine Both.mk ?_ ?_ <;> conv => whnf)
    | (refine Case.dec (fun _ => ?_) (fun _ => ?_) <;> conv => whnf)
    | (refine Case.beqI (fun _ => ?_) (fun _ => ?_) <;> conv => whnf)
    | (refine Case.mk (fun _ => ?_) (fun _ => ?_) <;> conv => whnf)
    | (refine Way.fst ?_; conv => whnf)
  all_goals (refine Fin.isB ?_; rw [Bool.eq_iff_iff]; simp only [isD, Bool.and_eq_true, Bool.or_eq_true, Bool.not_eq_true', decide_eq_true_eq, decide_eq_false_iff_not, beq_iff_eq, beq_eq_false_iff_ne, bne_iff_ne, ne_eq, Bool.false_eq_true, reduceCtorEq, iff_true, true_iff, iff_false, false_iff, not_true_eq_false, not_false_eq_true] at *; try omega)
def pcomb (t : List Tok) (i : Nat) : Int := if isD t i 62 then 2 else if isD t i 43 then 3 else if isD t i 126 then 4 else 0
theorem pcomb_spec (t : List Tok) (ht : t.length < 1000000000) (a : Nat) (b : Bool) (deep : Int) (ha : a < 2000000000) : Pure 49 [pip t a b deep] (int (pcomb t a)) := by
  refine .mk trivial (spec_mk tab_ok Try.func49 (by rfl) rfl ?_)
  conv => whnf
  repeat' first
    | (refine Case.not ?_; conv => whnf)
    | (refine Case.yes ?_; conv => whnf)
    | (refine Case.no ?_; conv => whnf)
    | (refine Case.isTrue (by assumption) ?_; conv => whnf)
    | (refine Case.isFalse (by assumption) ?_; conv => whnf)
    | (refine Case.decT (by assumption) ?_; conv => whnf)
    | (refine Case.decF (by assumption) ?_; conv => whnf)
    | (refine Case.decT (by omega) ?_; conv => whnf)
    | (refine Case.decF (by omega) ?_; conv => whnf)
    | (refine Case.beqT (by omega) ?_; conv => whnf)
    | (refine Case.beqF (by omega) ?_; conv => whnf)
    | (refine Case.strT (by assumption) ?_; conv => whnf)
    | (refine Case.strF (by assumption) ?_; conv => whnf)
    | (refine Case.strF (by simp only [*]; decide) ?_; conv => whnf)
    | (refine step_kinds 2 ?hk ?_; (case hk => decide +kernel); conv => whnf)
    | (refine step_kinds 3 ?hk ?_; (case hk => decide +kernel); conv => whnf)
    | (refine (pdelim_at t ht a b deep ha _ _ a (by omega) (by omega) (by omega)).call ⟨rfl, rfl, rfl, rfl⟩ ?_; conv => whnf)
    | (refine Num.id (by omega) (by omega) ?_; conv => whnf)
    | (refine Case.strI (fun _ => ?_) (fun _ => ?_) <;> conv => whnf)
    | (refine Both.mk ?_ ?_ <;> conv => whnf)
    | (refine Case.dec (fun _ => ?_) (fun _ => ?_) <;> conv => whnf)
    | (refine Case.beqI (fun _ => ?_) (fun _ => ?_) <;> conv => whnf)
    | (refine Case.mk (fun _ => ?_) (fun _ => ?_) <;> conv => whnf)
    | (refine Way.fst ?_; conv => whnf)
  all_goals (refine Fin.isI ?_; simp [pcomb, *])
theorem pover_spec (t : List Tok) (ht : t.length < 1000000000) (a : Nat) (b : Bool) (deep : Int) (ha : a < 2000000000) : Pure 32 [pip t a b deep] (bool (decide (t.length ≤ a))) := by
  have hlen : (toksF t).length = t.length := by simp
  refine .mk trivial (spec_mk tab_ok Try.func32 (by rfl) rfl ?_)
  conv => whnf
  repeat' first
    | (refine Case.not ?_; conv => whnf)
    | (refine Case.yes ?_; conv => whnf)
    | (refine Case.no ?_; conv => whnf)
    | (refine Case.isTrue (by assumption) ?_; conv => whnf)
    | (refine Case.isFalse (by assumption) ?_; conv => whnf)
    | (refine Case.decT (by assumption) ?_; conv => whnf)
    | (refine Case.decF (by assumption) ?_; conv => whnf)
    | (refine Case.decT (by omega) ?_; conv => whnf)
    | (refine Case.decF (by omega) ?_; conv => whnf)
    | (refine Case.beqT (by omega) ?_; conv => whnf)
    | (refine Case.beqF (by omega) ?_; conv => whnf)
    | (refine Case.strT (by assumption) ?_; conv => whnf)
    | (refine Case.strF (by assumption) ?_; conv => whnf)
    | (refine Case.strF (by simp only [*]; decide) ?_; conv => whnf)
    | (refine step_kinds 2 ?hk ?_; (case hk => decide +kernel); conv => whnf)
    | (refine step_kinds 3 ?hk ?_; (case hk => decide +kernel); conv => whnf)
    | (refine Num.id (by omega) (by omega) ?_; conv => whnf)
    | (refine Case.strI (fun _ => ?_) (fun _ => ?_) <;> conv => whnf)
    | (refine Both.mk ?_ ?_ <;> conv => whnf)
    | (refine Case.dec (fun _ => ?_) (fun _ => ?_) <;> conv => whnf)
    | (refine Case.beqI (fun _ => ?_) (fun _ => ?_) <;> conv => whnf)
    | (refine Case.mk (fun _ => ?_) (fun _ => ?_) <;> conv => whnf)
    | (refine Way.fst ?_; conv => whnf)
  all_goals (refine Fin.isB ?_; rw [hlen]; simp)
def pends (t : List Tok) (i : Nat) : Bool := decide (t.length ≤ i) || decide ((tk t i).kind = 13) || decide ((tk t i).kind = 17)
theorem pends_spec (t : List Tok) (ht : t.length < 1000000000) (a : Nat) (b : Bool) (deep : Int) (ha : a < 2000000000) : Pure 50 [pip t a b deep] (bool (pends t a)) := by
  refine .mk trivial (spec_mk tab_ok Try.func50 (by rfl) rfl ?_)
  conv => whnf
  repeat' first
    | (refine Case.not ?_; conv => whnf)
    | (refine Case.yes ?_; conv => whnf)
    | (refine Case.no ?_; conv => whnf)
    | (refine Case.isTrue (by assumption) ?_; conv => whnf)
    | (refine Case.isFalse (by assumption) ?_; conv => whnf)
    | (refine Case.decT (by assumption) ?_; conv => whnf)
    | (refine Case.decF (by assumption) ?_; conv => whnf)
    | (refine Case.decT (by omega) ?_; conv => whnf)
    | (refine Case.decF (by omega) ?_; conv => whnf)
    | (refine Case.beqT (by omega) ?_; conv => whnf)
    | (refine Case.beqF (by omega) ?_; conv => whnf)
    | (refine Case.strT (by assumption) ?_; conv => whnf)
    | (refine Case.strF (by assumption) ?_; conv => whnf)
    | (refine Case.strF (by simp only [*]; decide) ?_; conv => whnf)
    | (refine step_kinds 2 ?hk ?_; (case hk => decide +kernel); conv => whnf)
    | (refine step_kinds 3 ?hk ?_; (case hk => decide +kernel); conv => whnf)
    | (refine (psee_at t ht a b deep ha _ a (by omega) (by omega) (by omega)).call ⟨rfl, rfl, rfl⟩ ?_; conv => whnf)
    | (refine (pover_spec t ht a b deep ha).call ⟨rfl, rfl⟩ ?_; conv => whnf)
    | (refine Num.id (by omega) (by omega) ?_; conv => whnf)
    | (refine Case.strI (fun _ => ?_) (fun _ => ?_) <;> conv => whnf)
    | (refine Both.mk ?_ ?_ <;> conv => whnf)
    | (refine Case.dec (fun _ => ?_) (fun _ => ?_) <;> conv => whnf)
    | (refine Case.beqI (fun _ => ?_) (fun _ => ?_) <;> conv => whnf)
    | (refine Case.mk (fun _ => ?_) (fun _ => ?_) <;> conv => whnf)
    | (refine Way.fst ?_; conv => whnf)
  all_goals (refine Fin.isB ?_; rw [Bool.eq_iff_iff]; simp only [pends, Bool.and_eq_true, Bool.or_eq_true, Bool.not_eq_true', decide_eq_true_eq, decide_eq_false_iff_not, beq_iff_eq, beq_eq_false_iff_ne, bne_iff_ne, ne_eq, Bool.false_eq_true, reduceCtorEq, iff_true, true_iff, iff_false, false_iff, not_true_eq_false, not_false_eq_true] at *; try omega)
mutual
/-- Values without names. -/
def clsD : D → Prop
  | .f _ => True
  | .nil => True
  | .junk => True
  | .agg cs => clsL cs
  | .tup cs => clsL cs
  | _ => False
def clsL : List D → Prop
  | [] => True
  | d :: ds => clsD d ∧ clsL ds
end
mutual
theorem into_cls (n0 n h : Nat) : ∀ d : D, clsD d → intoD n0 n h d d
  | .f (.v x), _ => by unfold intoD; rfl
  | .f (.sl _), _ => by unfold intoD; rfl
  | .nil, _ => by unfold intoD; rfl
  | .junk, _ => by unfold intoD; trivial
  | .agg cs, hs => by unfold clsD at hs; unfold intoD; exact intos_cls n0 n h cs hs
  | .tup cs, hs => by unfold clsD at hs; unfold intoD; exact intos_cls n0 n h cs hs
  | .own _ _ _ _, hs => hs.elim
  | .optr _ _ _ _ _ _, hs => hs.elim
  | .ptr _ _, hs => hs.elim
  | .ip _, hs => hs.elim
  | .fn _ _, hs => hs.elim
  | .yl _ _ _ _, hs => hs.elim
theorem intos_cls (n0 n h : Nat) : ∀ ds : List D, clsL ds → intoL n0 n h ds ds
  | [], _ => by unfold intoL; rfl
  | d :: ds, hs => by unfold clsL at hs; unfold intoL; exact ⟨into_cls n0 n h d hs.1, intos_cls n0 n h ds hs.2⟩
end
mutual
theorem ren_cls (ρ σ : List Nat) : ∀ d : D, clsD d → d.ren ρ σ = d
  | .f _, _ => by simp [D.ren]
  | .nil, _ => by simp [D.ren]
  | .junk, _ => by simp [D.ren]
  | .agg cs, hs => by unfold clsD at hs; simp [D.ren, renL_cls ρ σ cs hs]
  | .tup cs, hs => by unfold clsD at hs; simp [D.ren, renL_cls ρ σ cs hs]
  | .own _ _ _ _, hs => hs.elim
  | .optr _ _ _ _ _ _, hs => hs.elim
  | .ptr _ _, hs => hs.elim
  | .ip _, hs => hs.elim
  | .fn _ _, hs => hs.elim
  | .yl _ _ _ _, hs => hs.elim
theorem renL_cls (ρ σ : List Nat) : ∀ ds : List D, clsL ds → renL ρ σ ds = ds
  | [], _ => rfl
  | d :: ds, hs => by unfold clsL at hs; simp [renL, ren_cls ρ σ d hs.1, renL_cls ρ σ ds hs.2]
end
/-- An end of one of the picker's methods. -/
theorem Fin.pk {d : D} {t : List Tok} {p : Int} {b b' : Bool} {q q' : Int} {more : Hp} {n : Nat} {R : D → Hp → Prop} (a : Nat) (hs : clsD d) (hp : p = a) (hb : b = b') (hq : q = q') (hR : R d [some (pkr t a b' q')]) : Fin d (some [.f (.sl (toksF t)), int p, bool b, int q] :: more) n 1 0 R := by
  subst hp hb hq
  exact Fin.mk d [some (pkr t a b q)] hR rfl ⟨by unfold intoL; exact ⟨into_cls _ _ _ d hs, by unfold intoL; rfl⟩, ⟨rfl, rfl, rfl, rfl, rfl⟩, by unfold intoH; cases more <;> trivial⟩
/-- A method of the picker that hands back a plain value. -/
def PMeth (g : FuncId) (t : List Tok) (a : Nat) (b : Bool) (q : Int) (V : D) (p : Nat) (b' : Bool) : Prop := clsD V ∧ Spec P g [.ptr 0 0] [some (pkr t a b q)] 0 (fun d H => d = V ∧ H = [some (pkr t p b' q)])
theorem PMeth.call {g : FuncId} {t : List Tok} {a p : Nat} {b b' : Bool} {q : Int} {V : D} {E : List D} {H : Hp} {n : Nat} {K : KD} (h : PMeth g t a b q V p b') (k : K V E (some (pkr t p b' q) :: H) n) : Call P g [.ptr 0 0] E (some (pkr t a b q) :: H) n K := by
  refine call_gen («as» := [.ptr 0 0]) [0] [] h.2 (by simp) (by simp) (by simp) (by simp) ?_ ?_ ?_
  · unfold fitH fitH; exact ⟨⟨rfl, ⟨trivial, trivial, trivial, trivial, trivial⟩⟩, trivial⟩
  · exact ⟨Nat.zero_lt_one, trivial⟩
  · rintro d Hs' ⟨rfl, rfl⟩ _
    rw [ren_cls _ _ _ h.1, killsL_nil, killsH_nil]
    exact k
def wsTo (t : List Tok) : Nat → Nat → Nat
  | 0, i => i
  | f + 1, i => if (tk t i).kind = 9 then wsTo t f (i + 1) else i
def ws (t : List Tok) (i : Nat) : Nat := wsTo t (t.length + 1) i
theorem wsTo_fuel (t : List Tok) : ∀ (f g i : Nat), t.length - i < f → t.length - i < g → wsTo t f i = wsTo t g i
  | 0, _, _, h, _ => by omega
  | f + 1, 0, _, _, h => by omega
  | f + 1, g + 1, i, h1, h2 => by
    unfold wsTo
    split
    · rename_i h
      have := tk_lt (t := t) (i := i) (by omega)
      exact wsTo_fuel t f g _ (by omega) (by omega)
    · rfl
theorem wsTo_le (t : List Tok) : ∀ (f i : Nat), i ≤ wsTo t f i ∧ (wsTo t f i = i ∨ wsTo t f i ≤ t.length)
  | 0, i => ⟨Nat.le_refl _, .inl rfl⟩
  | f + 1, i => by
    unfold wsTo
    split
    · rename_i h
      have := tk_lt (t := t) (i := i) (by omega)
      have := wsTo_le t f (i + 1)
      omega
    · exact ⟨Nat.le_refl _, .inl rfl⟩
theorem ws_le (t : List Tok) (i : Nat) : i ≤ ws t i ∧ (ws t i = i ∨ ws t i ≤ t.length) := wsTo_le t _ i
theorem wsTo_end (t : List Tok) : ∀ (f i : Nat), t.length - i < f → (tk t (wsTo t f i)).kind ≠ 9
  | 0, i, h => by omega
  | f + 1, i, h => by
    unfold wsTo
    split
    · rename_i h1
      have := tk_lt (t := t) (i := i) (by omega)
      exact wsTo_end t f _ (by omega)
    · assumption
theorem ws_end (t : List Tok) (i : Nat) : (tk t (ws t i)).kind ≠ 9 := wsTo_end t _ i (by omega)
structure WsI (t : List Tok) (a i : Nat) : Prop where
  ge : a ≤ i
  le : i = a ∨ i ≤ t.length
  run : ∀ f, t.length - i < f → wsTo t f i = ws t a
theorem pwhite_spec (t : List Tok) (ht : t.length < 1000000000) (a : Nat) (b : Bool) (q : Int) (ha : a < 1900000000) : PMeth 29 t a b q (bool (decide (a < ws t a))) (ws t a) b := by
  refine ⟨trivial, spec_mk tab_ok Try.func29 (by rfl) rfl ?_⟩
  conv => whnf
  repeat' first
    | (refine Case.not ?_; conv => whnf)
    | (refine Case.yes ?_; conv => whnf)
    | (refine Case.no ?_; conv => whnf)
    | (refine Case.isTrue (by assumption) ?_; conv => whnf)
    | (refine Case.isFalse (by assumption) ?_; conv => whnf)
    | (refine Case.decT (by assumption) ?_; conv => whnf)
    | (refine Case.decF (by assumption) ?_; conv => whnf)
    | (refine Case.decT (by omega) ?_; conv => whnf)
    | (refine Case.decF (by omega) ?_; conv => whnf)
    | (refine Case.beqT (by omega) ?_; conv => whnf)
    | (refine Case.beqF (by omega) ?_; conv => whnf)
    | (refine Case.strT (by assumption) ?_; conv => whnf)
    | (refine Case.strF (by assumption) ?_; conv => whnf)
    | (refine Case.strF (by simp only [*]; decide) ?_; conv => whnf)
    | (refine step_kinds 2 ?hk ?_; (case hk => decide +kernel); conv => whnf)
    | (refine step_kinds 3 ?hk ?_; (case hk => decide +kernel); conv => whnf)
    | (refine Num.id (by omega) (by omega) ?_; conv => whnf)
    | (refine Case.strI (fun _ => ?_) (fun _ => ?_) <;> conv => whnf)
    | (refine Both.mk ?_ ?_ <;> conv => whnf)
    | (refine Case.dec (fun _ => ?_) (fun _ => ?_) <;> conv => whnf)
    | (refine Case.beqI (fun _ => ?_) (fun _ => ?_) <;> conv => whnf)
    | (refine Case.mk (fun _ => ?_) (fun _ => ?_) <;> conv => whnf)
    | (refine Way.fst ?_; conv => whnf)
  refine step_loop tab_ok (fun i : Nat => padK [.ptr 0 0, .junk, .junk, int a] 25) (fun i => [some (pkr t i b q)]) 0 (WsI t a) (fun i => t.length - i) a ⟨by omega, by omega, fun f hf => wsTo_fuel t _ _ _ hf (by omega)⟩ (fun _ => rfl) ?_ ?_
  ·
    repeat' first | exact trivial | exact rfl | exact (by decide : (0 : Nat) < 1) | exact Nat.le_refl _ | exact Nat.zero_lt_succ _ | exact congrArg int (by (try dsimp only); omega) | exact congrArg bool (by (try dsimp only); simp; omega) | (show _ < List.length _; simp; done) | apply And.intro
  · rintro i ⟨h1, h2, h3⟩
    have e := h3 (t.length - i + 1) (by omega)
    rw [wsTo] at e
    conv => whnf
    repeat' first
      | (refine Case.not ?_; conv => whnf)
      | (refine Case.yes ?_; conv => whnf)
      | (refine Case.no ?_; conv => whnf)
      | (refine Case.isTrue (by assumption) ?_; conv => whnf)
      | (refine Case.isFalse (by assumption) ?_; conv => whnf)
      | (refine Case.decT (by assumption) ?_; conv => whnf)
      | (refine Case.decF (by assumption) ?_; conv => whnf)
      | (refine Case.decT (by omega) ?_; conv => whnf)
      | (refine Case.decF (by omega) ?_; conv => whnf)
      | (refine Case.beqT (by omega) ?_; conv => whnf)
      | (refine Case.beqF (by omega) ?_; conv => whnf)
      | (refine Case.strT (by assumption) ?_; conv => whnf)
      | (refine Case.strF (by assumption) ?_; conv => whnf)
      | (refine Case.strF (by simp only [*]; decide) ?_; conv => whnf)
      | (refine step_kinds 2 ?hk ?_; (case hk => decide +kernel); conv => whnf)
      | (refine step_kinds 3 ?hk ?_; (case hk => decide +kernel); conv => whnf)
      | (refine (psee_at t ht i b q (by omega) _ i (by omega) (by omega) (by omega)).call ⟨⟨rfl, rfl, rfl, rfl, trivial⟩, rfl, rfl⟩ ?_; conv => whnf)
      | (refine Num.id (by omega) (by omega) ?_; conv => whnf)
      | (refine Case.strI (fun _ => ?_) (fun _ => ?_) <;> conv => whnf)
      | (refine Both.mk ?_ ?_ <;> conv => whnf)
      | (refine Case.dec (fun _ => ?_) (fun _ => ?_) <;> conv => whnf)
      | (refine Case.beqI (fun _ => ?_) (fun _ => ?_) <;> conv => whnf)
      | (refine Case.mk (fun _ => ?_) (fun _ => ?_) <;> conv => whnf)
      | (refine Way.fst ?_; conv => whnf)
    · have := tk_lt (t := t) (i := i) (by omega)
      refine ⟨i + 1, ⟨by omega, by omega, fun f hf => by rw [← h3 (f + 1) (by omega), wsTo, if_pos (by assumption)]⟩, by omega, ?_⟩
      repeat' first | exact trivial | exact rfl | exact (by decide : (0 : Nat) < 1) | exact Nat.le_refl _ | exact Nat.zero_lt_succ _ | exact congrArg int (by (try dsimp only); omega) | exact congrArg bool (by (try dsimp only); simp; omega) | (show _ < List.length _; simp; done) | apply And.intro
    · rw [if_neg (by assumption)] at e
      subst e
      refine Fin.pk _ trivial rfl rfl rfl ⟨?_, rfl⟩
      simp
end Go.Proofs.Ytdfiegleaknleaa.Aw
