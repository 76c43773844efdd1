/- The picker's small methods. -/
/- The picker's attr and nth. -/
/- The picker's compounds, selectors, lists, as plain functions; how far they go. -/
/- Equal lists: the reference's SameTokens, SameStrings, SameCompound, SameSelectors of one list and itself. -/
import Derived.Test.YtdenafhfngnlfaaDoorXrM
namespace Go.Proofs.YtdenafhfngnlfaaDoor.Aw
open Go Go.RowKit Go.Lib
set_option linter.unusedVariables false
set_option linter.unusedSimpArgs false
set_option maxRecDepth 100000
abbrev pip (t : List Tok) (a : Nat) (b : Bool) (deep : Int) : D := .ip [.sl (toksF t), .v (.int .i64 a), .v (.bool b), .v (.int .i64 deep)]
abbrev pkr (t : List Tok) (a : Nat) (b : Bool) (deep : Int) : Cells := [.f (.sl (toksF t)), int a, bool b, int deep]
theorem tk_lt {t : List Tok} {i : Nat} (h : (tk t i).kind ≠ 0) : i < t.length := by
  rcases Nat.lt_or_ge i t.length with h1 | h1
  · exact h1
  · exfalso; apply h; unfold tk; rw [List.getElem?_eq_none h1]
def isD (t : List Tok) (i : Nat) (c : Int) : Bool := decide ((tk t i).kind = 10) && decide ((tk t i).c = c)
theorem isD_lt {t : List Tok} {i : Nat} {c : Int} (h : isD t i c = true) : i < t.length := by
  simp only [isD, Bool.and_eq_true, decide_eq_true_eq] at h
  exact tk_lt (by omega)
def pcomb (t : List Tok) (i : Nat) : Int := if isD t i 62 then 2 else if isD t i 43 then 3 else if isD t i 126 then 4 else 0
def pends (t : List Tok) (i : Nat) : Bool := decide (t.length ≤ i) || decide ((tk t i).kind = 13) || decide ((tk t i).kind = 17)
mutual
/-- Values without names. -/
def clsD : D → Prop
  | .f _ => True
  | .nil => True
  | .junk => True
  | .agg cs => clsL cs
  | .tup cs => clsL cs
  | _ => False
def clsL : List D → Prop
  | [] => True
  | d :: ds => clsD d ∧ clsL ds
end
mutual
theorem into_cls (n0 n h : Nat) : ∀ d : D, clsD d → intoD n0 n h d d
  | .f (.v x), _ => by unfold intoD; rfl
  | .f (.sl _), _ => by unfold intoD; rfl
  | .nil, _ => by unfold intoD; rfl
  | .junk, _ => by unfold intoD; trivial
  | .agg cs, hs => by unfold clsD at hs; unfold intoD; exact intos_cls n0 n h cs hs
  | .tup cs, hs => by unfold clsD at hs; unfold intoD; exact intos_cls n0 n h cs hs
  | .own _ _ _ _, hs => hs.elim
  | .optr _ _ _ _ _ _, hs => hs.elim
  | .ptr _ _, hs => hs.elim
  | .ip _, hs => hs.elim
  | .fn _ _, hs => hs.elim
  | .yl _ _ _ _, hs => hs.elim
theorem intos_cls (n0 n h : Nat) : ∀ ds : List D, clsL ds → intoL n0 n h ds ds
  | [], _ => by unfold intoL; rfl
  | d :: ds, hs => by unfold clsL at hs; unfold intoL; exact ⟨into_cls n0 n h d hs.1, intos_cls n0 n h ds hs.2⟩
end
mutual
theorem ren_cls (ρ σ : List Nat) : ∀ d : D, clsD d → d.ren ρ σ = d
  | .f _, _ => by simp [D.ren]
  | .nil, _ => by simp [D.ren]
  | .junk, _ => by simp [D.ren]
  | .agg cs, hs => by unfold clsD at hs; simp [D.ren, renL_cls ρ σ cs hs]
  | .tup cs, hs => by unfold clsD at hs; simp [D.ren, renL_cls ρ σ cs hs]
  | .own _ _ _ _, hs => hs.elim
  | .optr _ _ _ _ _ _, hs => hs.elim
  | .ptr _ _, hs => hs.elim
  | .ip _, hs => hs.elim
  | .fn _ _, hs => hs.elim
  | .yl _ _ _ _, hs => hs.elim
theorem renL_cls (ρ σ : List Nat) : ∀ ds : List D, clsL ds → renL ρ σ ds = ds
  | [], _ => rfl
  | d :: ds, hs => by unfold clsL at hs; simp [renL, ren_cls ρ σ d hs.1, renL_cls ρ σ ds hs.2]
end
/-- An end of one of the picker's methods. -/
theorem Fin.pk {d : D} {t : List Tok} {p : Int} {b b' : Bool} {q q' : Int} {more : Hp} {n : Nat} {R : D → Hp → Prop} (a : Nat) (hs : clsD d) (hp : p = a) (hb : b = b') (hq : q = q') (hR : R d [some (pkr t a b' q')]) : Fin d (some [.f (.sl (toksF t)), int p, bool b, int q] :: more) n 1 0 R := by
  subst hp hb hq
  exact Fin.mk d [some (pkr t a b q)] hR rfl ⟨by unfold intoL; exact ⟨into_cls _ _ _ d hs, by unfold intoL; rfl⟩, ⟨rfl, rfl, rfl, rfl, rfl⟩, by unfold intoH; cases more <;> trivial⟩
/-- A method of the picker that hands back a plain value. -/
def PMeth (g : FuncId) (t : List Tok) (a : Nat) (b : Bool) (q : Int) (V : D) (p : Nat) (b' : Bool) : Prop := clsD V ∧ Spec P g [.ptr 0 0] [some (pkr t a b q)] 0 (fun d H => d = V ∧ H = [some (pkr t p b' q)])
theorem PMeth.call {g : FuncId} {t : List Tok} {a p : Nat} {b b' : Bool} {q : Int} {V : D} {E : List D} {H : Hp} {n : Nat} {K : KD} (h : PMeth g t a b q V p b') (k : K V E (some (pkr t p b' q) :: H) n) : Call P g [.ptr 0 0] E (some (pkr t a b q) :: H) n K := by
  refine call_gen («as» := [.ptr 0 0]) [0] [] h.2 (by simp) (by simp) (by simp) (by simp) ?_ ?_ ?_
  · unfold fitH fitH; exact ⟨⟨rfl, ⟨trivial, trivial, trivial, trivial, trivial⟩⟩, trivial⟩
  · exact ⟨Nat.zero_lt_one, trivial⟩
  · rintro d Hs' ⟨rfl, rfl⟩ _
    rw [ren_cls _ _ _ h.1, killsL_nil, killsH_nil]
    exact k
def wsTo (t : List Tok) : Nat → Nat → Nat
  | 0, i => i
  | f + 1, i => if (tk t i).kind = 9 then wsTo t f (i + 1) else i
def ws (t : List Tok) (i : Nat) : Nat := wsTo t (t.length + 1) i
theorem wsTo_fuel (t : List Tok) : ∀ (f g i : Nat), t.length - i < f → t.length - i < g → wsTo t f i = wsTo t g i
  | 0, _, _, h, _ => by omega
  | f + 1, 0, _, _, h => by omega
  | f + 1, g + 1, i, h1, h2 => by
    unfold wsTo
    split
    · rename_i h
      have := tk_lt (t := t) (i := i) (by omega)
      exact wsTo_fuel t f g _ (by omega) (by omega)
    · rfl
theorem wsTo_le (t : List Tok) : ∀ (f i : Nat), i ≤ wsTo t f i ∧ (wsTo t f i = i ∨ wsTo t f i ≤ t.length)
  | 0, i => ⟨Nat.le_refl _, .inl rfl⟩
  | f + 1, i => by
    unfold wsTo
    split
    · rename_i h
      have := tk_lt (t := t) (i := i) (by omega)
      have := wsTo_le t f (i + 1)
      omega
    · exact ⟨Nat.le_refl _, .inl rfl⟩
theorem ws_le (t : List Tok) (i : Nat) : i ≤ ws t i ∧ (ws t i = i ∨ ws t i ≤ t.length) := wsTo_le t _ i
theorem wsTo_end (t : List Tok) : ∀ (f i : Nat), t.length - i < f → (tk t (wsTo t f i)).kind ≠ 9
  | 0, i, h => by omega
  | f + 1, i, h => by
    unfold wsTo
    split
    · rename_i h1
      have := tk_lt (t := t) (i := i) (by omega)
      exact wsTo_end t f _ (by omega)
    · assumption
theorem ws_end (t : List Tok) (i : Nat) : (tk t (ws t i)).kind ≠ 9 := wsTo_end t _ i (by omega)
structure WsI (t : List Tok) (a i : Nat) : Prop where
  ge : a ≤ i
  le : i = a ∨ i ≤ t.length
  run : ∀ f, t.length - i < f → wsTo t f i = ws t a
end Go.Proofs.YtdenafhfngnlfaaDoor.Aw

namespace Go.Proofs.YtdenafhfngnlfaaDoor.Aw
open Go Go.RowKit Go.Lib
set_option linter.unusedVariables false
set_option linter.unusedSimpArgs false
set_option maxRecDepth 100000
structure Att where
  name : List UInt8 := []
  op : Int := 0
  text : List UInt8 := []
deriving DecidableEq
abbrev Att.cells (a : Att) : Cells := [.str ⟨a.name.toArray⟩, int a.op, .str ⟨a.text.toArray⟩]
abbrev Att.d (a : Att) : D := .agg a.cells
def Att.row (a : Att) : List F := [fs a.name, fi a.op, fs a.text]
structure Psd where
  kind : Int := 0
  a : Int := 0
  b : Int := 0
  list : List (List F) := []
abbrev Psd.cells (p : Psd) : Cells := [int p.kind, int p.a, int p.b, .f (.sl p.list)]
abbrev Psd.d (p : Psd) : D := .agg p.cells
def Psd.row (p : Psd) : List F := [fi p.kind, fi p.a, fi p.b, .sl p.list]
def opIx (c : Int) : Int := if c = 126 then 2 else if c = 124 then 3 else if c = 94 then 4 else if c = 36 then 5 else if c = 42 then 6 else 0
def rOp (t : List Tok) (i : Nat) : Int × Nat :=
  if isD t i 61 then (1, i + 1) else if (tk t i).kind = 10 ∧ isD t (i + 1) 61 = true then (opIx (tk t i).c, i + 2) else (0, i)
def opTo (c : Int) (i : Nat) : Int := if 1 ≤ i ∧ c = 126 then 2 else if 2 ≤ i ∧ c = 124 then 3 else if 3 ≤ i ∧ c = 94 then 4 else if 4 ≤ i ∧ c = 36 then 5 else if 5 ≤ i ∧ c = 42 then 6 else 0
def opsL : List Int := [126, 124, 94, 36, 42]
def oddB : List UInt8 := [111, 100, 100]
def evenB : List UInt8 := [101, 118, 101, 110]
/-- What the picker's methods hand back, that have a list in it: a list no longer turns. -/
abbrev Psd.dn (p : Psd) : D := .agg [int p.kind, int p.a, int p.b, if p.list = [] then .nil else .f (.sl p.list)]
theorem tdiv1000 {n : Int} (h : -9223372036854775808 ≤ n ∧ n < 9223372036854775808) : -9223372036854775808 ≤ n.tdiv 1000 ∧ n.tdiv 1000 < 9223372036854775808 := by
  rcases Int.le_total 0 n with h0 | h0
  · have := Int.tdiv_nonneg h0 (b := 1000) (by omega)
    have := Int.tdiv_le_self 1000 h0
    omega
  · have e : n.tdiv 1000 = -((-n).tdiv 1000) := by rw [Int.neg_tdiv]; omega
    have := Int.tdiv_nonneg (a := -n) (by omega) (b := 1000) (by omega)
    have := Int.tdiv_le_self (a := -n) 1000 (by omega)
    omega
end Go.Proofs.YtdenafhfngnlfaaDoor.Aw

namespace Go.Proofs.YtdenafhfngnlfaaDoor.Aw
open Go Go.RowKit Go.Lib
set_option linter.unusedVariables false
set_option linter.unusedSimpArgs false
structure Cmp where
  tag : List UInt8 := []
  ids : List (List UInt8) := []
  cls : List (List UInt8) := []
  atts : List Att := []
  pss : List Psd := []
abbrev Cmp.fs (c : Cmp) : List F := [Aw.fs c.tag, .sl (strs c.ids), .sl (strs c.cls), .sl (c.atts.map Att.row), .sl (c.pss.map Psd.row)]
abbrev Cmp.d (c : Cmp) : D := .agg [.str ⟨c.tag.toArray⟩, .f (.sl (strs c.ids)), .f (.sl (strs c.cls)), .f (.sl (c.atts.map Att.row)), .f (.sl (c.pss.map Psd.row))]
/-- A part: what stands ahead of it, and the compound. -/
def partRow (p : Int × Cmp) : List F := fi p.1 :: p.2.fs
abbrev Selr := List (Int × Cmp)
def selRow (s : Selr) : List F := [.sl (s.map partRow)]
def fiveW : List (List UInt8) := [[114, 111, 111, 116], [102, 105, 114, 115, 116, 45, 99, 104, 105, 108, 100], [108, 97, 115, 116, 45, 99, 104, 105, 108, 100], [111, 110, 108, 121, 45, 99, 104, 105, 108, 100], [101, 109, 112, 116, 121]]
def nthB : List UInt8 := [110, 116, 104, 45, 99, 104, 105, 108, 100]
def notB : List UInt8 := [110, 111, 116]
def isB : List UInt8 := [105, 115]
abbrev Nest := Nat → List Selr × Nat × Bool
/-- How far: never much beyond the end, and forward if all is well. -/
structure Far (t : List Tok) (i : Nat) (p : Nat) (b : Bool) : Prop where
  up : p ≤ t.length + 4
  ok : b = false → i ≤ p ∧ p ≤ t.length
theorem rOp_far {t : List Tok} {i : Nat} (hi : i ≤ t.length) : i ≤ (rOp t i).2 ∧ (rOp t i).2 ≤ t.length + 1 := by
  unfold rOp
  split
  · rename_i h
    have := isD_lt h
    exact ⟨by dsimp only; omega, by dsimp only; omega⟩
  · split
    · rename_i h
      have := isD_lt h.2
      exact ⟨by dsimp only; omega, by dsimp only; omega⟩
    · exact ⟨by dsimp only; omega, by dsimp only; omega⟩
theorem pcomb_lt {t : List Tok} {i : Nat} (h : 0 < pcomb t i) : i < t.length := by
  unfold pcomb at h
  split at h
  · exact isD_lt (by assumption)
  split at h
  · exact isD_lt (by assumption)
  split at h
  · exact isD_lt (by assumption)
  · omega
end Go.Proofs.YtdenafhfngnlfaaDoor.Aw

namespace Go.Proofs.YtdenafhfngnlfaaDoor.Aw
open Go Go.RowKit Go.Lib
set_option linter.unusedVariables false
set_option linter.unusedSimpArgs false
set_option maxRecDepth 100000
theorem Case.boolT {b : Bool} {A B : Prop} (h : A) : Case (b == b) A B := Case.isTrue (by simp) h
theorem sameTokens_spec (t : List Tok) (ht : t.length < 1000000000) : Pure 13 [.f (.sl (toksF t)), .f (.sl (toksF t))] (bool true) := by
  have hlen : (toksF t).length = t.length := by simp
  refine .mk trivial (spec_mk tab_ok Tryd.func13 (by rfl) rfl ?_)
  conv => whnf
  repeat' first
    | (refine Case.not ?_; conv => whnf)
    | (refine Case.yes ?_; conv => whnf)
    | (refine Case.no ?_; conv => whnf)
    | (refine Case.isTrue (by assumption) ?_; conv => whnf)
    | (refine Case.isFalse (by assumption) ?_; conv => whnf)
    | (refine Case.decT (by assumption) ?_; conv => whnf)
    | (refine Case.decF (by assumption) ?_; conv => whnf)
    | (refine Case.decT (by omega) ?_; conv => whnf)
    | (refine Case.decF (by omega) ?_; conv => whnf)
    | (refine Case.beqT (by omega) ?_; conv => whnf)
    | (refine Case.beqF (by omega) ?_; conv => whnf)
    | (refine Case.strT (by assumption) ?_; conv => whnf)
    | (refine Case.strF (by assumption) ?_; conv => whnf)
    | (refine Case.strF (by simp only [*]; decide) ?_; conv => whnf)
    | (refine step_kinds 2 ?hk ?_; (case hk => decide +kernel); conv => whnf)
    | (refine step_kinds 3 ?hk ?_; (case hk => decide +kernel); conv => whnf)
    | (refine Num.id (by omega) (by omega) ?_; conv => whnf)
    | (refine Case.strI (fun _ => ?_) (fun _ => ?_) <;> conv => whnf)
    | (refine Both.mk ?_ ?_ <;> conv => whnf)
    | (refine Case.dec (fun _ => ?_) (fun _ => ?_) <;> conv => whnf)
    | (refine Case.beqI (fun _ => ?_) (fun _ => ?_) <;> conv => whnf)
    | (refine Case.mk (fun _ => ?_) (fun _ => ?_) <;> conv => whnf)
    | (refine Way.fst ?_; conv => whnf)
  refine step_loop tab_ok (fun i : Nat => padK [.f (.sl (toksF t)), .f (.sl (toksF t)), .junk, .junk, .junk, int i] 26) (fun _ => []) 0 (fun i => i ≤ t.length) (fun i => t.length - i) 0 (by omega) (fun _ => rfl) ?_ ?_
  ·
    repeat' first | exact trivial | exact rfl | exact Nat.zero_le _ | exact Nat.zero_lt_succ _ | exact (by decide : (0 : Nat) < 1) | exact (by decide : (1 : Nat) < 4) | exact (by decide : (2 : Nat) < 4) | exact (by decide : (3 : Nat) < 4) | exact (by decide : (1 : Nat) < 2) | exact (by decide : (2 : Nat) < 3) | exact congrArg int (by (try dsimp only); omega) | exact congrArg bool (by (try dsimp only); simp; omega) | (show _ < List.length _; simp; done) | apply And.intro
  · intro i hi
    conv => whnf
    refine Case.dec (fun h0 => ?_) (fun h0 => ?_)
    · obtain ⟨k, hk⟩ : ∃ k, t[i]? = some k := ⟨_, List.getElem?_eq_getElem (by omega)⟩
      conv => whnf
      repeat' first
        | (refine Case.not ?_; conv => whnf)
        | (refine Case.yes ?_; conv => whnf)
        | (refine Case.no ?_; conv => whnf)
        | (refine Case.isTrue (by assumption) ?_; conv => whnf)
        | (refine Case.isFalse (by assumption) ?_; conv => whnf)
        | (refine Case.decT (by assumption) ?_; conv => whnf)
        | (refine Case.decF (by assumption) ?_; conv => whnf)
        | (refine Case.decT (by omega) ?_; conv => whnf)
        | (refine Case.decF (by omega) ?_; conv => whnf)
        | (refine Case.beqT (by omega) ?_; conv => whnf)
        | (refine Case.beqF (by omega) ?_; conv => whnf)
        | (refine Case.strT (by assumption) ?_; conv => whnf)
        | (refine Case.strF (by assumption) ?_; conv => whnf)
        | (refine Case.strF (by simp only [*]; decide) ?_; conv => whnf)
        | (refine step_kinds 2 ?hk ?_; (case hk => decide +kernel); conv => whnf)
        | (refine step_kinds 3 ?hk ?_; (case hk => decide +kernel); conv => whnf)
        | (refine Case.strT rfl ?_; conv => whnf)
        | (refine Case.isTrue (by first | (simp; done) | fail "x") ?_; conv => whnf)
        | (refine Case.boolT ?_; conv => whnf)
        | (refine Owes.mk strs_row ?_; conv => whnf)
        | (refine Owes.mk toksF_row ?_; conv => whnf)
        | (refine Elem.mk i _ rfl (toksF_get hk) ?_; conv => whnf)
        | (refine Num.id (by omega) (by omega) ?_; conv => whnf)
        | (refine Case.strI (fun _ => ?_) (fun _ => ?_) <;> conv => whnf)
        | (refine Both.mk ?_ ?_ <;> conv => whnf)
        | (refine Case.dec (fun _ => ?_) (fun _ => ?_) <;> conv => whnf)
        | (refine Case.beqI (fun _ => ?_) (fun _ => ?_) <;> conv => whnf)
        | (refine Case.mk (fun _ => ?_) (fun _ => ?_) <;> conv => whnf)
        | (refine Way.fst ?_; conv => whnf)
      refine ⟨i + 1, by omega, by omega, ?_⟩
      repeat' first | exact trivial | exact rfl | exact Nat.zero_le _ | exact Nat.zero_lt_succ _ | exact (by decide : (0 : Nat) < 1) | exact (by decide : (1 : Nat) < 4) | exact (by decide : (2 : Nat) < 4) | exact (by decide : (3 : Nat) < 4) | exact (by decide : (1 : Nat) < 2) | exact (by decide : (2 : Nat) < 3) | exact congrArg int (by (try dsimp only); omega) | exact congrArg bool (by (try dsimp only); simp; omega) | (show _ < List.length _; simp; done) | apply And.intro
    · conv => whnf
      exact Fin.isB rfl
/-- Selectors such as can be read: not too many, not too deep. -/
def SelOk : Nat → List Selr → Prop
  | 0, l => l.length < 1000000000 ∧ ∀ s ∈ l, s.length < 1000000000 ∧ ∀ p ∈ s, p.2.ids.length < 1000000000 ∧ p.2.cls.length < 1000000000 ∧ p.2.atts.length < 1000000000 ∧ p.2.pss.length < 1000000000 ∧ ∀ x ∈ p.2.pss, x.list = []
  | k + 1, l => l.length < 1000000000 ∧ ∀ s ∈ l, s.length < 1000000000 ∧ ∀ p ∈ s, p.2.ids.length < 1000000000 ∧ p.2.cls.length < 1000000000 ∧ p.2.atts.length < 1000000000 ∧ p.2.pss.length < 1000000000 ∧ ∀ x ∈ p.2.pss, ∃ l', x.list = l'.map selRow ∧ SelOk k l'
abbrev Cmp.cells (c : Cmp) : Cells := [.str ⟨c.tag.toArray⟩, .f (.sl (strs c.ids)), .f (.sl (strs c.cls)), .f (.sl (c.atts.map Att.row)), .f (.sl (c.pss.map Psd.row))]
/-- One compound. -/
structure CmpOk (Q : List (List F) → Prop) (c : Cmp) : Prop where
  ids : c.ids.length < 1000000000
  cls : c.cls.length < 1000000000
  atts : c.atts.length < 1000000000
  pss : c.pss.length < 1000000000
  list : ∀ x ∈ c.pss, Q x.list
theorem atts_row {l : List Att} : ∀ e ∈ l.map Att.row, e.length = 3 := by simp [Att.row]
theorem pss_row {l : List Psd} : ∀ e ∈ l.map Psd.row, e.length = 4 := by simp [Psd.row]
theorem parts_row {l : Selr} : ∀ e ∈ l.map partRow, e.length = 6 := fun e h => by
  obtain ⟨p, _, rfl⟩ := List.mem_map.1 h
  rfl
theorem sels_row {l : List Selr} : ∀ e ∈ l.map selRow, e.length = 1 := by simp [selRow]
theorem map_get {α β : Type} {f : α → β} {l : List α} {i : Nat} {x : α} (h : l[i]? = some x) : (l.map f)[i]? = some (f x) := by simp [h]
end Go.Proofs.YtdenafhfngnlfaaDoor.Aw

