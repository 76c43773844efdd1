/- The picker's attr and nth. -/
import Derived.Test.YtdfiegleaknleaaXrN
namespace Go.Proofs.Ytdfiegleaknleaa.Aw
open Go Go.RowKit Go.Lib
set_option linter.unusedVariables false
set_option linter.unusedSimpArgs false
set_option maxRecDepth 100000
structure Att where
  name : List UInt8 := []
  op : Int := 0
  text : List UInt8 := []
deriving DecidableEq
abbrev Att.cells (a : Att) : Cells := [.str ⟨a.name.toArray⟩, int a.op, .str ⟨a.text.toArray⟩]
abbrev Att.d (a : Att) : D := .agg a.cells
def Att.row (a : Att) : List F := [fs a.name, fi a.op, fs a.text]
structure Psd where
  kind : Int := 0
  a : Int := 0
  b : Int := 0
  list : List (List F) := []
abbrev Psd.cells (p : Psd) : Cells := [int p.kind, int p.a, int p.b, .f (.sl p.list)]
abbrev Psd.d (p : Psd) : D := .agg p.cells
def Psd.row (p : Psd) : List F := [fi p.kind, fi p.a, fi p.b, .sl p.list]
def opIx (c : Int) : Int := if c = 126 then 2 else if c = 124 then 3 else if c = 94 then 4 else if c = 36 then 5 else if c = 42 then 6 else 0
def rOp (t : List Tok) (i : Nat) : Int × Nat :=
  if isD t i 61 then (1, i + 1) else if (tk t i).kind = 10 ∧ isD t (i + 1) 61 = true then (opIx (tk t i).c, i + 2) else (0, i)
def rAttr (t : List Tok) (i : Nat) : Att × Nat × Bool :=
  if (tk t (ws t i)).kind ≠ 1 then ({ name := lower (tk t (ws t i)).text }, ws t i, true) else
  if (tk t (ws t (ws t i + 1))).kind = 19 then ({ name := lower (tk t (ws t i)).text }, ws t (ws t i + 1) + 1, false) else
  if (rOp t (ws t (ws t i + 1))).1 = 0 then ({ name := lower (tk t (ws t i)).text }, (rOp t (ws t (ws t i + 1))).2, true) else
  if (tk t (ws t (rOp t (ws t (ws t i + 1))).2)).kind ≠ 1 ∧ (tk t (ws t (rOp t (ws t (ws t i + 1))).2)).kind ≠ 4 then
    ({ name := lower (tk t (ws t i)).text, op := (rOp t (ws t (ws t i + 1))).1, text := (tk t (ws t (rOp t (ws t (ws t i + 1))).2)).text }, ws t (rOp t (ws t (ws t i + 1))).2, true) else
  ({ name := lower (tk t (ws t i)).text, op := (rOp t (ws t (ws t i + 1))).1, text := (tk t (ws t (rOp t (ws t (ws t i + 1))).2)).text }, ws t (ws t (rOp t (ws t (ws t i + 1))).2 + 1) + 1, decide ((tk t (ws t (ws t (rOp t (ws t (ws t i + 1))).2 + 1))).kind ≠ 19))
def opTo (c : Int) (i : Nat) : Int := if 1 ≤ i ∧ c = 126 then 2 else if 2 ≤ i ∧ c = 124 then 3 else if 3 ≤ i ∧ c = 94 then 4 else if 4 ≤ i ∧ c = 36 then 5 else if 5 ≤ i ∧ c = 42 then 6 else 0
def opsL : List Int := [126, 124, 94, 36, 42]
set_option maxHeartbeats 2000000 in
theorem rattr_spec (t : List Tok) (ht : t.length < 100000000) (hx : ∀ i, (tk t i).text.length < 1000000000) (a : Nat) (q : Int) (ha : a ≤ t.length) : PMeth 64 t a false q (rAttr t a).1.d (rAttr t a).2.1 (rAttr t a).2.2 := by
  refine ⟨⟨trivial, trivial, trivial, trivial⟩, spec_mk tab_ok Try.func64 (by rfl) rfl ?_⟩
  unfold rAttr
  obtain ⟨k1, l1⟩ := ws_le t a
  conv => whnf
  repeat' first
    | (refine Case.not ?_; conv => whnf)
    | (refine Case.yes ?_; conv => whnf)
    | (refine Case.no ?_; conv => whnf)
    | (refine Case.isTrue (by assumption) ?_; conv => whnf)
    | (refine Case.isFalse (by assumption) ?_; conv => whnf)
    | (refine Case.decT (by assumption) ?_; conv => whnf)
    | (refine Case.decF (by assumption) ?_; conv => whnf)
    | (refine Case.decT (by omega) ?_; conv => whnf)
    | (refine Case.decF (by omega) ?_; conv => whnf)
    | (refine Case.beqT (by omega) ?_; conv => whnf)
    | (refine Case.beqF (by omega) ?_; conv => whnf)
    | (refine Case.strT (by assumption) ?_; conv => whnf)
    | (refine Case.strF (by assumption) ?_; conv => whnf)
    | (refine Case.strF (by simp only [*]; decide) ?_; conv => whnf)
    | (refine step_kinds 2 ?hk ?_; (case hk => decide +kernel); conv => whnf)
    | (refine step_kinds 3 ?hk ?_; (case hk => decide +kernel); conv => whnf)
    | (refine (pwhite_spec t (by omega) a false q (by omega)).call ?_; conv => whnf)
    | (refine (psee_at t (by omega) (ws t a) false q (by omega) _ (ws t a) (by omega) (by omega) (by omega)).call ⟨⟨rfl, rfl, rfl, rfl, trivial⟩, rfl, rfl⟩ ?_; conv => whnf)
    | (refine (lower_spec _ (hx _)).call ⟨rfl, rfl⟩ ?_; conv => whnf)
    | (refine Num.id (by omega) (by omega) ?_; conv => whnf)
    | (refine Case.strI (fun _ => ?_) (fun _ => ?_) <;> conv => whnf)
    | (refine Both.mk ?_ ?_ <;> conv => whnf)
    | (refine Case.dec (fun _ => ?_) (fun _ => ?_) <;> conv => whnf)
    | (refine Case.beqI (fun _ => ?_) (fun _ => ?_) <;> conv => whnf)
    | (refine Case.mk (fun _ => ?_) (fun _ => ?_) <;> conv => whnf)
    | (refine Way.fst ?_; conv => whnf)
  · have hl1 := tk_lt (t := t) (i := ws t a) (by omega)
    rw [if_neg (by simpa using ‹_›)]
    generalize ws t a = i1 at *
    have k2 := ws_le t (i1 + 1)
    repeat' first
      | (refine Case.not ?_; conv => whnf)
      | (refine Case.yes ?_; conv => whnf)
      | (refine Case.no ?_; conv => whnf)
      | (refine Case.isTrue (by assumption) ?_; conv => whnf)
      | (refine Case.isFalse (by assumption) ?_; conv => whnf)
      | (refine Case.decT (by assumption) ?_; conv => whnf)
      | (refine Case.decF (by assumption) ?_; conv => whnf)
      | (refine Case.decT (by omega) ?_; conv => whnf)
      | (refine Case.decF (by omega) ?_; conv => whnf)
      | (refine Case.beqT (by omega) ?_; conv => whnf)
      | (refine Case.beqF (by omega) ?_; conv => whnf)
      | (refine Case.strT (by assumption) ?_; conv => whnf)
      | (refine Case.strF (by assumption) ?_; conv => whnf)
      | (refine Case.strF (by simp only [*]; decide) ?_; conv => whnf)
      | (refine step_kinds 2 ?hk ?_; (case hk => decide +kernel); conv => whnf)
      | (refine step_kinds 3 ?hk ?_; (case hk => decide +kernel); conv => whnf)
      | (refine (pwhite_spec t (by omega) (i1 + 1) false q (by omega)).call ?_; conv => whnf)
      | (refine (psee_at t (by omega) (ws t (i1 + 1)) false q (by omega) _ (ws t (i1 + 1)) (by omega) (by omega) (by omega)).call ⟨⟨rfl, rfl, rfl, rfl, trivial⟩, rfl, rfl⟩ ?_; conv => whnf)
      | (refine (pdelim_at t (by omega) (ws t (i1 + 1)) false q (by omega) _ _ (ws t (i1 + 1) + 1) (by omega) (by omega) (by omega)).call ⟨⟨rfl, rfl, rfl, rfl, trivial⟩, rfl, rfl, rfl⟩ ?_; conv => whnf)
      | (refine Num.id (by omega) (by omega) ?_; conv => whnf)
      | (refine Case.strI (fun _ => ?_) (fun _ => ?_) <;> conv => whnf)
      | (refine Both.mk ?_ ?_ <;> conv => whnf)
      | (refine Case.dec (fun _ => ?_) (fun _ => ?_) <;> conv => whnf)
      | (refine Case.beqI (fun _ => ?_) (fun _ => ?_) <;> conv => whnf)
      | (refine Case.mk (fun _ => ?_) (fun _ => ?_) <;> conv => whnf)
      | (refine Way.fst ?_; conv => whnf)
    · rw [if_pos (by assumption)]
      exact Fin.pk _ ⟨trivial, trivial, trivial, trivial⟩ rfl rfl rfl ⟨rfl, rfl⟩
    · have hop : rOp t (ws t (i1 + 1)) = (1, ws t (i1 + 1) + 1) := by unfold rOp isD; rw [if_pos (by simp [*])]
      have hi2 := tk_lt (t := t) (i := ws t (i1 + 1)) (by omega)
      rw [if_neg (by omega), hop]
      dsimp only
      have k4 := ws_le t (ws t (i1 + 1) + 1)
      have k5 := ws_le t (ws t (ws t (i1 + 1) + 1) + 1)
      repeat' first
        | (refine Case.not ?_; conv => whnf)
        | (refine Case.yes ?_; conv => whnf)
        | (refine Case.no ?_; conv => whnf)
        | (refine Case.isTrue (by assumption) ?_; conv => whnf)
        | (refine Case.isFalse (by assumption) ?_; conv => whnf)
        | (refine Case.decT (by assumption) ?_; conv => whnf)
        | (refine Case.decF (by assumption) ?_; conv => whnf)
        | (refine Case.decT (by omega) ?_; conv => whnf)
        | (refine Case.decF (by omega) ?_; conv => whnf)
        | (refine Case.beqT (by omega) ?_; conv => whnf)
        | (refine Case.beqF (by omega) ?_; conv => whnf)
        | (refine Case.strT (by assumption) ?_; conv => whnf)
        | (refine Case.strF (by assumption) ?_; conv => whnf)
        | (refine Case.strF (by simp only [*]; decide) ?_; conv => whnf)
        | (refine step_kinds 2 ?hk ?_; (case hk => decide +kernel); conv => whnf)
        | (refine step_kinds 3 ?hk ?_; (case hk => decide +kernel); conv => whnf)
        | (refine (pwhite_spec t (by omega) (ws t (i1 + 1) + 1) false q (by omega)).call ?_; conv => whnf)
        | (refine (psee_at t (by omega) (ws t (ws t (i1 + 1) + 1)) false q (by omega) _ (ws t (ws t (i1 + 1) + 1)) (by omega) (by omega) (by omega)).call ⟨⟨rfl, rfl, rfl, rfl, trivial⟩, rfl, rfl⟩ ?_; conv => whnf)
        | (refine (pwhite_spec t (by omega) (ws t (ws t (i1 + 1) + 1) + 1) false q (by omega)).call ?_; conv => whnf)
        | (refine (psee_at t (by omega) (ws t (ws t (ws t (i1 + 1) + 1) + 1)) false q (by omega) _ (ws t (ws t (ws t (i1 + 1) + 1) + 1)) (by omega) (by omega) (by omega)).call ⟨⟨rfl, rfl, rfl, rfl, trivial⟩, rfl, rfl⟩ ?_; conv => whnf)
        | (refine Num.id (by omega) (by omega) ?_; conv => whnf)
        | (refine Case.strI (fun _ => ?_) (fun _ => ?_) <;> conv => whnf)
        | (refine Both.mk ?_ ?_ <;> conv => whnf)
        | (refine Case.dec (fun _ => ?_) (fun _ => ?_) <;> conv => whnf)
        | (refine Case.beqI (fun _ => ?_) (fun _ => ?_) <;> conv => whnf)
        | (refine Case.mk (fun _ => ?_) (fun _ => ?_) <;> conv => whnf)
        | (refine Way.fst ?_; conv => whnf)
      all_goals repeat first | rw [if_pos (by omega)] | rw [if_neg (by omega)]
      all_goals exact Fin.pk _ ⟨trivial, trivial, trivial, trivial⟩ rfl (by simp [*]) rfl ⟨by first | rfl | simp only [*], rfl⟩
    · have hi2 := tk_lt (t := t) (i := ws t (i1 + 1)) (by omega)
      have hi3 := isD_lt (by assumption : isD t (ws t (i1 + 1) + 1) 61 = true)
      have hop : rOp t (ws t (i1 + 1)) = (opIx (tk t (ws t (i1 + 1))).c, ws t (i1 + 1) + 2) := by unfold rOp; rw [if_neg (by simp [isD, *]), if_pos ⟨by assumption, by assumption⟩]
      rw [if_neg (by omega), hop]
      dsimp only
      refine step_loop tab_ok (fun i : Nat => padK [.ptr 0 0, .junk, .ptr 1 0, .ptr 2 0, .ptr 3 0, .own 0 3 1 (ptsF opsL), int i] 144) (fun i => [some (pkr t (ws t (i1 + 1)) false q), some [.str ⟨#[]⟩, int 0, .str ⟨#[]⟩], some [.str ⟨(lower (tk t i1).text).toArray⟩, int (opTo (tk t (ws t (i1 + 1))).c i), .str ⟨#[]⟩], some (tk t (ws t (i1 + 1))).cells]) 1 (fun i => i ≤ 5) (fun i => 5 - i) 0 (by omega) (fun _ => rfl) ?_ ?_
      ·
        repeat' first | exact trivial | exact rfl | exact (by decide : (0 : Nat) < 1) | exact Nat.le_refl _ | exact Nat.zero_lt_succ _ | exact congrArg int (by (try dsimp only); omega) | exact congrArg bool (by (try dsimp only); simp; omega) | (show _ < List.length _; simp; done) | apply And.intro
      · intro i hi
        have h5 : i = 0 ∨ i = 1 ∨ i = 2 ∨ i = 3 ∨ i = 4 ∨ i = 5 := by omega
        rcases h5 with rfl | rfl | rfl | rfl | rfl | rfl
        · conv => whnf
          repeat' first
            | (refine Case.not ?_; conv => whnf)
            | (refine Case.yes ?_; conv => whnf)
            | (refine Case.no ?_; conv => whnf)
            | (refine Case.isTrue (by assumption) ?_; conv => whnf)
            | (refine Case.isFalse (by assumption) ?_; conv => whnf)
            | (refine Case.decT (by assumption) ?_; conv => whnf)
            | (refine Case.decF (by assumption) ?_; conv => whnf)
            | (refine Case.decT (by omega) ?_; conv => whnf)
            | (refine Case.decF (by omega) ?_; conv => whnf)
            | (refine Case.beqT (by omega) ?_; conv => whnf)
            | (refine Case.beqF (by omega) ?_; conv => whnf)
            | (refine Case.strT (by assumption) ?_; conv => whnf)
            | (refine Case.strF (by assumption) ?_; conv => whnf)
            | (refine Case.strF (by simp only [*]; decide) ?_; conv => whnf)
            | (refine step_kinds 2 ?hk ?_; (case hk => decide +kernel); conv => whnf)
            | (refine step_kinds 3 ?hk ?_; (case hk => decide +kernel); conv => whnf)
            | (refine Owes.mk (by decide) ?_; conv => whnf)
            | (refine Elem.mk 0 _ rfl rfl ?_; conv => whnf)
            | (refine Owes.mk rfl ?_; conv => whnf)
            | (refine Owes.mk ptsF_row ?_; conv => whnf)
            | (refine Num.id (by omega) (by omega) ?_; conv => whnf)
            | (refine Case.strI (fun _ => ?_) (fun _ => ?_) <;> conv => whnf)
            | (refine Both.mk ?_ ?_ <;> conv => whnf)
            | (refine Case.dec (fun _ => ?_) (fun _ => ?_) <;> conv => whnf)
            | (refine Case.beqI (fun _ => ?_) (fun _ => ?_) <;> conv => whnf)
            | (refine Case.mk (fun _ => ?_) (fun _ => ?_) <;> conv => whnf)
            | (refine Way.fst ?_; conv => whnf)
          all_goals refine ⟨0 + 1, by omega, by omega, ?_⟩
          ·
            repeat' first | exact trivial | exact rfl | exact (by decide : (0 : Nat) < 1) | exact Nat.le_refl _ | exact Nat.zero_lt_succ _ | exact congrArg int (by (try dsimp only); omega) | exact congrArg bool (by (try dsimp only); simp; omega) | (show _ < List.length _; simp; done) | apply And.intro | exact congrArg (D.own _ _ _) (by simp [opTo]; done) | exact congrArg int (by unfold opTo; (repeat' split) <;> omega)
          ·
            repeat' first | exact trivial | exact rfl | exact (by decide : (0 : Nat) < 1) | exact Nat.le_refl _ | exact Nat.zero_lt_succ _ | exact congrArg int (by (try dsimp only); omega) | exact congrArg bool (by (try dsimp only); simp; omega) | (show _ < List.length _; simp; done) | apply And.intro | exact congrArg (D.own _ _ _) (by simp [opTo]; done) | exact congrArg int (by unfold opTo; (repeat' split) <;> omega)
        · conv => whnf
          repeat' first
            | (refine Case.not ?_; conv => whnf)
            | (refine Case.yes ?_; conv => whnf)
            | (refine Case.no ?_; conv => whnf)
            | (refine Case.isTrue (by assumption) ?_; conv => whnf)
            | (refine Case.isFalse (by assumption) ?_; conv => whnf)
            | (refine Case.decT (by assumption) ?_; conv => whnf)
            | (refine Case.decF (by assumption) ?_; conv => whnf)
            | (refine Case.decT (by omega) ?_; conv => whnf)
            | (refine Case.decF (by omega) ?_; conv => whnf)
            | (refine Case.beqT (by omega) ?_; conv => whnf)
            | (refine Case.beqF (by omega) ?_; conv => whnf)
            | (refine Case.strT (by assumption) ?_; conv => whnf)
            | (refine Case.strF (by assumption) ?_; conv => whnf)
            | (refine Case.strF (by simp only [*]; decide) ?_; conv => whnf)
            | (refine step_kinds 2 ?hk ?_; (case hk => decide +kernel); conv => whnf)
            | (refine step_kinds 3 ?hk ?_; (case hk => decide +kernel); conv => whnf)
            | (refine Owes.mk (by decide) ?_; conv => whnf)
            | (refine Elem.mk 1 _ rfl rfl ?_; conv => whnf)
            | (refine Owes.mk rfl ?_; conv => whnf)
            | (refine Owes.mk ptsF_row ?_; conv => whnf)
            | (refine Num.id (by omega) (by omega) ?_; conv => whnf)
            | (refine Case.strI (fun _ => ?_) (fun _ => ?_) <;> conv => whnf)
            | (refine Both.mk ?_ ?_ <;> conv => whnf)
            | (refine Case.dec (fun _ => ?_) (fun _ => ?_) <;> conv => whnf)
            | (refine Case.beqI (fun _ => ?_) (fun _ => ?_) <;> conv => whnf)
            | (refine Case.mk (fun _ => ?_) (fun _ => ?_) <;> conv => whnf)
            | (refine Way.fst ?_; conv => whnf)
          all_goals refine ⟨1 + 1, by omega, by omega, ?_⟩
          ·
            repeat' first | exact trivial | exact rfl | exact (by decide : (0 : Nat) < 1) | exact Nat.le_refl _ | exact Nat.zero_lt_succ _ | exact congrArg int (by (try dsimp only); omega) | exact congrArg bool (by (try dsimp only); simp; omega) | (show _ < List.length _; simp; done) | apply And.intro | exact congrArg (D.own _ _ _) (by simp [opTo]; done) | exact congrArg int (by unfold opTo; (repeat' split) <;> omega)
          ·
            repeat' first | exact trivial | exact rfl | exact (by decide : (0 : Nat) < 1) | exact Nat.le_refl _ | exact Nat.zero_lt_succ _ | exact congrArg int (by (try dsimp only); omega) | exact congrArg bool (by (try dsimp only); simp; omega) | (show _ < List.length _; simp; done) | apply And.intro | exact congrArg (D.own _ _ _) (by simp [opTo]; done) | exact congrArg int (by unfold opTo; (repeat' split) <;> omega)
        · conv => whnf
          repeat' first
            | (refine Case.not ?_; conv => whnf)
            | (refine Case.yes ?_; conv => whnf)
            | (refine Case.no ?_; conv => whnf)
            | (refine Case.isTrue (by assumption) ?_; conv => whnf)
            | (refine Case.isFalse (by assumption) ?_; conv => whnf)
            | (refine Case.decT (by assumption) ?_; conv => whnf)
            | (refine Case.decF (by assumption) ?_; conv => whnf)
            | (refine Case.decT (by omega) ?_; conv => whnf)
            | (refine Case.decF (by omega) ?_; conv => whnf)
            | (refine Case.beqT (by omega) ?_; conv => whnf)
            | (refine Case.beqF (by omega) ?_; conv => whnf)
            | (refine Case.strT (by assumption) ?_; conv => whnf)
            | (refine Case.strF (by assumption) ?_; conv => whnf)
            | (refine Case.strF (by simp only [*]; decide) ?_; conv => whnf)
            | (refine step_kinds 2 ?hk ?_; (case hk => decide +kernel); conv => whnf)
            | (refine step_kinds 3 ?hk ?_; (case hk => decide +kernel); conv => whnf)
            | (refine Owes.mk (by decide) ?_; conv => whnf)
            | (refine Elem.mk 2 _ rfl rfl ?_; conv => whnf)
            | (refine Owes.mk rfl ?_; conv => whnf)
            | (refine Owes.mk ptsF_row ?_; conv => whnf)
            | (refine Num.id (by omega) (by omega) ?_; conv => whnf)
            | (refine Case.strI (fun _ => ?_) (fun _ => ?_) <;> conv => whnf)
            | (refine Both.mk ?_ ?_ <;> conv => whnf)
            | (refine Case.dec (fun _ => ?_) (fun _ => ?_) <;> conv => whnf)
            | (refine Case.beqI (fun _ => ?_) (fun _ => ?_) <;> conv => whnf)
            | (refine Case.mk (fun _ => ?_) (fun _ => ?_) <;> conv => whnf)
            | (refine Way.fst ?_; conv => whnf)
          all_goals refine ⟨2 + 1, by omega, by omega, ?_⟩
          ·
            repeat' first | exact trivial | exact rfl | exact (by decide : (0 : Nat) < 1) | exact Nat.le_refl _ | exact Nat.zero_lt_succ _ | exact congrArg int (by (try dsimp only); omega) | exact congrArg bool (by (try dsimp only); simp; omega) | (show _ < List.length _; simp; done) | apply And.intro | exact congrArg (D.own _ _ _) (by simp [opTo]; done) | exact congrArg int (by unfold opTo; (repeat' split) <;> omega)
          ·
            repeat' first | exact trivial | exact rfl | exact (by decide : (0 : Nat) < 1) | exact Nat.le_refl _ | exact Nat.zero_lt_succ _ | exact congrArg int (by (try dsimp only); omega) | exact congrArg bool (by (try dsimp only); simp; omega) | (show _ < List.length _; simp; done) | apply And.intro | exact congrArg (D.own _ _ _) (by simp [opTo]; done) | exact congrArg int (by unfold opTo; (repeat' split) <;> omega)
        · conv => whnf
          repeat' first
            | (refine Case.not ?_; conv => whnf)
            | (refine Case.yes ?_; conv => whnf)
            | (refine Case.no ?_; conv => whnf)
            | (refine Case.isTrue (by assumption) ?_; conv => whnf)
            | (refine Case.isFalse (by assumption) ?_; conv => whnf)
            | (refine Case.decT (by assumption) ?_; conv => whnf)
            | (refine Case.decF (by assumption) ?_; conv => whnf)
            | (refine Case.decT (by omega) ?_; conv => whnf)
            | (refine Case.decF (by omega) ?_; conv => whnf)
            | (refine Case.beqT (by omega) ?_; conv => whnf)
            | (refine Case.beqF (by omega) ?_; conv => whnf)
            | (refine Case.strT (by assumption) ?_; conv => whnf)
            | (refine Case.strF (by assumption) ?_; conv => whnf)
            | (refine Case.strF (by simp only [*]; decide) ?_; conv => whnf)
            | (refine step_kinds 2 ?hk ?_; (case hk => decide +kernel); conv => whnf)
            | (refine step_kinds 3 ?hk ?_; (case hk => decide +kernel); conv => whnf)
            | (refine Owes.mk (by decide) ?_; conv => whnf)
            | (refine Elem.mk 3 _ rfl rfl ?_; conv => whnf)
            | (refine Owes.mk rfl ?_; conv => whnf)
            | (refine Owes.mk ptsF_row ?_; conv => whnf)
            | (refine Num.id (by omega) (by omega) ?_; conv => whnf)
            | (refine Case.strI (fun _ => ?_) (fun _ => ?_) <;> conv => whnf)
            | (refine Both.mk ?_ ?_ <;> conv => whnf)
            | (refine Case.dec (fun _ => ?_) (fun _ => ?_) <;> conv => whnf)
            | (refine Case.beqI (fun _ => ?_) (fun _ => ?_) <;> conv => whnf)
            | (refine Case.mk (fun _ => ?_) (fun _ => ?_) <;> conv => whnf)
            | (refine Way.fst ?_; conv => whnf)
          all_goals refine ⟨3 + 1, by omega, by omega, ?_⟩
          ·
            repeat' first | exact trivial | exact rfl | exact (by decide : (0 : Nat) < 1) | exact Nat.le_refl _ | exact Nat.zero_lt_succ _ | exact congrArg int (by (try dsimp only); omega) | exact congrArg bool (by (try dsimp only); simp; omega) | (show _ < List.length _; simp; done) | apply And.intro | exact congrArg (D.own _ _ _) (by simp [opTo]; done) | exact congrArg int (by unfold opTo; (repeat' split) <;> omega)
          ·
            repeat' first | exact trivial | exact rfl | exact (by decide : (0 : Nat) < 1) | exact Nat.le_refl _ | exact Nat.zero_lt_succ _ | exact congrArg int (by (try dsimp only); omega) | exact congrArg bool (by (try dsimp only); simp; omega) | (show _ < List.length _; simp; done) | apply And.intro | exact congrArg (D.own _ _ _) (by simp [opTo]; done) | exact congrArg int (by unfold opTo; (repeat' split) <;> omega)
        · conv => whnf
          repeat' first
            | (refine Case.not ?_; conv => whnf)
            | (refine Case.yes ?_; conv => whnf)
            | (refine Case.no ?_; conv => whnf)
            | (refine Case.isTrue (by assumption) ?_; conv => whnf)
            | (refine Case.isFalse (by assumption) ?_; conv => whnf)
            | (refine Case.decT (by assumption) ?_; conv => whnf)
            | (refine Case.decF (by assumption) ?_; conv => whnf)
            | (refine Case.decT (by omega) ?_; conv => whnf)
            | (refine Case.decF (by omega) ?_; conv => whnf)
            | (refine Case.beqT (by omega) ?_; conv => whnf)
            | (refine Case.beqF (by omega) ?_; conv => whnf)
            | (refine Case.strT (by assumption) ?_; conv => whnf)
            | (refine Case.strF (by assumption) ?_; conv => whnf)
            | (refine Case.strF (by simp only [*]; decide) ?_; conv => whnf)
            | (refine step_kinds 2 ?hk ?_; (case hk => decide +kernel); conv => whnf)
            | (refine step_kinds 3 ?hk ?_; (case hk => decide +kernel); conv => whnf)
            | (refine Owes.mk (by decide) ?_; conv => whnf)
            | (refine Elem.mk 4 _ rfl rfl ?_; conv => whnf)
            | (refine Owes.mk rfl ?_; conv => whnf)
            | (refine Owes.mk ptsF_row ?_; conv => whnf)
            | (refine Num.id (by omega) (by omega) ?_; conv => whnf)
            | (refine Case.strI (fun _ => ?_) (fun _ => ?_) <;> conv => whnf)
            | (refine Both.mk ?_ ?_ <;> conv => whnf)
            | (refine Case.dec (fun _ => ?_) (fun _ => ?_) <;> conv => whnf)
            | (refine Case.beqI (fun _ => ?_) (fun _ => ?_) <;> conv => whnf)
            | (refine Case.mk (fun _ => ?_) (fun _ => ?_) <;> conv => whnf)
            | (refine Way.fst ?_; conv => whnf)
          all_goals refine ⟨4 + 1, by omega, by omega, ?_⟩
          ·
            repeat' first | exact trivial | exact rfl | exact (by decide : (0 : Nat) < 1) | exact Nat.le_refl _ | exact Nat.zero_lt_succ _ | exact congrArg int (by (try dsimp only); omega) | exact congrArg bool (by (try dsimp only); simp; omega) | (show _ < List.length _; simp; done) | apply And.intro | exact congrArg (D.own _ _ _) (by simp [opTo]; done) | exact congrArg int (by unfold opTo; (repeat' split) <;> omega)
          ·
            repeat' first | exact trivial | exact rfl | exact (by decide : (0 : Nat) < 1) | exact Nat.le_refl _ | exact Nat.zero_lt_succ _ | exact congrArg int (by (try dsimp only); omega) | exact congrArg bool (by (try dsimp only); simp; omega) | (show _ < List.length _; simp; done) | apply And.intro | exact congrArg (D.own _ _ _) (by simp [opTo]; done) | exact congrArg int (by unfold opTo; (repeat' split) <;> omega)
        · have e5 : opTo (tk t (ws t (i1 + 1))).c 5 = opIx (tk t (ws t (i1 + 1))).c := by
            unfold opTo opIx
            simp
          rw [e5]
          conv => whnf
          refine Case.decF (by simp [ptsF, opsL]) ?_
          conv => whnf
          have k4 := ws_le t (ws t (i1 + 1) + 2)
          have k5 := ws_le t (ws t (ws t (i1 + 1) + 2) + 1)
          repeat' first
            | (refine Case.not ?_; conv => whnf)
            | (refine Case.yes ?_; conv => whnf)
            | (refine Case.no ?_; conv => whnf)
            | (refine Case.isTrue (by assumption) ?_; conv => whnf)
            | (refine Case.isFalse (by assumption) ?_; conv => whnf)
            | (refine Case.decT (by assumption) ?_; conv => whnf)
            | (refine Case.decF (by assumption) ?_; conv => whnf)
            | (refine Case.decT (by omega) ?_; conv => whnf)
            | (refine Case.decF (by omega) ?_; conv => whnf)
            | (refine Case.beqT (by omega) ?_; conv => whnf)
            | (refine Case.beqF (by omega) ?_; conv => whnf)
            | (refine Case.strT (by assumption) ?_; conv => whnf)
            | (refine Case.strF (by assumption) ?_; conv => whnf)
            | (refine Case.strF (by simp only [*]; decide) ?_; conv => whnf)
            | (refine step_kinds 2 ?hk ?_; (case hk => decide +kernel); conv => whnf)
            | (refine step_kinds 3 ?hk ?_; (case hk => decide +kernel); conv => whnf)
            | (refine (pwhite_spec t (by omega) (ws t (i1 + 1) + 2) false q (by omega)).call ?_; conv => whnf)
            | (refine (psee_at t (by omega) (ws t (ws t (i1 + 1) + 2)) false q (by omega) _ (ws t (ws t (i1 + 1) + 2)) (by omega) (by omega) (by omega)).call ⟨⟨rfl, rfl, rfl, rfl, trivial⟩, rfl, rfl⟩ ?_; conv => whnf)
            | (refine (pwhite_spec t (by omega) (ws t (ws t (i1 + 1) + 2) + 1) false q (by omega)).call ?_; conv => whnf)
            | (refine (psee_at t (by omega) (ws t (ws t (ws t (i1 + 1) + 2) + 1)) false q (by omega) _ (ws t (ws t (ws t (i1 + 1) + 2) + 1)) (by omega) (by omega) (by omega)).call ⟨⟨rfl, rfl, rfl, rfl, trivial⟩, rfl, rfl⟩ ?_; conv => whnf)
            | (refine Num.id (by omega) (by omega) ?_; conv => whnf)
            | (refine Case.strI (fun _ => ?_) (fun _ => ?_) <;> conv => whnf)
            | (refine Both.mk ?_ ?_ <;> conv => whnf)
            | (refine Case.dec (fun _ => ?_) (fun _ => ?_) <;> conv => whnf)
            | (refine Case.beqI (fun _ => ?_) (fun _ => ?_) <;> conv => whnf)
            | (refine Case.mk (fun _ => ?_) (fun _ => ?_) <;> conv => whnf)
            | (refine Way.fst ?_; conv => whnf)
          all_goals repeat first | rw [if_pos (by omega)] | rw [if_neg (by omega)]
          all_goals exact Fin.pk _ ⟨trivial, trivial, trivial, trivial⟩ rfl (by simp [*]) rfl ⟨by first | rfl | simp only [*], rfl⟩
    · have hop : rOp t (ws t (i1 + 1)) = (0, ws t (i1 + 1)) := by unfold rOp; rw [if_neg (by simp [isD, *]), if_neg (by simp [*])]
      rw [if_neg (by omega), hop]
      exact Fin.pk _ ⟨trivial, trivial, trivial, trivial⟩ rfl rfl rfl ⟨rfl, rfl⟩
    · have hop : rOp t (ws t (i1 + 1)) = (0, ws t (i1 + 1)) := by unfold rOp; rw [if_neg (by simp [isD, *]), if_neg (by simp [*])]
      rw [if_neg (by omega), hop]
      exact Fin.pk _ ⟨trivial, trivial, trivial, trivial⟩ rfl rfl rfl ⟨rfl, rfl⟩
  · rw [if_pos (by assumption)]
    exact Fin.pk _ ⟨trivial, trivial, trivial, trivial⟩ rfl rfl rfl ⟨rfl, rfl⟩
def oddB : List UInt8 := [111, 100, 100]
def evenB : List UInt8 := [101, 118, 101, 110]
def rNthP (k : Tok) : Psd × Bool :=
  if k.kind = 1 ∧ lower k.text = oddB then ({ kind := 6, a := 2, b := 1 }, false) else if k.kind = 1 ∧ lower k.text = evenB then ({ kind := 6, a := 2 }, false)
  else if k.kind = 6 ∧ k.whole = true then ({ kind := 6, b := k.n.tdiv 1000 }, false) else ({ kind := 6 }, true)
def rNth (t : List Tok) (i : Nat) : Psd × Nat × Bool :=
  ((rNthP (tk t (ws t i))).1, ws t (ws t i + 1) + 1, (rNthP (tk t (ws t i))).2 || decide ((tk t (ws t (ws t i + 1))).kind ≠ 17))
/-- What the picker's methods hand back, that have a list in it: a list no longer turns. -/
abbrev Psd.dn (p : Psd) : D := .agg [int p.kind, int p.a, int p.b, if p.list = [] then .nil else .f (.sl p.list)]
theorem tdiv1000 {n : Int} (h : -9223372036854775808 ≤ n ∧ n < 9223372036854775808) : -9223372036854775808 ≤ n.tdiv 1000 ∧ n.tdiv 1000 < 9223372036854775808 := by
  rcases Int.le_total 0 n with h0 | h0
  · have := Int.tdiv_nonneg h0 (b := 1000) (by omega)
    have := Int.tdiv_le_self 1000 h0
    omega
  · have e : n.tdiv 1000 = -((-n).tdiv 1000) := by rw [Int.neg_tdiv]; omega
    have := Int.tdiv_nonneg (a := -n) (by omega) (b := 1000) (by omega)
    have := Int.tdiv_le_self (a := -n) 1000 (by omega)
    omega
set_option maxHeartbeats 1000000 in
theorem rnth_spec (t : List Tok) (ht : t.length < 100000000) (hx : ∀ i, (tk t i).text.length < 1000000000) (hn : ∀ i, -9223372036854775808 ≤ (tk t i).n ∧ (tk t i).n < 9223372036854775808) (a : Nat) (q : Int) (ha : a ≤ t.length) : PMeth 72 t a false q (.agg [int (rNth t a).1.kind, int (rNth t a).1.a, int (rNth t a).1.b, .nil]) (rNth t a).2.1 (rNth t a).2.2 := by
  refine ⟨⟨trivial, trivial, trivial, trivial, trivial⟩, spec_mk tab_ok Try.func72 (by rfl) rfl ?_⟩
  have k1 := ws_le t a
  have k2 := ws_le t (ws t a + 1)
  have hn1 := hn (ws t a)
  conv => whnf
  repeat' first
    | (refine Case.not ?_; conv => whnf)
    | (refine Case.yes ?_; conv => whnf)
    | (refine Case.no ?_; conv => whnf)
    | (refine Case.isTrue (by assumption) ?_; conv => whnf)
    | (refine Case.isFalse (by assumption) ?_; conv => whnf)
    | (refine Case.decT (by assumption) ?_; conv => whnf)
    | (refine Case.decF (by assumption) ?_; conv => whnf)
    | (refine Case.decT (by omega) ?_; conv => whnf)
    | (refine Case.decF (by omega) ?_; conv => whnf)
    | (refine Case.beqT (by omega) ?_; conv => whnf)
    | (refine Case.beqF (by omega) ?_; conv => whnf)
    | (refine Case.strT (by assumption) ?_; conv => whnf)
    | (refine Case.strF (by assumption) ?_; conv => whnf)
    | (refine Case.strF (by simp only [*]; decide) ?_; conv => whnf)
    | (refine step_kinds 2 ?hk ?_; (case hk => decide +kernel); conv => whnf)
    | (refine step_kinds 3 ?hk ?_; (case hk => decide +kernel); conv => whnf)
    | (refine (pwhite_spec t (by omega) a false q (by omega)).call ?_; conv => whnf)
    | (refine (psee_at t (by omega) (ws t a) false q (by omega) _ (ws t a) (by omega) (by omega) (by omega)).call ⟨⟨rfl, rfl, rfl, rfl, trivial⟩, rfl, rfl⟩ ?_; conv => whnf)
    | (refine (lower_spec _ (hx _)).call ⟨rfl, rfl⟩ ?_; conv => whnf)
    | (refine Owes.mk (by decide) ?_; conv => whnf)
    | (refine Num.id (tdiv1000 hn1).1 (tdiv1000 hn1).2 ?_; conv => whnf)
    | (refine (pwhite_spec t (by omega) (ws t a + 1) _ q (by omega)).call ?_; conv => whnf)
    | (refine (psee_at t (by omega) (ws t (ws t a + 1)) _ q (by omega) _ (ws t (ws t a + 1)) (by omega) (by omega) (by omega)).call ⟨⟨rfl, rfl, rfl, rfl, trivial⟩, rfl, rfl⟩ ?_; conv => whnf)
    | (refine Num.id (by omega) (by omega) ?_; conv => whnf)
    | (refine Case.strI (fun _ => ?_) (fun _ => ?_) <;> conv => whnf)
    | (refine Both.mk ?_ ?_ <;> conv => whnf)
    | (refine Case.dec (fun _ => ?_) (fun _ => ?_) <;> conv => whnf)
    | (refine Case.beqI (fun _ => ?_) (fun _ => ?_) <;> conv => whnf)
    | (refine Case.mk (fun _ => ?_) (fun _ => ?_) <;> conv => whnf)
    | (refine Way.fst ?_; conv => whnf)
  all_goals refine Fin.pk (ws t (ws t a + 1) + 1) ⟨trivial, trivial, trivial, trivial, trivial⟩ rfl ?_ rfl ⟨?_, rfl⟩
  all_goals simp [rNth, rNthP, oddB, evenB, *] <;> (repeat' apply And.intro) <;> rfl
end Go.Proofs.Ytdfiegleaknleaa.Aw
