/- The reference's small functions, as contracts. -/
import Derived.Test.YtofjmhigfihhbaaDoorAwS
import Derived.Test.YtofjmhigfihhbaaDoorAwTab
namespace Go.Proofs.YtofjmhigfihhbaaDoor.Aw
open Go Go.RowKit Go.Lib
set_option linter.unusedVariables false
set_option linter.unusedSimpArgs false
set_option maxRecDepth 100000
noncomputable abbrev P : Program := Tryd.prog
theorem mix : P.follows .mixedOrders = true := by rfl
abbrev int (i : Int) : D := .f (.v (.int .i64 i))
abbrev bool (b : Bool) : D := .f (.v (.bool b))
theorem Case.decT {p : Prop} [Decidable p] {A B : Prop} (h : p) (a : A) : Case (decide p) A B := Case.isTrue (decide_eq_true h) a
theorem Case.decF {p : Prop} [Decidable p] {A B : Prop} (h : ¬ p) (b : B) : Case (decide p) A B := Case.isFalse (decide_eq_false h) b
theorem Case.dec {p : Prop} [Decidable p] {A B : Prop} (a : p → A) (b : ¬ p → B) : Case (decide p) A B := Case.mk (fun h => a (of_decide_eq_true h)) (fun h => b (of_decide_eq_false h))
theorem Case.not {b : Bool} {A B : Prop} (h : Case b B A) : Case (!b) A B := Case.mk (fun e => (Case.open h).elim (fun h => by simp_all) (fun h => h.2)) (fun e => (Case.open h).elim (fun h => h.2) (fun h => by simp_all))
theorem Case.beqT {x y : Int} {A B : Prop} (h : x = y) (a : A) : Case (x == y) A B := Case.isTrue (by simpa using h) a
theorem Case.beqF {x y : Int} {A B : Prop} (h : ¬ x = y) (b : B) : Case (x == y) A B := Case.isFalse (by simpa using h) b
theorem Case.beqI {x y : Int} {A B : Prop} (a : x = y → A) (b : ¬ x = y → B) : Case (x == y) A B := Case.mk (fun h => a (by simpa using h)) (fun h => b (by simpa using h))
theorem wrap_id {x : Int} (h1 : -9223372036854775808 ≤ x) (h2 : x < 9223372036854775808) : IntKind.i64.wrap x = x := by
  have e1 : (2 ^ IntKind.i64.bits : Int) = 18446744073709551616 := by decide
  have e2 : (2 ^ (IntKind.i64.bits - 1) : Int) = 9223372036854775808 := by decide
  unfold IntKind.wrap
  rw [e1, e2]
  simp only [show IntKind.i64.signed = true from rfl, Bool.true_and, decide_eq_true_eq]
  split <;> omega
theorem Num.id {x : Int} {K : Int → Prop} (h1 : -9223372036854775808 ≤ x) (h2 : x < 9223372036854775808) (h : K x) : Num .i64 x K := Num.wrap (by rw [wrap_id h1 h2]; exact h)
mutual
theorem into_scal (n0 n h : Nat) : ∀ d : D, scalD d → intoD n0 n h d d
  | .f (.v x), _ => by unfold intoD; rfl
  | .nil, _ => by unfold intoD; rfl
  | .junk, _ => by unfold intoD; trivial
  | .agg cs, hs => by unfold scalD at hs; unfold intoD; exact intos_scal n0 n h cs hs
  | .tup cs, hs => by unfold scalD at hs; unfold intoD; exact intos_scal n0 n h cs hs
  | .f (.sl _), hs => hs.elim
  | .own _ _ _ _, hs => hs.elim
  | .optr _ _ _ _ _ _, hs => hs.elim
  | .ptr _ _, hs => hs.elim
  | .ip _, hs => hs.elim
  | .fn _ _, hs => hs.elim
  | .yl _ _ _ _, hs => hs.elim
theorem intos_scal (n0 n h : Nat) : ∀ ds : List D, scalL ds → intoL n0 n h ds ds
  | [], _ => by unfold intoL; rfl
  | d :: ds, hs => by unfold scalL at hs; unfold intoL; exact ⟨into_scal n0 n h d hs.1, intos_scal n0 n h ds hs.2⟩
end
/-- An end with a plain value, where nothing was handed over. -/
theorem Fin.scal {d : D} {H : Hp} {n n0 : Nat} {R : D → Hp → Prop} (hs : scalD d) (hR : R d []) : Fin d H n 0 n0 R :=
  Fin.mk d [] hR rfl ⟨by unfold intoL; exact ⟨into_scal _ _ _ d hs, by unfold intoL; rfl⟩, by unfold intoH; cases H <;> trivial⟩
/-- A closed contract that hands back one plain value. -/
def Pure (g : FuncId) (args : List D) (d : D) : Prop := scalD d ∧ Spec P g args [] 0 (fun d' H => H = [] ∧ d' = d)
theorem Pure.mk {g : FuncId} {args : List D} {d : D} (hs : scalD d) (h : Spec P g args [] 0 (fun d' H => H = [] ∧ d' = d)) : Pure g args d := ⟨hs, h⟩
theorem Pure.call {g : FuncId} {args as' E : List D} {H : Hp} {n : Nat} {K : KD} {d : D} (h : Pure g as' d) (hv : viewL H args as') (k : K d E H n) : Call P g args E H n K :=
  call_view h.2 hv fun d' ⟨_, e⟩ => by subst e; exact ⟨h.1, k⟩
theorem Pure.callB {g : FuncId} {args as' E : List D} {H : Hp} {n : Nat} {K : KD} {d : D} (h : Pure g as' d) (hv : viewL H args as') (k : K d E H n) : CallB P g args E H n K :=
  callB_view h.2 hv fun d' ⟨_, e⟩ => by subst e; exact ⟨h.1, k⟩
theorem Fin.isB {x y : Bool} {H : Hp} {n n0 : Nat} (e : x = y) : Fin (bool x) H n 0 n0 (fun d H => H = [] ∧ d = bool y) := Fin.scal trivial ⟨rfl, by rw [e]⟩
theorem Fin.isI {x y : Int} {H : Hp} {n n0 : Nat} (e : x = y) : Fin (int x) H n 0 n0 (fun d H => H = [] ∧ d = int y) := Fin.scal trivial ⟨rfl, by rw [e]⟩

/-- Operations in their own order, each with its kind; calls are of kind q. -/
def kindOf (q : Nat) (o : Oper) : Nat := match o.op with
  | .load .. => 1
  | .buildSlice .. => 2
  | .call c => (match c.callee with
    | .builtin .len => 0
    | .value _ => q
    | _ => 3)
  | .move .. | .assign .. | .pick .. | .nilCheck .. | .binOp .. | .unOp .. | .fieldAddr .. | .field .. | .indexAddr .. | .index .. | .extract .. => 0
  | _ => 3
def kindsL (q : Nat) : List Oper → Nat → List (Nat × Nat)
  | [], _ => []
  | o :: l, i => (i, kindOf q o) :: kindsL q l (i + 1)
theorem step_kinds (q : Nat) {id : Nat} {ops : Array Oper} {Q : X → List D → Hp → Nat → Prop} {E : List D} {H : Hp} {n : Nat} (hs : okSched ops (kindsL q ops.toList 0) = true) (h : drawD P tab ops.toList (kindsL q ops.toList 0) E H n (Q .normal)) : Step P (.region id ops true) Q E H n :=
  step_draw tab_ok mix _ hs h

def right (c : Int) : Bool := decide (0 ≤ c) && decide (c ≤ 1114111) && (decide (c < 55296) || decide (57343 < c))
def digit (c : Int) : Bool := decide (48 ≤ c) && decide (c ≤ 57)
def white (c : Int) : Bool := decide (c = 9) || decide (c = 10) || decide (c = 32)
def nameStart (c : Int) : Bool := decide (97 ≤ c) && decide (c ≤ 122) || decide (65 ≤ c) && decide (c ≤ 90) || decide (c = 95) || decide (128 ≤ c)
def namePoint (c : Int) : Bool := nameStart c || digit c || decide (c = 45)
def hex (c : Int) : Int := if 48 ≤ c ∧ c ≤ 57 then c - 48 else if 97 ≤ c ∧ c ≤ 102 then c - 97 + 10 else if 65 ≤ c ∧ c ≤ 70 then c - 65 + 10 else -1
theorem hex_spec (c : Int) : Pure 31 [int c] (int (hex c)) := by
  refine .mk trivial (spec_mk tab_ok Tryd.func31 (by rfl) rfl ?_)
  conv => whnf
  repeat' first
    | (refine Case.not ?_; conv => whnf)
    | (refine Case.yes ?_; conv => whnf)
    | (refine Case.no ?_; conv => whnf)
    | (refine Case.isTrue (by assumption) ?_; conv => whnf)
    | (refine Case.isFalse (by assumption) ?_; conv => whnf)
    | (refine Case.decT (by assumption) ?_; conv => whnf)
    | (refine Case.decF (by assumption) ?_; conv => whnf)
    | (refine Case.decT (by omega) ?_; conv => whnf)
    | (refine Case.decF (by omega) ?_; conv => whnf)
    | (refine Case.beqT (by omega) ?_; conv => whnf)
    | (refine Case.beqF (by omega) ?_; conv => whnf)
    | (refine Num.id (by omega) (by omega) ?_; conv => whnf)
    | (refine Case.dec (fun _ => ?_) (fun _ => ?_) <;> conv => whnf)
    | (refine Case.beqI (fun _ => ?_) (fun _ => ?_) <;> conv => whnf)
    | (refine Case.mk (fun _ => ?_) (fun _ => ?_) <;> conv => whnf)
    | (refine Way.fst ?_; conv => whnf)
  all_goals (refine Fin.isI ?_; unfold hex; first | omega | (repeat' split) <;> first | omega | rfl)
def sign (c : Int) : Int := if c = 58 then 11 else if c = 59 then 12 else if c = 44 then 13 else if c = 123 then 14 else if c = 125 then 15 else if c = 40 then 16 else if c = 41 then 17 else if c = 91 then 18 else if c = 93 then 19 else 0
def cap (n : Int) : Int := if 2147483647 < n then 2147483647 else if n < -2147483647 then -2147483647 else n
end Go.Proofs.YtofjmhigfihhbaaDoor.Aw
