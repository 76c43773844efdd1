/- The reference's small functions, as contracts. -/
/- The reference's reader of code points: what only looks. -/
/- Bytes put behind others. -/
/- The reference's reader: escapes, names. -/
import Derived.Test.YtdfiegleaknleaaAwS
import Derived.Test.YtdfiegleaknleaaAwTab
namespace Go.Proofs.Ytdfiegleaknleaa.Aw
open Go Go.RowKit Go.Lib
set_option linter.unusedVariables false
set_option linter.unusedSimpArgs false
set_option maxRecDepth 100000
noncomputable abbrev P : Program := Try.prog
theorem mix : P.follows .mixedOrders = true := by rfl
abbrev int (i : Int) : D := .f (.v (.int .i64 i))
abbrev bool (b : Bool) : D := .f (.v (.bool b))
theorem Case.decT {p : Prop} [Decidable p] {A B : Prop} (h : p) (a : A) : Case (decide p) A B := Case.isTrue (decide_eq_true h) a
theorem Case.decF {p : Prop} [Decidable p] {A B : Prop} (h : ¬ p) (b : B) : Case (decide p) A B := Case.isFalse (decide_eq_false h) b
theorem Case.dec {p : Prop} [Decidable p] {A B : Prop} (a : p → A) (b : ¬ p → B) : Case (decide p) A B := Case.mk (fun h => a (of_decide_eq_true h)) (fun h => b (of_decide_eq_false h))
theorem Case.not {b : Bool} {A B : Prop} (h : Case b B A) : Case (!b) A B := Case.mk (fun e => (Case.open h).elim (fun h => by simp_all) (fun h => h.2)) (fun e => (Case.open h).elim (fun h => h.2) (fun h => by simp_all))
theorem Case.beqT {x y : Int} {A B : Prop} (h : x = y) (a : A) : Case (x == y) A B := Case.isTrue (by simpa using h) a
theorem Case.beqF {x y : Int} {A B : Prop} (h : ¬ x = y) (b : B) : Case (x == y) A B := Case.isFalse (by simpa using h) b
theorem Case.beqI {x y : Int} {A B : Prop} (a : x = y → A) (b : ¬ x = y → B) : Case (x == y) A B := Case.mk (fun h => a (by simpa using h)) (fun h => b (by simpa using h))
theorem wrap_id {x : Int} (h1 : -9223372036854775808 ≤ x) (h2 : x < 9223372036854775808) : IntKind.i64.wrap x = x := by
  have e1 : (2 ^ IntKind.i64.bits : Int) = 18446744073709551616 := by decide
  have e2 : (2 ^ (IntKind.i64.bits - 1) : Int) = 9223372036854775808 := by decide
  unfold IntKind.wrap
  rw [e1, e2]
  simp only [show IntKind.i64.signed = true from rfl, Bool.true_and, decide_eq_true_eq]
  split <;> omega
theorem Num.id {x : Int} {K : Int → Prop} (h1 : -9223372036854775808 ≤ x) (h2 : x < 9223372036854775808) (h : K x) : Num .i64 x K := Num.wrap (by rw [wrap_id h1 h2]; exact h)
mutual
theorem into_scal (n0 n h : Nat) : ∀ d : D, scalD d → intoD n0 n h d d
  | .f (.v x), _ => by unfold intoD; rfl
  | .nil, _ => by unfold intoD; rfl
  | .junk, _ => by unfold intoD; trivial
  | .agg cs, hs => by unfold scalD at hs; unfold intoD; exact intos_scal n0 n h cs hs
  | .tup cs, hs => by unfold scalD at hs; unfold intoD; exact intos_scal n0 n h cs hs
  | .f (.sl _), hs => hs.elim
  | .own _ _ _ _, hs => hs.elim
  | .optr _ _ _ _ _ _, hs => hs.elim
  | .ptr _ _, hs => hs.elim
  | .ip _, hs => hs.elim
  | .fn _ _, hs => hs.elim
  | .yl _ _ _ _, hs => hs.elim
theorem intos_scal (n0 n h : Nat) : ∀ ds : List D, scalL ds → intoL n0 n h ds ds
  | [], _ => by unfold intoL; rfl
  | d :: ds, hs => by unfold scalL at hs; unfold intoL; exact ⟨into_scal n0 n h d hs.1, intos_scal n0 n h ds hs.2⟩
end
/-- An end with a plain value, where nothing was handed over. -/
theorem Fin.scal {d : D} {H : Hp} {n n0 : Nat} {R : D → Hp → Prop} (hs : scalD d) (hR : R d []) : Fin d H n 0 n0 R :=
  Fin.mk d [] hR rfl ⟨by unfold intoL; exact ⟨into_scal _ _ _ d hs, by unfold intoL; rfl⟩, by unfold intoH; cases H <;> trivial⟩
/-- A closed contract that hands back one plain value. -/
def Pure (g : FuncId) (args : List D) (d : D) : Prop := scalD d ∧ Spec P g args [] 0 (fun d' H => H = [] ∧ d' = d)
theorem Pure.mk {g : FuncId} {args : List D} {d : D} (hs : scalD d) (h : Spec P g args [] 0 (fun d' H => H = [] ∧ d' = d)) : Pure g args d := ⟨hs, h⟩
theorem Pure.call {g : FuncId} {args as' E : List D} {H : Hp} {n : Nat} {K : KD} {d : D} (h : Pure g as' d) (hv : viewL H args as') (k : K d E H n) : Call P g args E H n K :=
  call_view h.2 hv fun d' ⟨_, e⟩ => by subst e; exact ⟨h.1, k⟩
theorem Pure.callB {g : FuncId} {args as' E : List D} {H : Hp} {n : Nat} {K : KD} {d : D} (h : Pure g as' d) (hv : viewL H args as') (k : K d E H n) : CallB P g args E H n K :=
  callB_view h.2 hv fun d' ⟨_, e⟩ => by subst e; exact ⟨h.1, k⟩
theorem Fin.isB {x y : Bool} {H : Hp} {n n0 : Nat} (e : x = y) : Fin (bool x) H n 0 n0 (fun d H => H = [] ∧ d = bool y) := Fin.scal trivial ⟨rfl, by rw [e]⟩
theorem Fin.isI {x y : Int} {H : Hp} {n n0 : Nat} (e : x = y) : Fin (int x) H n 0 n0 (fun d H => H = [] ∧ d = int y) := Fin.scal trivial ⟨rfl, by rw [e]⟩

/-- Operations in their own order, each with its kind; calls are of kind q. -/
def kindOf (q : Nat) (o : Oper) : Nat := match o.op with
  | .load .. => 1
  | .buildSlice .. => 2
  | .call c => (match c.callee with
    | .builtin .len => 0
    | .value _ => q
    | _ => 3)
  | .move .. | .assign .. | .pick .. | .nilCheck .. | .binOp .. | .unOp .. | .fieldAddr .. | .field .. | .indexAddr .. | .index .. | .extract .. => 0
  | _ => 3
def kindsL (q : Nat) : List Oper → Nat → List (Nat × Nat)
  | [], _ => []
  | o :: l, i => (i, kindOf q o) :: kindsL q l (i + 1)
theorem step_kinds (q : Nat) {id : Nat} {ops : Array Oper} {Q : X → List D → Hp → Nat → Prop} {E : List D} {H : Hp} {n : Nat} (hs : okSched ops (kindsL q ops.toList 0) = true) (h : drawD P tab ops.toList (kindsL q ops.toList 0) E H n (Q .normal)) : Step P (.region id ops true) Q E H n :=
  step_draw tab_ok mix _ hs h

def right (c : Int) : Bool := decide (0 ≤ c) && decide (c ≤ 1114111) && (decide (c < 55296) || decide (57343 < c))
theorem right_spec (c : Int) : Pure 51 [int c] (bool (right c)) := by
  refine .mk trivial (spec_mk tab_ok Try.func51 (by rfl) rfl ?_)
  conv => whnf
  repeat' first
    | (refine Case.not ?_; conv => whnf)
    | (refine Case.yes ?_; conv => whnf)
    | (refine Case.no ?_; conv => whnf)
    | (refine Case.isTrue (by assumption) ?_; conv => whnf)
    | (refine Case.isFalse (by assumption) ?_; conv => whnf)
    | (refine Case.decT (by assumption) ?_; conv => whnf)
    | (refine Case.decF (by assumption) ?_; conv => whnf)
    | (refine Case.decT (by omega) ?_; conv => whnf)
    | (refine Case.decF (by omega) ?_; conv => whnf)
    | (refine Case.beqT (by omega) ?_; conv => whnf)
    | (refine Case.beqF (by omega) ?_; conv => whnf)
    | (refine Num.id (by omega) (by omega) ?_; conv => whnf)
    | (refine Case.dec (fun _ => ?_) (fun _ => ?_) <;> conv => whnf)
    | (refine Case.beqI (fun _ => ?_) (fun _ => ?_) <;> conv => whnf)
    | (refine Case.mk (fun _ => ?_) (fun _ => ?_) <;> conv => whnf)
    | (refine Way.fst ?_; conv => whnf)
  all_goals (refine Fin.isB ?_; rw [Bool.eq_iff_iff]; simp only [right, Bool.and_eq_true, Bool.or_eq_true, Bool.not_eq_true', decide_eq_true_eq, decide_eq_false_iff_not, beq_iff_eq, beq_eq_false_iff_ne, bne_iff_ne, ne_eq, Bool.false_eq_true, reduceCtorEq, iff_true, true_iff, iff_false, false_iff, not_true_eq_false, not_false_eq_true] at *; try omega)
def digit (c : Int) : Bool := decide (48 ≤ c) && decide (c ≤ 57)
theorem digit_spec (c : Int) : Pure 52 [int c] (bool (digit c)) := by
  refine .mk trivial (spec_mk tab_ok Try.func52 (by rfl) rfl ?_)
  conv => whnf
  repeat' first
    | (refine Case.not ?_; conv => whnf)
    | (refine Case.yes ?_; conv => whnf)
    | (refine Case.no ?_; conv => whnf)
    | (refine Case.isTrue (by assumption) ?_; conv => whnf)
    | (refine Case.isFalse (by assumption) ?_; conv => whnf)
    | (refine Case.decT (by assumption) ?_; conv => whnf)
    | (refine Case.decF (by assumption) ?_; conv => whnf)
    | (refine Case.decT (by omega) ?_; conv => whnf)
    | (refine Case.decF (by omega) ?_; conv => whnf)
    | (refine Case.beqT (by omega) ?_; conv => whnf)
    | (refine Case.beqF (by omega) ?_; conv => whnf)
    | (refine Num.id (by omega) (by omega) ?_; conv => whnf)
    | (refine Case.dec (fun _ => ?_) (fun _ => ?_) <;> conv => whnf)
    | (refine Case.beqI (fun _ => ?_) (fun _ => ?_) <;> conv => whnf)
    | (refine Case.mk (fun _ => ?_) (fun _ => ?_) <;> conv => whnf)
    | (refine Way.fst ?_; conv => whnf)
  all_goals (refine Fin.isB ?_; rw [Bool.eq_iff_iff]; simp only [digit, Bool.and_eq_true, Bool.or_eq_true, Bool.not_eq_true', decide_eq_true_eq, decide_eq_false_iff_not, beq_iff_eq, beq_eq_false_iff_ne, bne_iff_ne, ne_eq, Bool.false_eq_true, reduceCtorEq, iff_true, true_iff, iff_false, false_iff, not_true_eq_false, not_false_eq_true] at *; try omega)
def white (c : Int) : Bool := decide (c = 9) || decide (c = 10) || decide (c = 32)
theorem white_spec (c : Int) : Pure 37 [int c] (bool (white c)) := by
  refine .mk trivial (spec_mk tab_ok Try.func37 (by rfl) rfl ?_)
  conv => whnf
  repeat' first
    | (refine Case.not ?_; conv => whnf)
    | (refine Case.yes ?_; conv => whnf)
    | (refine Case.no ?_; conv => whnf)
    | (refine Case.isTrue (by assumption) ?_; conv => whnf)
    | (refine Case.isFalse (by assumption) ?_; conv => whnf)
    | (refine Case.decT (by assumption) ?_; conv => whnf)
    | (refine Case.decF (by assumption) ?_; conv => whnf)
    | (refine Case.decT (by omega) ?_; conv => whnf)
    | (refine Case.decF (by omega) ?_; conv => whnf)
    | (refine Case.beqT (by omega) ?_; conv => whnf)
    | (refine Case.beqF (by omega) ?_; conv => whnf)
    | (refine Num.id (by omega) (by omega) ?_; conv => whnf)
    | (refine Case.dec (fun _ => ?_) (fun _ => ?_) <;> conv => whnf)
    | (refine Case.beqI (fun _ => ?_) (fun _ => ?_) <;> conv => whnf)
    | (refine Case.mk (fun _ => ?_) (fun _ => ?_) <;> conv => whnf)
    | (refine Way.fst ?_; conv => whnf)
  all_goals (refine Fin.isB ?_; rw [Bool.eq_iff_iff]; simp only [white, Bool.and_eq_true, Bool.or_eq_true, Bool.not_eq_true', decide_eq_true_eq, decide_eq_false_iff_not, beq_iff_eq, beq_eq_false_iff_ne, bne_iff_ne, ne_eq, Bool.false_eq_true, reduceCtorEq, iff_true, true_iff, iff_false, false_iff, not_true_eq_false, not_false_eq_true] at *; try omega)
def nameStart (c : Int) : Bool := decide (97 ≤ c) && decide (c ≤ 122) || decide (65 ≤ c) && decide (c ≤ 90) || decide (c = 95) || decide (128 ≤ c)
theorem nameStart_spec (c : Int) : Pure 53 [int c] (bool (nameStart c)) := by
  refine .mk trivial (spec_mk tab_ok Try.func53 (by rfl) rfl ?_)
  conv => whnf
  repeat' first
    | (refine Case.not ?_; conv => whnf)
    | (refine Case.yes ?_; conv => whnf)
    | (refine Case.no ?_; conv => whnf)
    | (refine Case.isTrue (by assumption) ?_; conv => whnf)
    | (refine Case.isFalse (by assumption) ?_; conv => whnf)
    | (refine Case.decT (by assumption) ?_; conv => whnf)
    | (refine Case.decF (by assumption) ?_; conv => whnf)
    | (refine Case.decT (by omega) ?_; conv => whnf)
    | (refine Case.decF (by omega) ?_; conv => whnf)
    | (refine Case.beqT (by omega) ?_; conv => whnf)
    | (refine Case.beqF (by omega) ?_; conv => whnf)
    | (refine Num.id (by omega) (by omega) ?_; conv => whnf)
    | (refine Case.dec (fun _ => ?_) (fun _ => ?_) <;> conv => whnf)
    | (refine Case.beqI (fun _ => ?_) (fun _ => ?_) <;> conv => whnf)
    | (refine Case.mk (fun _ => ?_) (fun _ => ?_) <;> conv => whnf)
    | (refine Way.fst ?_; conv => whnf)
  all_goals (refine Fin.isB ?_; rw [Bool.eq_iff_iff]; simp only [nameStart, Bool.and_eq_true, Bool.or_eq_true, Bool.not_eq_true', decide_eq_true_eq, decide_eq_false_iff_not, beq_iff_eq, beq_eq_false_iff_ne, bne_iff_ne, ne_eq, Bool.false_eq_true, reduceCtorEq, iff_true, true_iff, iff_false, false_iff, not_true_eq_false, not_false_eq_true] at *; try omega)
def namePoint (c : Int) : Bool := nameStart c || digit c || decide (c = 45)
theorem namePoint_spec (c : Int) : Pure 39 [int c] (bool (namePoint c)) := by
  refine .mk trivial (spec_mk tab_ok Try.func39 (by rfl) rfl ?_)
  conv => whnf
  repeat' first
    | (refine Case.not ?_; conv => whnf)
    | (refine Case.yes ?_; conv => whnf)
    | (refine Case.no ?_; conv => whnf)
    | (refine Case.isTrue (by assumption) ?_; conv => whnf)
    | (refine Case.isFalse (by assumption) ?_; conv => whnf)
    | (refine Case.decT (by assumption) ?_; conv => whnf)
    | (refine Case.decF (by assumption) ?_; conv => whnf)
    | (refine Case.decT (by omega) ?_; conv => whnf)
    | (refine Case.decF (by omega) ?_; conv => whnf)
    | (refine Case.beqT (by omega) ?_; conv => whnf)
    | (refine Case.beqF (by omega) ?_; conv => whnf)
    | (refine (nameStart_spec c).call ⟨rfl, rfl⟩ ?_; conv => whnf)
    | (refine (digit_spec c).call ⟨rfl, rfl⟩ ?_; conv => whnf)
    | (refine Num.id (by omega) (by omega) ?_; conv => whnf)
    | (refine Case.dec (fun _ => ?_) (fun _ => ?_) <;> conv => whnf)
    | (refine Case.beqI (fun _ => ?_) (fun _ => ?_) <;> conv => whnf)
    | (refine Case.mk (fun _ => ?_) (fun _ => ?_) <;> conv => whnf)
    | (refine Way.fst ?_; conv => whnf)
  all_goals refine Fin.isB ?_
  all_goals first | (simp_all [namePoint]; done) | (simp_all [namePoint]; rfl)
def hex (c : Int) : Int := if 48 ≤ c ∧ c ≤ 57 then c - 48 else if 97 ≤ c ∧ c ≤ 102 then c - 97 + 10 else if 65 ≤ c ∧ c ≤ 70 then c - 65 + 10 else -1
theorem hex_spec (c : Int) : Pure 66 [int c] (int (hex c)) := by
  refine .mk trivial (spec_mk tab_ok Try.func66 (by rfl) rfl ?_)
  conv => whnf
  repeat' first
    | (refine Case.not ?_; conv => whnf)
    | (refine Case.yes ?_; conv => whnf)
    | (refine Case.no ?_; conv => whnf)
    | (refine Case.isTrue (by assumption) ?_; conv => whnf)
    | (refine Case.isFalse (by assumption) ?_; conv => whnf)
    | (refine Case.decT (by assumption) ?_; conv => whnf)
    | (refine Case.decF (by assumption) ?_; conv => whnf)
    | (refine Case.decT (by omega) ?_; conv => whnf)
    | (refine Case.decF (by omega) ?_; conv => whnf)
    | (refine Case.beqT (by omega) ?_; conv => whnf)
    | (refine Case.beqF (by omega) ?_; conv => whnf)
    | (refine Num.id (by omega) (by omega) ?_; conv => whnf)
    | (refine Case.dec (fun _ => ?_) (fun _ => ?_) <;> conv => whnf)
    | (refine Case.beqI (fun _ => ?_) (fun _ => ?_) <;> conv => whnf)
    | (refine Case.mk (fun _ => ?_) (fun _ => ?_) <;> conv => whnf)
    | (refine Way.fst ?_; conv => whnf)
  all_goals (refine Fin.isI ?_; unfold hex; first | omega | (repeat' split) <;> first | omega | rfl)
def sign (c : Int) : Int := if c = 58 then 11 else if c = 59 then 12 else if c = 44 then 13 else if c = 123 then 14 else if c = 125 then 15 else if c = 40 then 16 else if c = 41 then 17 else if c = 91 then 18 else if c = 93 then 19 else 0
theorem sign_spec (c : Int) : Pure 43 [int c] (int (sign c)) := by
  refine .mk trivial (spec_mk tab_ok Try.func43 (by rfl) rfl ?_)
  conv => whnf
  repeat' first
    | (refine Case.not ?_; conv => whnf)
    | (refine Case.yes ?_; conv => whnf)
    | (refine Case.no ?_; conv => whnf)
    | (refine Case.isTrue (by assumption) ?_; conv => whnf)
    | (refine Case.isFalse (by assumption) ?_; conv => whnf)
    | (refine Case.decT (by assumption) ?_; conv => whnf)
    | (refine Case.decF (by assumption) ?_; conv => whnf)
    | (refine Case.decT (by omega) ?_; conv => whnf)
    | (refine Case.decF (by omega) ?_; conv => whnf)
    | (refine Case.beqT (by omega) ?_; conv => whnf)
    | (refine Case.beqF (by omega) ?_; conv => whnf)
    | (refine Num.id (by omega) (by omega) ?_; conv => whnf)
    | (refine Case.dec (fun _ => ?_) (fun _ => ?_) <;> conv => whnf)
    | (refine Case.beqI (fun _ => ?_) (fun _ => ?_) <;> conv => whnf)
    | (refine Case.mk (fun _ => ?_) (fun _ => ?_) <;> conv => whnf)
    | (refine Way.fst ?_; conv => whnf)
  all_goals (refine Fin.isI ?_; unfold sign; first | omega | (repeat' split) <;> first | omega | rfl)
def cap (n : Int) : Int := if 2147483647 < n then 2147483647 else if n < -2147483647 then -2147483647 else n
theorem cap_spec (c : Int) : Pure 67 [int c] (int (cap c)) := by
  refine .mk trivial (spec_mk tab_ok Try.func67 (by rfl) rfl ?_)
  conv => whnf
  repeat' first
    | (refine Case.not ?_; conv => whnf)
    | (refine Case.yes ?_; conv => whnf)
    | (refine Case.no ?_; conv => whnf)
    | (refine Case.isTrue (by assumption) ?_; conv => whnf)
    | (refine Case.isFalse (by assumption) ?_; conv => whnf)
    | (refine Case.decT (by assumption) ?_; conv => whnf)
    | (refine Case.decF (by assumption) ?_; conv => whnf)
    | (refine Case.decT (by omega) ?_; conv => whnf)
    | (refine Case.decF (by omega) ?_; conv => whnf)
    | (refine Case.beqT (by omega) ?_; conv => whnf)
    | (refine Case.beqF (by omega) ?_; conv => whnf)
    | (refine Num.id (by omega) (by omega) ?_; conv => whnf)
    | (refine Case.dec (fun _ => ?_) (fun _ => ?_) <;> conv => whnf)
    | (refine Case.beqI (fun _ => ?_) (fun _ => ?_) <;> conv => whnf)
    | (refine Case.mk (fun _ => ?_) (fun _ => ?_) <;> conv => whnf)
    | (refine Way.fst ?_; conv => whnf)
  all_goals (refine Fin.isI ?_; unfold cap; first | omega | (repeat' split) <;> first | omega | rfl)
end Go.Proofs.Ytdfiegleaknleaa.Aw

namespace Go.Proofs.Ytdfiegleaknleaa.Aw
open Go Go.RowKit Go.Lib
set_option linter.unusedVariables false
set_option linter.unusedSimpArgs false
set_option maxRecDepth 100000
def ptsF (l : List Int) : List (List F) := l.map fun i => [.v (.int .i64 i)]
theorem ptsF_length (l : List Int) : (ptsF l).length = l.length := by simp [ptsF]
theorem ptsF_get {l : List Int} {i : Nat} {c : Int} (h : l[i]? = some c) : (ptsF l)[i]? = some [.v (.int .i64 c)] := by simp [ptsF, h]
def see (l : List Int) (i : Nat) : Int := match l[i]? with
  | none => -1
  | some c => if right c then c else 65533
abbrev rip (l : List Int) (a : Nat) : D := .ip [.sl (ptsF l), .v (.int .i64 a)]
theorem see_spec (l : List Int) (hl : l.length < 1000000000) (a k : Nat) (ha : a < 2000000000) (hk : k < 1000) : Pure 34 [rip l a, int k] (int (see l (a + k))) := by
  have hp := ptsF_length l
  refine .mk trivial (spec_mk tab_ok Try.func34 (by rfl) rfl ?_)
  conv => whnf
  refine step_kinds 2 (by decide +kernel) ?_
  conv => whnf
  repeat' first
    | (refine Case.not ?_; conv => whnf)
    | (refine Case.yes ?_; conv => whnf)
    | (refine Case.no ?_; conv => whnf)
    | (refine Case.isTrue (by assumption) ?_; conv => whnf)
    | (refine Case.isFalse (by assumption) ?_; conv => whnf)
    | (refine Case.decT (by assumption) ?_; conv => whnf)
    | (refine Case.decF (by assumption) ?_; conv => whnf)
    | (refine Case.decT (by omega) ?_; conv => whnf)
    | (refine Case.decF (by omega) ?_; conv => whnf)
    | (refine Case.beqT (by omega) ?_; conv => whnf)
    | (refine Case.beqF (by omega) ?_; conv => whnf)
    | (refine Num.id (by omega) (by omega) ?_; conv => whnf)
    | (refine Case.dec (fun _ => ?_) (fun _ => ?_) <;> conv => whnf)
    | (refine Case.beqI (fun _ => ?_) (fun _ => ?_) <;> conv => whnf)
    | (refine Case.mk (fun _ => ?_) (fun _ => ?_) <;> conv => whnf)
    | (refine Way.fst ?_; conv => whnf)
  · exact Fin.isI (by unfold see; rw [List.getElem?_eq_none (by omega)])
  · obtain ⟨c, hc⟩ : ∃ c, l[a + k]? = some c := ⟨_, List.getElem?_eq_getElem (by omega)⟩
    refine step_kinds 2 (by decide +kernel) ?_
    conv => whnf
    repeat' first
      | (refine Case.not ?_; conv => whnf)
      | (refine Case.yes ?_; conv => whnf)
      | (refine Case.no ?_; conv => whnf)
      | (refine Case.isTrue (by assumption) ?_; conv => whnf)
      | (refine Case.isFalse (by assumption) ?_; conv => whnf)
      | (refine Case.decT (by assumption) ?_; conv => whnf)
      | (refine Case.decF (by assumption) ?_; conv => whnf)
      | (refine Case.decT (by omega) ?_; conv => whnf)
      | (refine Case.decF (by omega) ?_; conv => whnf)
      | (refine Case.beqT (by omega) ?_; conv => whnf)
      | (refine Case.beqF (by omega) ?_; conv => whnf)
      | (refine Owes.mk (by simp [ptsF]) ?_; conv => whnf)
      | (refine Elem.mk (a + k) _ (by omega) (ptsF_get hc) ?_; conv => whnf)
      | (refine (right_spec c).call ⟨rfl, rfl⟩ ?_; conv => whnf)
      | (refine Num.id (by omega) (by omega) ?_; conv => whnf)
      | (refine Case.dec (fun _ => ?_) (fun _ => ?_) <;> conv => whnf)
      | (refine Case.beqI (fun _ => ?_) (fun _ => ?_) <;> conv => whnf)
      | (refine Case.mk (fun _ => ?_) (fun _ => ?_) <;> conv => whnf)
      | (refine Way.fst ?_; conv => whnf)
    all_goals (refine Fin.isI ?_; simp_all [see])
theorem see_at (l : List Int) (hl : l.length < 1000000000) (a : Nat) (ha : a < 2000000000) (k : Int) (i : Nat) (hi : (a : Int) + k = i) (h0 : 0 ≤ k) (hk : k < 1000) : Pure 34 [rip l a, int k] (int (see l i)) := by
  obtain ⟨m, rfl⟩ : ∃ m : Nat, k = m := ⟨k.toNat, by omega⟩
  have : i = a + m := by omega
  subst this
  exact see_spec l hl a m ha (by omega)
/-- Of the reader's object, to one who looks. -/
abbrev rdr (l : List Int) (a : Nat) : Cells := [.f (.sl (ptsF l)), int a]
def escape (l : List Int) (i : Nat) : Bool := decide (see l i = 92) && decide (0 ≤ see l (i + 1)) && !decide (see l (i + 1) = 10)
theorem escape_spec (l : List Int) (hl : l.length < 1000000000) (a k : Nat) (ha : a < 2000000000) (hk : k < 900) : Pure 40 [rip l a, int k] (bool (escape l (a + k))) := by
  refine .mk trivial (spec_mk tab_ok Try.func40 (by rfl) rfl ?_)
  conv => whnf
  repeat' first
    | (refine Case.not ?_; conv => whnf)
    | (refine Case.yes ?_; conv => whnf)
    | (refine Case.no ?_; conv => whnf)
    | (refine Case.isTrue (by assumption) ?_; conv => whnf)
    | (refine Case.isFalse (by assumption) ?_; conv => whnf)
    | (refine Case.decT (by assumption) ?_; conv => whnf)
    | (refine Case.decF (by assumption) ?_; conv => whnf)
    | (refine Case.decT (by omega) ?_; conv => whnf)
    | (refine Case.decF (by omega) ?_; conv => whnf)
    | (refine Case.beqT (by omega) ?_; conv => whnf)
    | (refine Case.beqF (by omega) ?_; conv => whnf)
    | (refine (see_at l hl a ha _ (a + k) (by omega) (by omega) (by omega)).call ⟨rfl, rfl, rfl⟩ ?_; conv => whnf)
    | (refine (see_at l hl a ha _ (a + k + 1) (by omega) (by omega) (by omega)).call ⟨rfl, rfl, rfl⟩ ?_; conv => whnf)
    | (refine Num.id (by omega) (by omega) ?_; conv => whnf)
    | (refine Case.dec (fun _ => ?_) (fun _ => ?_) <;> conv => whnf)
    | (refine Case.beqI (fun _ => ?_) (fun _ => ?_) <;> conv => whnf)
    | (refine Case.mk (fun _ => ?_) (fun _ => ?_) <;> conv => whnf)
    | (refine Way.fst ?_; conv => whnf)
  all_goals (refine Fin.isB ?_; rw [Bool.eq_iff_iff]; simp only [escape, Bool.and_eq_true, Bool.or_eq_true, Bool.not_eq_true', decide_eq_true_eq, decide_eq_false_iff_not, beq_iff_eq, beq_eq_false_iff_ne, bne_iff_ne, ne_eq, Bool.false_eq_true, reduceCtorEq, iff_true, true_iff, iff_false, false_iff, not_true_eq_false, not_false_eq_true] at *; try omega)
theorem escape_at (l : List Int) (hl : l.length < 1000000000) (a : Nat) (ha : a < 2000000000) (k : Int) (i : Nat) (hi : (a : Int) + k = i) (h0 : 0 ≤ k) (hk : k < 900) : Pure 40 [rip l a, int k] (bool (escape l i)) := by
  obtain ⟨m, rfl⟩ : ∃ m : Nat, k = m := ⟨k.toNat, by omega⟩
  have : i = a + m := by omega
  subst this
  exact escape_spec l hl a m ha (by omega)
def begins (l : List Int) (i : Nat) : Bool := if see l i = 45 then nameStart (see l (i + 1)) || decide (see l (i + 1) = 45) || escape l (i + 1) else nameStart (see l i) || escape l i
theorem begins_at (l : List Int) (hl : l.length < 1000000000) (a : Nat) (ha : a < 2000000000) (k : Int) (i : Nat) (hi : (a : Int) + k = i) (h0 : 0 ≤ k) (hk : k < 800) : Pure 36 [rip l a, int k] (bool (begins l i)) := by
  refine .mk trivial (spec_mk tab_ok Try.func36 (by rfl) rfl ?_)
  conv => whnf
  repeat' first
    | (refine Case.not ?_; conv => whnf)
    | (refine Case.yes ?_; conv => whnf)
    | (refine Case.no ?_; conv => whnf)
    | (refine Case.isTrue (by assumption) ?_; conv => whnf)
    | (refine Case.isFalse (by assumption) ?_; conv => whnf)
    | (refine Case.decT (by assumption) ?_; conv => whnf)
    | (refine Case.decF (by assumption) ?_; conv => whnf)
    | (refine Case.decT (by omega) ?_; conv => whnf)
    | (refine Case.decF (by omega) ?_; conv => whnf)
    | (refine Case.beqT (by omega) ?_; conv => whnf)
    | (refine Case.beqF (by omega) ?_; conv => whnf)
    | (refine (see_at l hl a ha _ i (by omega) (by omega) (by omega)).call ⟨rfl, rfl, rfl⟩ ?_; conv => whnf)
    | (refine (see_at l hl a ha _ (i + 1) (by omega) (by omega) (by omega)).call ⟨rfl, rfl, rfl⟩ ?_; conv => whnf)
    | (refine (escape_at l hl a ha _ i (by omega) (by omega) (by omega)).call ⟨rfl, rfl, rfl⟩ ?_; conv => whnf)
    | (refine (escape_at l hl a ha _ (i + 1) (by omega) (by omega) (by omega)).call ⟨rfl, rfl, rfl⟩ ?_; conv => whnf)
    | (refine (nameStart_spec _).call ⟨rfl, rfl⟩ ?_; conv => whnf)
    | (refine Num.id (by omega) (by omega) ?_; conv => whnf)
    | (refine Case.dec (fun _ => ?_) (fun _ => ?_) <;> conv => whnf)
    | (refine Case.beqI (fun _ => ?_) (fun _ => ?_) <;> conv => whnf)
    | (refine Case.mk (fun _ => ?_) (fun _ => ?_) <;> conv => whnf)
    | (refine Way.fst ?_; conv => whnf)
  all_goals (refine Fin.isB ?_; simp_all [begins])
def number (l : List Int) (i : Nat) : Bool := if see l i = 43 ∨ see l i = 45 then digit (see l (i + 1)) || (decide (see l (i + 1) = 46) && digit (see l (i + 2))) else digit (see l i) || (decide (see l i = 46) && digit (see l (i + 1)))
theorem number_spec (l : List Int) (hl : l.length < 1000000000) (a : Nat) (ha : a < 2000000000) : Pure 35 [rip l a] (bool (number l a)) := by
  refine .mk trivial (spec_mk tab_ok Try.func35 (by rfl) rfl ?_)
  conv => whnf
  repeat' first
    | (refine Case.not ?_; conv => whnf)
    | (refine Case.yes ?_; conv => whnf)
    | (refine Case.no ?_; conv => whnf)
    | (refine Case.isTrue (by assumption) ?_; conv => whnf)
    | (refine Case.isFalse (by assumption) ?_; conv => whnf)
    | (refine Case.decT (by assumption) ?_; conv => whnf)
    | (refine Case.decF (by assumption) ?_; conv => whnf)
    | (refine Case.decT (by omega) ?_; conv => whnf)
    | (refine Case.decF (by omega) ?_; conv => whnf)
    | (refine Case.beqT (by omega) ?_; conv => whnf)
    | (refine Case.beqF (by omega) ?_; conv => whnf)
    | (refine (see_at l hl a ha _ a (by omega) (by omega) (by omega)).call ⟨rfl, rfl, rfl⟩ ?_; conv => whnf)
    | (refine (see_at l hl a ha _ (a + 1) (by omega) (by omega) (by omega)).call ⟨rfl, rfl, rfl⟩ ?_; conv => whnf)
    | (refine (see_at l hl a ha _ (a + 2) (by omega) (by omega) (by omega)).call ⟨rfl, rfl, rfl⟩ ?_; conv => whnf)
    | (refine (digit_spec _).call ⟨rfl, rfl⟩ ?_; conv => whnf)
    | (refine Num.id (by omega) (by omega) ?_; conv => whnf)
    | (refine Case.dec (fun _ => ?_) (fun _ => ?_) <;> conv => whnf)
    | (refine Case.beqI (fun _ => ?_) (fun _ => ?_) <;> conv => whnf)
    | (refine Case.mk (fun _ => ?_) (fun _ => ?_) <;> conv => whnf)
    | (refine Way.fst ?_; conv => whnf)
  all_goals (refine Fin.isB ?_; simp_all [number])
end Go.Proofs.Ytdfiegleaknleaa.Aw

namespace Go.Proofs.Ytdfiegleaknleaa.Aw
open Go Go.RowKit Go.Lib
set_option linter.unusedVariables false
set_option linter.unusedSimpArgs false
set_option maxRecDepth 100000
def b8 (x : Int) : UInt8 := UInt8.ofNat x.toNat
theorem b8_row {x : Int} (h0 : 0 ≤ x) (h1 : x < 256) : byteRow (b8 x) = [.v (.int .u8 x)] := by
  unfold byteRow b8
  have : ((UInt8.ofNat x.toNat).toNat : Int) = x := by
    rw [UInt8.toNat_ofNat']
    omega
  rw [this]
theorem wrap8 {x : Int} (h1 : 0 ≤ x) (h2 : x < 256) : IntKind.u8.wrap x = x := by
  have e1 : (2 ^ IntKind.u8.bits : Int) = 256 := by decide
  unfold IntKind.wrap
  rw [e1]
  simp only [show IntKind.u8.signed = false from rfl, Bool.false_and, Bool.false_eq_true, if_false]
  omega
theorem shr_eq {c : Int} (n : Nat) (hn : n ≤ 64) : shrI .i64 c n = c / 2 ^ n := by
  unfold shrI
  rw [show min (n : Int).toNat IntKind.i64.bits = n by show min (n : Int).toNat 64 = n; omega]
  rw [Int.fdiv_eq_ediv_of_nonneg _ (by have : (0 : Int) < 2 ^ n := Int.pow_pos (by decide); omega)]
theorem and63 {c : Int} (h0 : 0 ≤ c) (h1 : c < 9223372036854775808) : andI .i64 c 63 = c % 64 := by
  unfold andI
  obtain ⟨m, rfl⟩ : ∃ m : Nat, c = m := ⟨c.toNat, by omega⟩
  have e : (BitVec.ofInt IntKind.i64.bits (m : Int) &&& BitVec.ofInt IntKind.i64.bits 63).toNat = m % 64 := by
    rw [BitVec.toNat_and, BitVec.toNat_ofInt, BitVec.toNat_ofInt]
    have e1 : ((m : Int) % ((2 ^ IntKind.i64.bits : Nat) : Int)).toNat = m := by
      have : ((2 ^ IntKind.i64.bits : Nat) : Int) = 18446744073709551616 := by decide
      rw [this]; omega
    have e2 : ((63 : Int) % ((2 ^ IntKind.i64.bits : Nat) : Int)).toNat = 2 ^ 6 - 1 := by decide
    rw [e1, e2, Nat.and_two_pow_sub_one_eq_mod]
  rw [e]
  omega
theorem or_fin (k : Int) (n : Nat) (h : ∀ x : _root_.Fin n, orI .i64 k (x.val : Int) = k + x.val) {y : Int} (h0 : 0 ≤ y) (h1 : y < n) : orI .i64 k y = k + y := by
  obtain ⟨m, rfl⟩ : ∃ m : Nat, y = m := ⟨y.toNat, by omega⟩
  exact h ⟨m, by omega⟩
theorem or192 {y : Int} (h0 : 0 ≤ y) (h1 : y < 32) : orI .i64 192 y = 192 + y := or_fin 192 32 (by decide +kernel) h0 h1
theorem or224 {y : Int} (h0 : 0 ≤ y) (h1 : y < 16) : orI .i64 224 y = 224 + y := or_fin 224 16 (by decide +kernel) h0 h1
theorem or240 {y : Int} (h0 : 0 ≤ y) (h1 : y < 8) : orI .i64 240 y = 240 + y := or_fin 240 8 (by decide +kernel) h0 h1
theorem or128 {y : Int} (h0 : 0 ≤ y) (h1 : y < 64) : orI .i64 128 y = 128 + y := or_fin 128 64 (by decide +kernel) h0 h1
/-- A right code point's bytes. -/
def utfB (c : Int) : List UInt8 :=
  if c < 128 then [b8 c] else if c < 2048 then [b8 (192 + c / 64), b8 (128 + c % 64)]
  else if c < 65536 then [b8 (224 + c / 4096), b8 (128 + c / 64 % 64), b8 (128 + c % 64)]
  else [b8 (240 + c / 262144), b8 (128 + c / 4096 % 64), b8 (128 + c / 64 % 64), b8 (128 + c % 64)]
def putB (c : Int) : List UInt8 := utfB (if right c then c else 65533)
theorem utf1 {c : Int} (h0 : 0 ≤ c) (h : c < 128) : [[F.v (.int .u8 (IntKind.u8.wrap c))]] = (utfB c).map byteRow := by
  unfold utfB
  rw [if_pos h, wrap8 h0 (by omega), List.map_cons, b8_row h0 (by omega)]
  rfl
theorem utf2 {c : Int} (h0 : ¬ c < 128) (h : c < 2048) : [[F.v (.int .u8 (IntKind.u8.wrap (IntKind.i64.wrap (orI .i64 192 (shrI .i64 c 6)))))], [F.v (.int .u8 (IntKind.u8.wrap (IntKind.i64.wrap (orI .i64 128 (IntKind.i64.wrap (andI .i64 c 63))))))]] = (utfB c).map byteRow := by
  unfold utfB
  have e1 : shrI .i64 c 6 = c / 64 := shr_eq 6 (by omega)
  rw [if_neg h0, if_pos h, e1, and63 (by omega) (by omega), or192 (by omega) (by omega), wrap_id (by omega) (by omega), wrap_id (x := c % 64) (by omega) (by omega), or128 (by omega) (by omega), wrap_id (by omega) (by omega), wrap8 (by omega) (by omega), wrap8 (by omega) (by omega), List.map_cons, List.map_cons, b8_row (by omega) (by omega), b8_row (by omega) (by omega)]
  rfl
theorem utf3 {c : Int} (h0 : ¬ c < 128) (h1 : ¬ c < 2048) (h : c < 65536) : [[F.v (.int .u8 (IntKind.u8.wrap (IntKind.i64.wrap (orI .i64 224 (shrI .i64 c 12)))))], [F.v (.int .u8 (IntKind.u8.wrap (IntKind.i64.wrap (orI .i64 128 (IntKind.i64.wrap (andI .i64 (shrI .i64 c 6) 63))))))], [F.v (.int .u8 (IntKind.u8.wrap (IntKind.i64.wrap (orI .i64 128 (IntKind.i64.wrap (andI .i64 c 63))))))]] = (utfB c).map byteRow := by
  unfold utfB
  have e1 : shrI .i64 c 6 = c / 64 := shr_eq 6 (by omega)
  have e2 : shrI .i64 c 12 = c / 4096 := shr_eq 12 (by omega)
  rw [if_neg h0, if_neg h1, if_pos h, e1, e2, and63 (c := c) (by omega) (by omega), and63 (c := c / 64) (by omega) (by omega), or224 (by omega) (by omega), wrap_id (x := 224 + c / 4096) (by omega) (by omega), wrap_id (x := c % 64) (by omega) (by omega), wrap_id (x := c / 64 % 64) (by omega) (by omega), or128 (y := c % 64) (by omega) (by omega), or128 (y := c / 64 % 64) (by omega) (by omega), wrap_id (x := 128 + c % 64) (by omega) (by omega), wrap_id (x := 128 + c / 64 % 64) (by omega) (by omega), wrap8 (by omega) (by omega), wrap8 (by omega) (by omega), wrap8 (by omega) (by omega), List.map_cons, List.map_cons, List.map_cons, b8_row (by omega) (by omega), b8_row (by omega) (by omega), b8_row (by omega) (by omega)]
  rfl
theorem utf4 {c : Int} (h0 : ¬ c < 128) (h1 : ¬ c < 2048) (h2 : ¬ c < 65536) (h : c ≤ 1114111) : [[F.v (.int .u8 (IntKind.u8.wrap (IntKind.i64.wrap (orI .i64 240 (shrI .i64 c 18)))))], [F.v (.int .u8 (IntKind.u8.wrap (IntKind.i64.wrap (orI .i64 128 (IntKind.i64.wrap (andI .i64 (shrI .i64 c 12) 63))))))], [F.v (.int .u8 (IntKind.u8.wrap (IntKind.i64.wrap (orI .i64 128 (IntKind.i64.wrap (andI .i64 (shrI .i64 c 6) 63))))))], [F.v (.int .u8 (IntKind.u8.wrap (IntKind.i64.wrap (orI .i64 128 (IntKind.i64.wrap (andI .i64 c 63))))))]] = (utfB c).map byteRow := by
  unfold utfB
  have e1 : shrI .i64 c 6 = c / 64 := shr_eq 6 (by omega)
  have e2 : shrI .i64 c 12 = c / 4096 := shr_eq 12 (by omega)
  have e3 : shrI .i64 c 18 = c / 262144 := shr_eq 18 (by omega)
  rw [if_neg h0, if_neg h1, if_neg h2, e1, e2, e3, and63 (c := c) (by omega) (by omega), and63 (c := c / 64) (by omega) (by omega), and63 (c := c / 4096) (by omega) (by omega), or240 (by omega) (by omega), wrap_id (x := 240 + c / 262144) (by omega) (by omega), wrap_id (x := c % 64) (by omega) (by omega), wrap_id (x := c / 64 % 64) (by omega) (by omega), wrap_id (x := c / 4096 % 64) (by omega) (by omega), or128 (y := c % 64) (by omega) (by omega), or128 (y := c / 64 % 64) (by omega) (by omega), or128 (y := c / 4096 % 64) (by omega) (by omega), wrap_id (x := 128 + c % 64) (by omega) (by omega), wrap_id (x := 128 + c / 64 % 64) (by omega) (by omega), wrap_id (x := 128 + c / 4096 % 64) (by omega) (by omega), wrap8 (by omega) (by omega), wrap8 (by omega) (by omega), wrap8 (by omega) (by omega), wrap8 (by omega) (by omega), List.map_cons, List.map_cons, List.map_cons, List.map_cons, b8_row (by omega) (by omega), b8_row (by omega) (by omega), b8_row (by omega) (by omega), b8_row (by omega) (by omega)]
  rfl
theorem Fin.bytes {bs xs : List UInt8} {rows : List (List F)} {H : Hp} {n : Nat} (e : rows = xs.map byteRow) : Fin (.own 0 5 1 (bs.map byteRow ++ rows)) H n 0 1 (fun d H => H = [] ∧ d = .own 0 5 1 ((bs ++ xs).map byteRow)) := by
  subst e
  rw [← List.map_append]
  exact Fin.mk (.own 0 5 1 ((bs ++ xs).map byteRow)) [] ⟨rfl, rfl⟩ rfl ⟨by unfold intoL intoL intoD; exact ⟨⟨rfl, by decide⟩, rfl⟩, by unfold intoH; cases H <;> trivial⟩
theorem right_le {c : Int} (h : right c = true) : 0 ≤ c ∧ c ≤ 1114111 := by
  simp only [right, Bool.and_eq_true, decide_eq_true_eq] at h
  exact h.1
theorem put_spec (bs : List UInt8) (hb : bs.length < 1000000000) (c : Int) : Spec P 55 [.own 0 5 1 (bs.map byteRow), int c] [] 1 (fun d H => H = [] ∧ d = .own 0 5 1 ((bs ++ putB c).map byteRow)) := by
  refine spec_mk tab_ok Try.func55 (by rfl) rfl ?_
  conv => whnf
  repeat' first
    | (refine Case.not ?_; conv => whnf)
    | (refine Case.yes ?_; conv => whnf)
    | (refine Case.no ?_; conv => whnf)
    | (refine Case.isTrue (by assumption) ?_; conv => whnf)
    | (refine Case.isFalse (by assumption) ?_; conv => whnf)
    | (refine Case.decT (by assumption) ?_; conv => whnf)
    | (refine Case.decF (by assumption) ?_; conv => whnf)
    | (refine Case.decT (by omega) ?_; conv => whnf)
    | (refine Case.decF (by omega) ?_; conv => whnf)
    | (refine Case.beqT (by omega) ?_; conv => whnf)
    | (refine Case.beqF (by omega) ?_; conv => whnf)
    | (refine (right_spec c).call ⟨rfl, rfl⟩ ?_; conv => whnf)
    | (refine Owes.mk (by first | omega | (simp; omega)) ?_; conv => whnf)
    | (refine Num.wrap ?_; conv => whnf)
    | (refine Num.id (by omega) (by omega) ?_; conv => whnf)
    | (refine Case.dec (fun _ => ?_) (fun _ => ?_) <;> conv => whnf)
    | (refine Case.beqI (fun _ => ?_) (fun _ => ?_) <;> conv => whnf)
    | (refine Case.mk (fun _ => ?_) (fun _ => ?_) <;> conv => whnf)
    | (refine Way.fst ?_; conv => whnf)
  all_goals refine Fin.bytes ?_
  all_goals unfold putB
  · have hr := right_le (by assumption : right c = true)
    rw [if_pos (by assumption)]; exact utf1 hr.1 (by assumption)
  · rw [if_pos (by assumption)]; exact utf2 (by assumption) (by assumption)
  · rw [if_pos (by assumption)]; exact utf3 (by assumption) (by assumption) (by assumption)
  · have hr := right_le (by assumption : right c = true)
    rw [if_pos (by assumption)]; exact utf4 (by assumption) (by assumption) (by assumption) hr.2
  · rw [if_neg (by simp [(by assumption : right c = false)])]; exact utf3 (by omega) (by omega) (by omega)
end Go.Proofs.Ytdfiegleaknleaa.Aw

namespace Go.Proofs.Ytdfiegleaknleaa.Aw
open Go Go.RowKit Go.Lib
set_option linter.unusedVariables false
set_option linter.unusedSimpArgs false
set_option maxRecDepth 100000
/-- An end of one of the reader's methods. -/
theorem Fin.rd {d : D} {l : List Int} {p : Int} {more : Hp} {n : Nat} {R : D → Hp → Prop} (a : Nat) (hs : scalD d) (hp : p = a) (hR : R d [some (rdr l a)]) : Fin d (some [.f (.sl (ptsF l)), int p] :: more) n 1 0 R := by
  subst hp
  exact Fin.mk d [some (rdr l a)] hR rfl ⟨by unfold intoL; exact ⟨into_scal _ _ _ d hs, by unfold intoL; rfl⟩, ⟨rfl, rfl, rfl⟩, by unfold intoH; cases more <;> trivial⟩
theorem hex_le (c : Int) : -1 ≤ hex c ∧ hex c ≤ 15 := by
  unfold hex
  repeat' split
  all_goals omega
theorem see_lt {l : List Int} {i : Nat} (h : 0 ≤ see l i) : i < l.length := by
  unfold see at h
  rcases Nat.lt_or_ge i l.length with h1 | h1
  · exact h1
  · rw [List.getElem?_eq_none h1] at h; simp at h
theorem hex_see {l : List Int} {i : Nat} (h : 0 ≤ hex (see l i)) : i < l.length := see_lt (by unfold hex at h; (repeat' split at h) <;> omega)
theorem white_see {l : List Int} {i : Nat} (h : white (see l i) = true) : i < l.length := see_lt (by simp only [white, Bool.or_eq_true, decide_eq_true_eq] at h; omega)
def hexRun (l : List Int) : Nat → Nat → Int → Nat × Int
  | 0, p, n => (p, n)
  | k + 1, p, n => if 0 ≤ hex (see l p) then hexRun l k (p + 1) (n * 16 + hex (see l p)) else (p, n)
def escapedV (l : List Int) (a : Nat) : Int := if hex (see l (a + 1)) < 0 then see l (a + 1) else
  let n := (hexRun l 6 (a + 1) 0).2
  if n = 0 ∨ right n = false then 65533 else n
def escapedP (l : List Int) (a : Nat) : Nat := if hex (see l (a + 1)) < 0 then a + 2 else
  let p := (hexRun l 6 (a + 1) 0).1
  if white (see l p) then p + 1 else p
theorem p16 : ∀ j : Nat, j ≤ 6 → (16 : Int) ^ j ≤ 16777216 := by
  intro j hj
  have : j = 0 ∨ j = 1 ∨ j = 2 ∨ j = 3 ∨ j = 4 ∨ j = 5 ∨ j = 6 := by omega
  rcases this with rfl | rfl | rfl | rfl | rfl | rfl | rfl <;> decide
structure EscI (l : List Int) (a : Nat) (s : Nat × Nat × Int) : Prop where
  j : s.1 ≤ 6
  p : s.2.1 ≤ a + 1 + s.1
  n0 : 0 ≤ s.2.2
  n1 : s.2.2 < 16 ^ s.1
  run : hexRun l (6 - s.1) s.2.1 s.2.2 = hexRun l 6 (a + 1) 0
theorem hexRun_end {l : List Int} {j p : Nat} {n : Int} {r : Nat × Int} (h5 : hexRun l (6 - j) p n = r) (h1 : j ≤ 6) (h : ¬ (j : Int) < 6 ∨ ¬ 0 ≤ hex (see l p)) : r = (p, n) := by
  rw [← h5]
  rcases Nat.lt_or_ge j 6 with h2 | h2
  · rw [show 6 - j = (5 - j) + 1 by omega, hexRun, if_neg (by omega)]
  · rw [show 6 - j = 0 by omega]; rfl
theorem escapedV_of {l : List Int} {a p : Nat} {n : Int} (h : ¬ hex (see l (a + 1)) < 0) (hx : hexRun l 6 (a + 1) 0 = (p, n)) : escapedV l a = if n = 0 ∨ right n = false then 65533 else n := by
  unfold escapedV; rw [if_neg h, hx]
theorem escapedP_of {l : List Int} {a p : Nat} {n : Int} (h : ¬ hex (see l (a + 1)) < 0) (hx : hexRun l 6 (a + 1) 0 = (p, n)) : escapedP l a = if white (see l p) then p + 1 else p := by
  unfold escapedP; rw [if_neg h, hx]
theorem escaped_spec (l : List Int) (hl : l.length < 1000000000) (a : Nat) (ha : a < 1900000000) : Spec P 54 [.ptr 0 0] [some (rdr l a)] 0 (fun d H => d = int (escapedV l a) ∧ H = [some (rdr l (escapedP l a))]) := by
  refine spec_mk tab_ok Try.func54 (by rfl) rfl ?_
  conv => whnf
  repeat' first
    | (refine Case.not ?_; conv => whnf)
    | (refine Case.yes ?_; conv => whnf)
    | (refine Case.no ?_; conv => whnf)
    | (refine Case.isTrue (by assumption) ?_; conv => whnf)
    | (refine Case.isFalse (by assumption) ?_; conv => whnf)
    | (refine Case.decT (by assumption) ?_; conv => whnf)
    | (refine Case.decF (by assumption) ?_; conv => whnf)
    | (refine Case.decT (by omega) ?_; conv => whnf)
    | (refine Case.decF (by omega) ?_; conv => whnf)
    | (refine Case.beqT (by omega) ?_; conv => whnf)
    | (refine Case.beqF (by omega) ?_; conv => whnf)
    | (refine (see_at l hl (a+1) (by omega) _ (a + 1) (by omega) (by omega) (by omega)).call ⟨⟨rfl, rfl, trivial⟩, rfl, rfl⟩ ?_; conv => whnf)
    | (refine (hex_spec _).call ⟨rfl, rfl⟩ ?_; conv => whnf)
    | (refine Num.id (by omega) (by omega) ?_; conv => whnf)
    | (refine Case.dec (fun _ => ?_) (fun _ => ?_) <;> conv => whnf)
    | (refine Case.beqI (fun _ => ?_) (fun _ => ?_) <;> conv => whnf)
    | (refine Case.mk (fun _ => ?_) (fun _ => ?_) <;> conv => whnf)
    | (refine Way.fst ?_; conv => whnf)
  · refine Fin.rd (a + 2) trivial (by omega) ⟨?_, ?_⟩
    · unfold escapedV; rw [if_pos (by assumption)]
    · unfold escapedP; rw [if_pos (by assumption)]
  · refine step_loop tab_ok (fun s => padK [.ptr 0 0, .junk, .junk, .junk, int s.2.2, int s.1] 67) (fun s => [some (rdr l s.2.1)]) 0 (EscI l a) (fun s => 6 - s.1) (0, a + 1, 0) ⟨by simp, by simp, by simp, by simp, rfl⟩ (fun _ => rfl) ?_ ?_
    ·
      repeat' first | exact trivial | exact rfl | exact (by decide : (0 : Nat) < 1) | exact Nat.le_refl _ | exact Nat.zero_lt_succ _ | exact congrArg int (by (try dsimp only); omega) | exact congrArg bool (by (try dsimp only); simp; omega) | (show _ < List.length _; simp; done) | apply And.intro
    · rintro ⟨j, p, n⟩ ⟨h1, h2, h3, h4, h5⟩
      simp only at h1 h2 h3 h4 h5
      dsimp only
      have hb := p16 j h1
      have hh := hex_le (see l p)
      conv => whnf
      repeat' first
        | (refine Case.not ?_; conv => whnf)
        | (refine Case.yes ?_; conv => whnf)
        | (refine Case.no ?_; conv => whnf)
        | (refine Case.isTrue (by assumption) ?_; conv => whnf)
        | (refine Case.isFalse (by assumption) ?_; conv => whnf)
        | (refine Case.decT (by assumption) ?_; conv => whnf)
        | (refine Case.decF (by assumption) ?_; conv => whnf)
        | (refine Case.decT (by omega) ?_; conv => whnf)
        | (refine Case.decF (by omega) ?_; conv => whnf)
        | (refine Case.beqT (by omega) ?_; conv => whnf)
        | (refine Case.beqF (by omega) ?_; conv => whnf)
        | (refine (see_at l hl p (by omega) _ p (by omega) (by omega) (by omega)).call ⟨⟨rfl, rfl, trivial⟩, rfl, rfl⟩ ?_; conv => whnf)
        | (refine (hex_spec _).call ⟨rfl, rfl⟩ ?_; conv => whnf)
        | (refine (white_spec _).call ⟨rfl, rfl⟩ ?_; conv => whnf)
        | (refine (right_spec _).call ⟨rfl, rfl⟩ ?_; conv => whnf)
        | (refine Num.id (by omega) (by omega) ?_; conv => whnf)
        | (refine Case.dec (fun _ => ?_) (fun _ => ?_) <;> conv => whnf)
        | (refine Case.beqI (fun _ => ?_) (fun _ => ?_) <;> conv => whnf)
        | (refine Case.mk (fun _ => ?_) (fun _ => ?_) <;> conv => whnf)
        | (refine Way.fst ?_; conv => whnf)
      · refine ⟨(j + 1, p + 1, n * 16 + hex (see l p)), ⟨by dsimp only; omega, by dsimp only; omega, by dsimp only; omega, by dsimp only; rw [Int.pow_succ]; omega, ?_⟩, by dsimp only; omega, ?_⟩
        · dsimp only
          rw [← h5, show 6 - j = (6 - (j + 1)) + 1 by omega, hexRun, if_pos (by omega)]
        ·
          repeat' first | exact trivial | exact rfl | exact (by decide : (0 : Nat) < 1) | exact Nat.le_refl _ | exact Nat.zero_lt_succ _ | exact congrArg int (by (try dsimp only); omega) | exact congrArg bool (by (try dsimp only); simp; omega) | (show _ < List.length _; simp; done) | apply And.intro
      all_goals have hx := hexRun_end h5 h1 (by omega)
      all_goals have eV := escapedV_of (by assumption : ¬ hex (see l (a + 1)) < 0) hx
      all_goals have eP := escapedP_of (by assumption : ¬ hex (see l (a + 1)) < 0) hx
      all_goals rw [eV, eP]
      all_goals first
        | (refine Fin.rd p trivial (by omega) ⟨?_, ?_⟩ <;> simp [*]; done)
        | (refine Fin.rd (p + 1) trivial (by omega) ⟨?_, ?_⟩ <;> simp [*]; done)
end Go.Proofs.Ytdfiegleaknleaa.Aw

