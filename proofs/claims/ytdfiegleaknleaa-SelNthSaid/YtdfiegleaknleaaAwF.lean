/- What each plain operation makes of a state, and that the machine does just that. -/
/- The plain operations on abstract values, and that the machine does just that. -/
/- Reads, addresses and fields on abstract values, and that the machine does just that. -/
import Derived.Test.YtdfiegleaknleaaAwC
import Derived.WalkKit
import Derived.Laws.Bits
namespace Go.Proofs.Ytdfiegleaknleaa.Aw
open Go Go.RowKit
set_option linter.unusedVariables false
set_option linter.unusedSimpArgs false

theorem forceV_eq (x : Value) (K : Value → Prop) : forceV x K = K x := by cases x <;> rfl
theorem force_eq (d : D) (K : D → Prop) : force d K = K d := by
  cases d with
  | f x => cases x with
    | v x => exact forceV_eq x (fun x => K (.f (.v x)))
    | sl es => rfl
  | _ => rfl
theorem evK_eq (E : List D) (x : Operand) (K : D → Prop) : evK E x K = K (ev E x) := force_eq _ _
theorem setK_eq : ∀ (E : List D) (i : Nat) (d : D) (K : List D → Prop), setK E i d K = K (E.set i d)
  | [], _, _, _ => rfl
  | _ :: _, 0, _, _ => rfl
  | x :: E, i + 1, d, K => setK_eq E i d (fun E' => K (x :: E'))
theorem dropL_eq {α : Type} : ∀ (n : Nat) (l : List α), dropL n l = l.drop n
  | 0, _ => rfl
  | _ + 1, [] => rfl
  | n + 1, _ :: l => dropL_eq n l
theorem takeK_open {α : Type} : ∀ (n : Nat) (l : List α) (K : List α → Prop), takeK n l K → n ≤ l.length ∧ K (l.take n)
  | 0, l, K, h => ⟨Nat.zero_le _, h⟩
  | _ + 1, [], K, h => h.elim
  | n + 1, x :: l, K, h => by
    obtain ⟨h1, h2⟩ := takeK_open n l (fun l' => K (x :: l')) h
    exact ⟨by simpa using h1, h2⟩
theorem mapFK_open : ∀ (l : List F) (K : List D → Prop), mapFK l K → K (l.map .f)
  | [], K, h => h
  | x :: l, K, h => mapFK_open l (fun l' => K (.f x :: l')) h
theorem overK_open {α : Type} : ∀ (cs : List α) (n : Nat) (ys : List α) (K : List α → Prop), overK cs n ys K → (ys = [] ∨ n + ys.length ≤ cs.length) ∧ K (if ys = [] then cs else cs.take n ++ ys ++ cs.drop (n + ys.length))
  | cs, n, [], K, h => by
    unfold overK at h
    exact ⟨.inl rfl, by simpa using h⟩
  | [], _, _ :: _, _, h => h.elim
  | c :: cs, 0, y :: ys, K, h => by
    unfold overK at h
    obtain ⟨h1, h2⟩ := overK_open cs 0 ys _ h
    refine ⟨.inr ?_, ?_⟩
    · rcases h1 with rfl | h1
      · simp
      · simp at h1 ⊢; omega
    · by_cases hy : ys = []
      · subst hy; simpa using h2
      · simp [hy] at h2 ⊢
        have : 0 + (ys.length + 1) = ys.length + 1 := by omega
        exact h2
  | c :: cs, n + 1, y :: ys, K, h => by
    unfold overK at h
    obtain ⟨h1, h2⟩ := overK_open cs n (y :: ys) _ h
    refine ⟨.inr ?_, ?_⟩
    · rcases h1 with h1 | h1
      · cases h1
      · simp at h1 ⊢; omega
    · simp at h2 ⊢
      rw [show n + 1 + (ys.length + 1) = (n + (ys.length + 1)) + 1 by omega]
      exact h2
theorem setHK_eq : ∀ (H : Hp) (i : Nat) (d : Option Cells) (K : Hp → Prop), setHK H i d K = K (H.set i d)
  | [], _, _, _ => rfl
  | _ :: _, 0, _, _ => rfl
  | x :: E, i + 1, d, K => setHK_eq E i d (fun E' => K (x :: E'))
theorem pushHK_eq : ∀ (H : Hp) (d : Option Cells) (K : Hp → Prop), pushHK H d K = K (H ++ [d])
  | [], _, _ => rfl
  | x :: E, d, K => pushHK_eq E d (fun E' => K (x :: E'))

/-! Values of the text. -/
section
variable {c : Cx} {w : World}
theorem rep_ofC (x : Value) : Rep c w (ofC x) x := by
  unfold ofC
  split
  · simp [Rep]
  · simp [Rep]
  · simp [Rep]
  · rename_i h1 h2
    unfold Rep RepF
    refine ⟨rfl, ?_⟩
    cases x <;> first | rfl | (exact absurd rfl (h1 _)) | (exact absurd rfl (h2 _))
theorem repL_ofCs : ∀ (l : List Value), RepL c w (ofCs l) l
  | [] => repL_nil
  | x :: l => repL_cons (rep_ofC x) (repL_ofCs l)
theorem rep_ofV (x : Value) : Rep c w (ofV x) x := by
  unfold ofV
  split
  · rename_i cs
    unfold Rep
    exact ⟨cs.toList, rfl, repL_ofCs _⟩
  · simp [Rep]
  · simp [Rep]
  · rename_i g
    unfold Rep
    exact ⟨[], rfl, repL_nil⟩
  · rename_i h1 h2 h3 h4
    unfold Rep RepF
    refine ⟨rfl, ?_⟩
    cases x <;> first | rfl | (exact absurd rfl (h1 _)) | (exact absurd rfl (h3 _))
theorem rep_ev {E : List D} {a : Act} (h : RepL c w E a.tmps.toList) (x : Operand) : Rep c w (ev E x) (a.eval x) := by
  cases x with
  | tmp t =>
    have := h.get t
    simp only [ev, Act.eval]
    simpa [Array.getD_eq_getD_getElem?, List.getD_eq_getElem?_getD] using this
  | const v => exact rep_ofV v
  | global g => simp [ev, Rep]
  | func f => unfold ev Act.eval Rep; exact ⟨[], rfl, repL_nil⟩
end
theorem repL_put {c : Cx} {w : World} {E : List D} {a : Act} {d : D} {v : Value} (h : RepL c w E a.tmps.toList) (hv : Rep c w d v) (dst : Option Nat) {K : List D → Prop} (hk : putK E dst d K) :
    ∃ E', K E' ∧ RepL c w E' (a.put dst v).tmps.toList := by
  cases dst with
  | none => exact ⟨E, hk, h⟩
  | some i =>
    have hk' : setK E i d K := hk
    rw [setK_eq] at hk'
    refine ⟨E.set i d, hk', ?_⟩
    simpa [Act.put] using h.set i d v hv

/-! Layouts. -/
theorem tabOk_get {P : Program} : ∀ {T : List TI} {k : Nat}, TabOk P k T → ∀ (t : Nat) (ti : TI), T[t]? = some ti → ti.shut = false →
    P.underlying (k + t) = some ti.desc ∧ (P.info? (k + t)).map (fun i => (i.size, i.bytes, i.zero)) = some (ti.size, ti.bytes, some ti.zval) ∧ ti.zval.cells = ti.zero.toArray ∧ EqFit P (k + t) ti
  | [], _, _, _, _, h, _ => by simp at h
  | x :: T, k, hT, t, ti, h, hs => by
    unfold TabOk at hT
    cases t with
    | zero =>
      simp at h; subst h
      rcases hT.1 with h1 | h1
      · rw [hs] at h1; cases h1
      · simpa using h1
    | succ t =>
      have := tabOk_get hT.2 t ti (by simpa using h) hs
      rw [show k + (t + 1) = k + 1 + t by omega]
      exact this
structure Lay (P : Program) (t : Nat) (ti : TI) : Prop where
  und : P.underlying t = some ti.desc
  info : ∃ i, P.info? t = some i ∧ i.size = ti.size ∧ i.bytes = ti.bytes ∧ i.zero = some ti.zval
  zero : ti.zval.cells = ti.zero.toArray
  eq : EqFit P t ti
theorem tiK_open {P : Program} {T : Tab} (hT : TabOk P 0 T) {t : Nat} {K : TI → Prop} (h : tiK T t K) : ∃ ti, Lay P t ti ∧ K ti := by
  unfold tiK at h
  cases hg : T[t]? with
  | none => rw [hg] at h; exact h.elim
  | some ti =>
    rw [hg] at h
    cases hs : ti.shut with
    | true => simp [hs] at h
    | false =>
      simp [hs] at h
      obtain ⟨h1, h2, h3, h4⟩ := tabOk_get hT t ti hg hs
      rw [Nat.zero_add] at h1 h2 h4
      refine ⟨ti, ⟨h1, ?_, h3, h4⟩, h⟩
      cases hi : P.info? t with
      | none => rw [hi] at h2; cases h2
      | some i =>
        rw [hi] at h2
        simp at h2
        exact ⟨i, rfl, h2.1, h2.2.1, h2.2.2⟩
section
variable {P : Program} {t : Nat} {ti : TI} (L : Lay P t ti) (w : World)
include L
theorem Lay.run_underlying : (underlying t).run P w = .ok ti.desc w := Go.run_underlying L.und w
theorem Lay.run_typeInfo : ∃ i, (typeInfo t).run P w = .ok i w ∧ i.size = ti.size ∧ i.bytes = ti.bytes ∧ i.zero = some ti.zval := by
  obtain ⟨i, h, h2⟩ := L.info
  exact ⟨i, by simp [typeInfo, h], h2⟩
theorem Lay.run_sizeOf : (sizeOf t).run P w = .ok ti.size w := by
  obtain ⟨i, h, h2⟩ := L.run_typeInfo w
  simp [sizeOf, h, h2.1]
theorem Lay.run_zeroValue : (zeroValue t).run P w = .ok ti.zval w := by
  obtain ⟨i, h, h2⟩ := L.run_typeInfo w
  simp [zeroValue, h, h2.2.2]
theorem Lay.run_isAgg : (isAgg t).run P w = .ok ti.isAgg w := by
  simp only [isAgg, Sem.run_bind, L.run_underlying w, Result.andThen_ok]
  unfold TI.isAgg
  cases ti.desc <;> rfl
end
theorem addr_add (b o n : Nat) : (⟨b, o, none⟩ : Addr).add n = ⟨b, o + n, none⟩ := by unfold Addr.add; split <;> simp_all
theorem run_loadCells_at {P : Program} {w : World} {b o : Nat} (vs : List Value) (h : ∀ j v, vs[j]? = some v → w.cell? ⟨b, o + j, none⟩ = some v) : (loadCells ⟨b, o, none⟩ vs.length).run P w = .ok vs.toArray w :=
  run_loadCells_list w ⟨b, o, none⟩ vs (fun j v hv => by rw [addr_add]; exact h j v hv)
/-- A variable of a type is read. -/
theorem run_loadVar_at {P : Program} {w : World} {t b o : Nat} {ti : TI} (L : Lay P t ti) (vs : List Value) (hl : vs.length = if ti.isAgg then ti.size else 1) (h : ∀ j v, vs[j]? = some v → w.cell? ⟨b, o + j, none⟩ = some v) :
    (loadVar t ⟨b, o, none⟩).run P w = .ok (if ti.isAgg then .agg vs.toArray else vs.getD 0 undef) w := by
  unfold loadVar
  simp only [Sem.run_bind, L.run_isAgg w, Result.andThen_ok]
  cases hg : ti.isAgg with
  | true =>
    rw [hg] at hl
    simp only [if_true] at hl ⊢
    simp only [Sem.run_bind, L.run_sizeOf w, Result.andThen_ok, ← hl, run_loadCells_at vs h, Sem.run_pure]
  | false =>
    rw [hg] at hl
    simp only [Bool.false_eq_true, if_false] at hl ⊢
    obtain ⟨v, rfl⟩ : ∃ v, vs = [v] := by
      cases vs with
      | nil => simp at hl
      | cons v r => cases r with
        | nil => exact ⟨v, rfl⟩
        | cons _ _ => simp at hl
    have := h 0 v rfl
    simp only [run_load]
    rw [show (⟨b, o, none⟩ : Addr) = ⟨b, o + 0, none⟩ from rfl, this]
    rfl
end Go.Proofs.Ytdfiegleaknleaa.Aw

namespace Go.Proofs.Ytdfiegleaknleaa.Aw
open Go Go.RowKit
set_option linter.unusedVariables false
set_option linter.unusedSimpArgs false

def knd : IntKind → Nat
  | .i8 => 0 | .i16 => 1 | .i32 => 2 | .i64 => 3 | .u8 => 4 | .u16 => 5 | .u32 => 6 | .u64 => 7
theorem knd_inj {j k : IntKind} (h : Nat.beq (knd j) (knd k) = true) : j = k := by
  have := Nat.eq_of_beq_eq_true h
  cases j <;> cases k <;> first | rfl | (simp [knd] at this)
def andI (k : IntKind) (a b : Int) : Int := (BitVec.ofInt k.bits a &&& BitVec.ofInt k.bits b).toNat
def orI (k : IntKind) (a b : Int) : Int := (BitVec.ofInt k.bits a ||| BitVec.ofInt k.bits b).toNat
def xorI (k : IntKind) (a b : Int) : Int := (BitVec.ofInt k.bits a ^^^ BitVec.ofInt k.bits b).toNat
def shlI (k : IntKind) (a b : Int) : Int := a * 2 ^ (min b.toNat k.bits)
def shrI (k : IntKind) (a b : Int) : Int := a.fdiv (2 ^ (min b.toNat k.bits))
def binD (op : BinOp) (x y : D) (K : D → Prop) : Prop :=
  match x, y with
  | .f (.v (.int k a)), .f (.v (.int j b)) => bif Nat.beq (knd k) (knd j) then match op with
      | .add => Num k (a + b) fun r => K (.int k r)
      | .sub => Num k (a - b) fun r => K (.int k r)
      | .mul => Num k (a * b) fun r => K (.int k r)
      | .quo => Owes (b ≠ 0) (Num k (a.tdiv b) fun r => K (.int k r))
      | .rem => Owes (b ≠ 0) (K (.int k (a.tmod b)))
      | .and => Num k (andI k a b) fun r => K (.int k r)
      | .or => Num k (orI k a b) fun r => K (.int k r)
      | .xor => Num k (xorI k a b) fun r => K (.int k r)
      | .shl => Owes (0 ≤ b) (Num k (shlI k a b) fun r => K (.int k r))
      | .shr => Owes (0 ≤ b) (K (.int k (shrI k a b)))
      | .eql => K (.bool (a == b))
      | .neq => K (.bool (a != b))
      | .lss => K (.bool (decide (a < b)))
      | .leq => K (.bool (decide (a ≤ b)))
      | .gtr => K (.bool (decide (a > b)))
      | .geq => K (.bool (decide (a ≥ b)))
      | _ => False
    else match op with
      | .shl => Owes (0 ≤ b) (Num k (shlI k a b) fun r => K (.int k r))
      | .shr => Owes (0 ≤ b) (K (.int k (shrI k a b)))
      | _ => False
  | .f (.v (.string a)), .f (.v (.string b)) => match op with
      | .add => Owes (a.size + b.size ≤ 9223372036854775807) (K (.str (a ++ b)))
      | .eql => K (.bool (a.toList == b.toList))
      | .neq => K (.bool (!(a.toList == b.toList)))
      | _ => False
  | _, _ => False
def unD (op : UnOp) (x : D) (K : D → Prop) : Prop :=
  match op, x with
  | .not, .f (.v (.bool b)) => K (.bool (!b))
  | .neg, .f (.v (.int k a)) => Num k (0 - a) fun r => K (.int k r)
  | _, _ => False
/-- The bools of an equality of bools, which needs its type. -/
def boolD (op : BinOp) (x y : D) (K : D → Prop) : Prop :=
  match x, y with
  | .f (.v (.bool a)), .f (.v (.bool b)) => match op with
      | .eql => K (.bool (a == b))
      | .neq => K (.bool (!(a == b)))
      | _ => False
  | _, _ => False
theorem repF_v {imm : Nat → Prop} {w : World} {x y : Value} (h : RepF imm w (.v x) y) : y = x := by unfold RepF at h; exact h.1
theorem rep_v {c : Cx} {w : World} {x y : Value} (h : Rep c w (.f (.v x)) y) : y = x := by unfold Rep at h; exact repF_v h
theorem rep_of {c : Cx} {w : World} (x : Value) (h : x.oneCell' = true) : Rep c w (.f (.v x)) x := by unfold Rep RepF; exact ⟨rfl, h⟩
section
variable {P : Program} {c : Cx} {w : World}
theorem run_shl (w : World) (k : IntKind) (a : Int) (j : IntKind) (b : Int) (h : 0 ≤ b) : (Op.shift .shl k a j b).run P w = .ok (.int k (k.wrap (a * 2 ^ (min b.toNat k.bits)))) w := by
  simp [Op.shift, show ¬ b < 0 by omega]
theorem run_shr (w : World) (k : IntKind) (a : Int) (j : IntKind) (b : Int) (h : 0 ≤ b) : (Op.shift .shr k a j b).run P w = .ok (.int k (a.fdiv (2 ^ (min b.toNat k.bits)))) w := by
  simp [Op.shift, show ¬ b < 0 by omega]
theorem binD_sound {op : BinOp} {t : TypeId} {x y : D} {ox oy : Operand} {u v : Value} {K : D → Prop} (hx : Rep c w x u) (hy : Rep c w y v) (h : binD op x y K) :
    ∃ z, z.oneCell' = true ∧ K (.f (.v z)) ∧ ∀ w' : World, (do eqGuard op t ox oy u v; binOp op t u v : Sem Value).run P w' = .ok z w' := by
  unfold binD at h
  split at h
  · rename_i k a j b
    have e1 := rep_v hx
    have e2 := rep_v hy
    subst e1 e2
    have hg : ∀ (z : Value), (eqGuard op t ox oy (.int k a) z : Sem Unit) = pure () := fun z => by cases op <;> rfl
    simp only [hg, pure_bind]
    cases hk : Nat.beq (knd k) (knd j) with
    | true =>
      have := knd_inj hk
      subst this
      simp only [hk, cond_true] at h
      cases op <;> simp only at h <;> first
        | exact h.elim
        | (refine ⟨_, rfl, Num.open h, ?_⟩; intro w'; simp [binOp, Op.intArith]; done)
        | (obtain ⟨h0, h1⟩ := Owes.open h; refine ⟨_, rfl, Num.open h1, ?_⟩; intro w'; simp [binOp, Op.intDiv, h0]; done)
        | (obtain ⟨h0, h1⟩ := Owes.open h; refine ⟨_, rfl, h1, ?_⟩; intro w'; simp [binOp, Op.intDiv, h0]; done)
        | (obtain ⟨h0, h1⟩ := Owes.open h; refine ⟨_, rfl, Num.open h1, ?_⟩; intro w'; rw [binOp_shl]; exact run_shl w' k a _ b h0)
        | (obtain ⟨h0, h1⟩ := Owes.open h; refine ⟨_, rfl, h1, ?_⟩; intro w'; rw [binOp_shr]; exact run_shr w' k a _ b h0)
        | (refine ⟨_, rfl, h, ?_⟩; intro w'; simp [binOp, Op.intCmp]; done)
        | (refine ⟨_, rfl, Num.open h, ?_⟩; intro w'; simp only [binOp]; rfl)
        | (refine ⟨_, rfl, Num.open h, ?_⟩; intro w'; rw [binOp_and]; rfl)
        | (refine ⟨_, rfl, Num.open h, ?_⟩; intro w'; rw [binOp_or]; rfl)
        | (refine ⟨_, rfl, Num.open h, ?_⟩; intro w'; rw [binOp_xor]; rfl)
    | false =>
      simp only [hk, cond_false] at h
      cases op <;> simp only at h <;> first
        | exact h.elim
        | (obtain ⟨h0, h1⟩ := Owes.open h; refine ⟨_, rfl, Num.open h1, ?_⟩; intro w'; rw [binOp_shl]; exact run_shl w' k a _ b h0)
        | (obtain ⟨h0, h1⟩ := Owes.open h; refine ⟨_, rfl, h1, ?_⟩; intro w'; rw [binOp_shr]; exact run_shr w' k a _ b h0)
  · rename_i a b
    have e1 := rep_v hx
    have e2 := rep_v hy
    subst e1 e2
    have hg : ∀ (z : Value), (eqGuard op t ox oy (.string a) z : Sem Unit) = pure () := fun z => by cases op <;> rfl
    simp only [hg, pure_bind]
    cases op <;> simp only at h <;> first
      | exact h.elim
      | (obtain ⟨h0, h1⟩ := Owes.open h
         refine ⟨_, rfl, h1, ?_⟩
         intro w'
         have : ¬ (9223372036854775807 : Int) < (a.size : Int) + (b.size : Int) := by omega
         simp [binOp, Op.stringOp, IntKind.max, IntKind.signed, IntKind.bits, this])
      | (refine ⟨_, rfl, h, ?_⟩; intro w'; simp [binOp, Op.stringOp]; done)
  · exact h.elim
attribute [irreducible] andI orI xorI shlI shrI
theorem unD_sound {op : UnOp} {x : D} {u : Value} {K : D → Prop} (hx : Rep c w x u) (h : unD op x K) :
    ∃ z, z.oneCell' = true ∧ K (.f (.v z)) ∧ ∀ w' : World, (Op.unary op u).run P w' = .ok z w' := by
  unfold unD at h
  split at h
  · rename_i b
    have e1 := rep_v hx
    subst e1
    exact ⟨_, rfl, h, fun w' => by simp [Op.unary]⟩
  · rename_i k a
    have e1 := rep_v hx
    subst e1
    exact ⟨_, rfl, Num.open h, fun w' => by simp [Op.unary, Op.intArith]⟩
  · exact h.elim
theorem boolD_sound {op : BinOp} {t : TypeId} {x y : D} {ox oy : Operand} {u v : Value} {K : D → Prop} (ht : P.underlying t = some .bool) (hx : Rep c w x u) (hy : Rep c w y v) (h : boolD op x y K) :
    ∃ z, z.oneCell' = true ∧ K (.f (.v z)) ∧ ∀ w' : World, (do eqGuard op t ox oy u v; binOp op t u v : Sem Value).run P w' = .ok z w' := by
  unfold boolD at h
  split at h
  · rename_i a b
    have e1 := rep_v hx
    have e2 := rep_v hy
    subst e1 e2
    have hg : ∀ (z : Value), (eqGuard op t ox oy (.bool a) z : Sem Unit) = pure () := fun z => by cases op <;> rfl
    simp only [hg, pure_bind]
    cases op <;> simp only at h <;> first
      | exact h.elim
      | (refine ⟨_, rfl, h, ?_⟩; intro w'; simp [binOp, Op.equal, Op.maxDepth, run_equalIn_bool w' 9999 t a b ht]; done)
  · exact h.elim
end
end Go.Proofs.Ytdfiegleaknleaa.Aw

namespace Go.Proofs.Ytdfiegleaknleaa.Aw
open Go Go.RowKit
set_option linter.unusedVariables false
set_option linter.unusedSimpArgs false

/-- A value of a type, out of the cells that begin here. -/
def varK (ti : TI) (cs : List D) (K : D → Prop) : Prop :=
  bif ti.isAgg then takeK ti.size cs (fun l => K (.agg l)) else match cs with
    | d :: _ => force d K
    | [] => False
def varFK (ti : TI) (cs : List F) (K : D → Prop) : Prop :=
  bif ti.isAgg then takeK ti.size cs (fun l => mapFK l (fun l => K (.agg l))) else match cs with
    | x :: _ => force (.f x) K
    | [] => False
def loadD (T : Tab) (t : Nat) (p : D) (H : Hp) (K : D → Prop) : Prop :=
  match p with
  | .ptr k o => match H.getD k none with
    | some cs => tiK T t fun ti => varK ti (dropL o cs) K
    | none => False
  | .ip cs => tiK T t fun ti => varFK ti cs K
  | .optr _ _ s es i o => match es[i]? with
    | some e => tiK T t fun ti => varFK ti (dropL o e) K
    | none => False
  | _ => False
/-- A field's place and layout. -/
def offK (T : Tab) (t f : Nat) (K : Nat → TI → Prop) : Prop := tiK T t fun ti => match ti.desc with
  | .struct fs => match fs.toList[f]? with
    | some g => tiK T g.type fun u => K g.offset u
    | none => False
  | _ => False
def fieldAddrD (T : Tab) (t : Nat) (p : D) (f : Nat) (K : D → Prop) : Prop :=
  offK T t f fun o' u => bif Nat.beq u.size 0 then False else match p with
    | .ptr k o => numK (o + o') fun m => K (.ptr k m)
    | .ip cs => K (.ip (dropL o' cs))
    | .optr k e s es i o => numK (o + o') fun m => K (.optr k e s es i m)
    | _ => False
def fieldD (T : Tab) (t : Nat) (x : D) (f : Nat) (K : D → Prop) : Prop :=
  offK T t f fun o u => match x with
    | .agg cs => varK u (dropL o cs) K
    | _ => False
def indexAddrD (T : Tab) (t : Nat) (x i : D) (K : D → Prop) : Prop :=
  match x, i with
  | .f (.sl es), .f (.v (.int k i)) => tiK T t fun ti => match ti.desc with
    | .slice e => tiK T e fun u => Owes (∀ e ∈ es, e.length = u.size) (Elem es i (fun e => K (.ip e)))
    | _ => False
  | .own k e s es, .f (.v (.int _ i)) => tiK T t fun ti => match ti.desc with
    | .slice e' => tiK T e' fun u => Owes (s = u.size) (Elem es i (fun _ => K (.optr k e s es i.toNat 0)))
    | _ => False
  | .ptr k o, .f (.v (.int _ i)) => tiK T t fun ti => match ti.desc with
    | .array n e => tiK T e fun u => Owes (0 ≤ i ∧ i < n) (K (.ptr k (o + i.toNat * u.size)))
    | _ => False
  | .ip cs, .f (.v (.int _ i)) => tiK T t fun ti => match ti.desc with
    | .array n e => tiK T e fun u => Owes (0 ≤ i ∧ i < n) (K (.ip (cs.drop (i.toNat * u.size))))
    | _ => False
  | _, _ => False
def indexD (T : Tab) (t : Nat) (x i : D) (K : D → Prop) : Prop :=
  match x, i with
  | .f (.v (.string s)), .f (.v (.int _ i)) => tiK T t fun ti => match ti.desc with
    | .string => Byte s i (fun c => K (.int .u8 c.toNat))
    | _ => False
  | .agg cs, .f (.v (.int _ i)) => tiK T t fun ti => match ti.desc with
    | .array n e => tiK T e fun u => Owes (0 ≤ i ∧ i < n) (varK u (cs.drop (i.toNat * u.size)) K)
    | _ => False
  | _, _ => False
def lenD (T : Tab) (t : Nat) (x : D) (K : D → Prop) : Prop :=
  tiK T t fun ti => match ti.desc with
    | .slice _ => (match x with
      | .f (.sl es) => K (.int .i64 es.length)
      | .own _ _ _ es => K (.int .i64 es.length)
      | .nil => K (.int .i64 0)
      | _ => False)
    | .string => (match x with
      | .f (.v (.string s)) => K (.int .i64 s.size)
      | _ => False)
    | .array n _ => K (.int .i64 n)
    | _ => False

/-! The machine. -/
theorem RepC.get {imm : Nat → Prop} {w : World} : ∀ {xs : List F} {b o : Nat}, RepC imm w xs b o → ∀ (i : Nat) (x : F), xs[i]? = some x → ∃ y, w.cell? ⟨b, o + i, none⟩ = some y ∧ RepF imm w x y
  | [], _, _, _, _, _, e => by simp at e
  | x :: xs, b, o, h, i, z, e => by
    unfold RepC at h
    cases i with
    | zero => simp at e; subst e; exact h.1
    | succ i =>
      obtain ⟨y, h1, h2⟩ := RepC.get h.2 i z (by simpa using e)
      exact ⟨y, by rw [show o + (i + 1) = o + 1 + i by omega]; exact h1, h2⟩
theorem RepC.drop {imm : Nat → Prop} {w : World} : ∀ {xs : List F} {b o : Nat} (n : Nat), RepC imm w xs b o → RepC imm w (xs.drop n) b (o + n)
  | xs, b, o, 0, h => by simpa using h
  | [], b, o, n + 1, h => by simp [RepC]
  | x :: xs, b, o, n + 1, h => by
    unfold RepC at h
    have := RepC.drop (b := b) (o := o + 1) n h.2
    rw [show o + (n + 1) = o + 1 + n by omega]
    simpa using this
theorem RepR.get {imm : Nat → Prop} {w : World} {s : Nat} : ∀ {es : List (List F)} {b o : Nat}, RepR imm w es b o → (∀ e ∈ es, e.length = s) → ∀ (i : Nat) (e : List F), es[i]? = some e → RepC imm w e b (o + i * s)
  | [], _, _, _, _, _, _, e => by simp at e
  | x :: xs, b, o, h, hl, i, z, e => by
    unfold RepR at h
    cases i with
    | zero => simp at e; subst e; simpa using h.1
    | succ i =>
      have := RepR.get h.2 (fun e he => hl e (List.mem_cons_of_mem _ he)) i z (by simpa using e)
      rw [hl x (List.mem_cons_self ..)] at this
      rw [show o + (i + 1) * s = o + s + i * s by rw [Nat.add_mul, Nat.one_mul]; omega]
      exact this
theorem RepFs.toC {imm : Nat → Prop} {w : World} : ∀ {xs : List F} {vs : List Value} {b o : Nat}, RepFs imm w xs vs → (∀ j v, vs[j]? = some v → w.cell? ⟨b, o + j, none⟩ = some v) → RepC imm w xs b o
  | [], _, _, _, _, _ => by unfold RepC; trivial
  | x :: xs, vs, b, o, h, hc => by
    unfold RepFs at h
    obtain ⟨v, vs', rfl, h1, h2⟩ := h
    unfold RepC
    exact ⟨⟨v, hc 0 v rfl, h1⟩, RepFs.toC h2 (fun j u hu => by rw [show o + 1 + j = o + (j + 1) by omega]; exact hc (j + 1) u (by simpa using hu))⟩
theorem RepRows.get {imm : Nat → Prop} {w : World} {s : Nat} : ∀ {es : List (List F)} {vs : List Value}, RepRows imm w s es vs → ∀ (i : Nat) (e : List F), es[i]? = some e → ∃ ys, RepFs imm w e ys ∧ e.length = s ∧ ∀ j v, ys[j]? = some v → vs[i * s + j]? = some v
  | [], _, _, _, _, e => by simp at e
  | x :: xs, vs, h, i, z, e => by
    unfold RepRows at h
    obtain ⟨ys, zs, rfl, hl, h1, h2⟩ := h
    have hys : ys.length = s := by
      have : ∀ {xs : List F} {vs : List Value}, RepFs imm w xs vs → vs.length = xs.length := by
        intro xs
        induction xs with
        | nil => intro vs h; unfold RepFs at h; subst h; rfl
        | cons x xs ih => intro vs h; unfold RepFs at h; obtain ⟨v, vs', rfl, _, h⟩ := h; simp [ih h]
      rw [this h1, hl]
    cases i with
    | zero =>
      simp at e; subst e
      refine ⟨ys, h1, hl, fun j v hj => ?_⟩
      have : j < ys.length := (List.getElem?_eq_some_iff.1 hj).1
      rw [Nat.zero_mul, Nat.zero_add, List.getElem?_append_left this]
      exact hj
    | succ i =>
      obtain ⟨us, h3, h4, h5⟩ := RepRows.get h2 i z (by simpa using e)
      refine ⟨us, h3, h4, fun j v hj => ?_⟩
      rw [List.getElem?_append_right (by rw [hys, Nat.add_mul]; omega), hys, show (i + 1) * s + j - s = i * s + j by rw [Nat.add_mul, Nat.one_mul]; omega]
      exact h5 j v hj
section
variable {P : Program} {c : Cx} {w : World} {H : Hp} {n : Nat} {B : Base}
/-- A variable that lies where these cells lie. -/
theorem varK_sound {ti : TI} {t b o : Nat} (L : Lay P t ti) {cs : List D} {vs : List Value} (hr : RepL c w cs vs) (hc : ∀ j v, vs[j]? = some v → w.cell? ⟨b, o + j, none⟩ = some v) {K : D → Prop} (h : varK ti cs K) :
    ∃ d v, K d ∧ (∀ w' : World, (∀ o, w'.cell? ⟨b, o, none⟩ = w.cell? ⟨b, o, none⟩) → (loadVar t ⟨b, o, none⟩).run P w' = .ok v w') ∧ Rep c w d v := by
  unfold varK at h
  cases hg : ti.isAgg with
  | true =>
    simp only [hg, cond_true] at h
    obtain ⟨h1, h2⟩ := takeK_open _ _ _ h
    have hl : (vs.take ti.size).length = ti.size := by rw [List.length_take, hr.length]; omega
    refine ⟨_, .agg (vs.take ti.size).toArray, h2, fun w' hw => ?_, ?_⟩
    · have := run_loadVar_at (w := w') (b := b) (o := o) L (vs.take ti.size) (by rw [hg]; simpa using hl) (fun j v hj => by
        rw [List.getElem?_take] at hj
        split at hj
        · rw [hw]; exact hc j v hj
        · cases hj)
      rw [this, hg]
      rfl
    · unfold Rep
      exact ⟨_, rfl, hr.take _⟩
  | false =>
    simp only [hg, cond_false] at h
    cases cs with
    | nil => exact h.elim
    | cons d cs =>
      simp only [force_eq] at h
      unfold RepL at hr
      obtain ⟨v, vs', rfl, h1, h2⟩ := hr
      refine ⟨d, v, h, fun w' hw => ?_, h1⟩
      have := run_loadVar_at (o := o) (b := b) (w := w') L [v] (by rw [hg]; rfl) (fun j u hj => by
        cases j with
        | zero => rw [hw]; exact hc 0 u (by simpa using hj)
        | succ j => simp at hj)
      rw [this, hg]
      rfl
theorem repL_map_f {imm : Nat → Prop} {xs : List F} {b o : Nat} (hi : c.imm = imm) (h : RepC imm w xs b o) : ∃ vs : List Value, RepL c w (xs.map .f) vs ∧ ∀ j v, vs[j]? = some v → w.cell? ⟨b, o + j, none⟩ = some v := by
  induction xs generalizing o with
  | nil => exact ⟨[], repL_nil, fun j v hj => by simp at hj⟩
  | cons x xs ih =>
    unfold RepC at h
    obtain ⟨⟨y, h1, h2⟩, h3⟩ := h
    obtain ⟨vs, h4, h5⟩ := ih h3
    refine ⟨y :: vs, repL_cons (by unfold Rep; rw [hi]; exact h2) h4, fun j v hj => ?_⟩
    cases j with
    | zero => simp at hj; subst hj; exact h1
    | succ j => rw [show o + (j + 1) = o + 1 + j by omega]; exact h5 j v (by simpa using hj)
theorem varFK_map {ti : TI} {cs : List F} {K : D → Prop} (h : varFK ti cs K) : varK ti (cs.map .f) K := by
  unfold varFK at h
  unfold varK
  cases hg : ti.isAgg with
  | true =>
    simp only [hg, cond_true] at h ⊢
    obtain ⟨h1, h2⟩ := takeK_open _ _ _ h
    have h3 := mapFK_open _ _ h2
    have : ∀ (n : Nat) (l : List D) (K : List D → Prop), n ≤ l.length → K (l.take n) → takeK n l K := by
      intro n
      induction n with
      | zero => intro l K _ h; simpa [takeK] using h
      | succ n ih =>
        intro l K hl h
        cases l with
        | nil => simp at hl
        | cons x l => exact ih l _ (by simpa using hl) (by simpa using h)
    exact this _ _ _ (by simpa using h1) (by simpa [List.map_take] using h3)
  | false =>
    simp only [hg, cond_false] at h ⊢
    cases cs with
    | nil => exact h.elim
    | cons x xs => exact h
theorem loadD_sound {T : Tab} (hT : TabOk P 0 T) (hC : Con B c w H n) {t : Nat} {p : D} {v : Value} (hp : Rep c w p v) {K : D → Prop} (h : loadD T t p H K) :
    ∃ d u, K d ∧ (∀ w' : World, Below w.heap.size w w' → (Instr.loadAt t v).run P w' = .ok u w') ∧ Rep c w d u := by
  unfold loadD at h
  split at h
  · rename_i k o
    unfold Rep at hp
    obtain ⟨hk, rfl⟩ := hp
    cases hg : H.getD k none with
    | none => simp only [hg] at h
    | some cs =>
      simp only [hg] at h
      obtain ⟨ti, L, h⟩ := tiK_open hT h
      rw [dropL_eq] at h
      have hg' : H[k]? = some (some cs) := by
        rw [List.getD_eq_getElem?_getD] at hg
        cases hh : H[k]? with
        | none => rw [hh] at hg; cases hg
        | some x => rw [hh] at hg; simp at hg; rw [hg]
      obtain ⟨C, U, e, hr⟩ := hC.objs k cs hg'
      obtain ⟨d, u, h1, h2, h3⟩ := varK_sound (b := c.φ k) (o := o) L (hr.drop o) (fun j v hj => by
        rw [cell_of_row w _ _ C U (0, 0) e]
        simpa [List.getElem?_drop] using hj) h
      refine ⟨d, u, h1, fun w' hb => ?_, h3⟩
      have := h2 w' (fun o => cell_of_heap (hb.block _ (hC.objLt hg')) o)
      simp [Instr.loadAt, Instr.sureAddr, this]
  · rename_i cs
    obtain ⟨ti, L, h⟩ := tiK_open hT h
    unfold Rep at hp
    obtain ⟨b, o, rfl, hi, hr⟩ := hp
    obtain ⟨vs, h1, h2⟩ := repL_map_f (c := c) rfl hr
    obtain ⟨d, u, h3, h4, h5⟩ := varK_sound L h1 h2 (varFK_map h)
    refine ⟨d, u, h3, fun w' hb => ?_, h5⟩
    have := h4 w' (fun o => cell_of_heap (hb.block _ (hC.immB _ hi).1) o)
    simp [Instr.loadAt, Instr.sureAddr, this]
  · rename_i k e s es i o
    cases hg : es[i]? with
    | none => simp only [hg] at h
    | some r =>
      simp only [hg] at h
      obtain ⟨ti, L, h⟩ := tiK_open hT h
      rw [dropL_eq] at h
      unfold Rep at hp
      obtain ⟨hkn, ⟨hs, xs, ho, hrow⟩, hi, b, oo, m, cap, hτ, rfl⟩ := hp
      obtain ⟨ys, h1, h2, h3⟩ := hrow.get i r hg
      rw [hτ] at ho
      rcases ho.2 with ⟨h0, _⟩ | ⟨g, cap', cur, e1, _, ⟨fz, _, hh⟩, _, _, _, htake⟩
      · cases h0
      · cases e1
        have hcell : ∀ j v, ys[j]? = some v → w.cell? ⟨b, 0 + i * s + j, none⟩ = some v := fun j v hj => by
          have := h3 j v hj
          rw [cell_of_row w _ _ cur e fz hh]
          rw [← htake, List.getElem?_take] at this
          split at this
          · simpa [Nat.zero_add] using this
          · cases this
        have hC' := (RepFs.toC h1 hcell).drop o
        obtain ⟨vs, h4, h5⟩ := repL_map_f (c := c) rfl hC'
        obtain ⟨d, u, h6, h7, h8⟩ := varK_sound L h4 h5 (varFK_map h)
        rw [Nat.zero_add] at h7
        refine ⟨d, u, h6, fun w' hb => ?_, h8⟩
        have := h7 w' (fun o => cell_of_heap (hb.block _ (Array.getElem?_eq_some_iff.1 hh).1) o)
        simp [Instr.loadAt, Instr.sureAddr, this]
  · exact h.elim
theorem offK_sound {T : Tab} (hT : TabOk P 0 T) {t f : Nat} {K : Nat → TI → Prop} (h : offK T t f K) :
    ∃ (fs : Array Field) (g : Field) (u : TI), P.underlying t = some (.struct fs) ∧ fs[f]? = some g ∧ Lay P g.type u ∧ K g.offset u := by
  unfold offK at h
  obtain ⟨ti, L, h⟩ := tiK_open hT h
  split at h
  · rename_i fs hd
    cases hg : fs.toList[f]? with
    | none => simp only [hg] at h
    | some g =>
      simp only [hg] at h
      obtain ⟨u, L', h⟩ := tiK_open hT h
      exact ⟨fs, g, u, by rw [L.und, hd], by simpa using hg, L', h⟩
  · exact h.elim
theorem fieldAddrD_sound {T : Tab} (hT : TabOk P 0 T) {t f : Nat} {p : D} {v : Value} (hp : Rep c w p v) {K : D → Prop} (h : fieldAddrD T t p f K) :
    ∃ d u, K d ∧ (∀ w' : World, (Instr.fieldAt t v f).run P w' = .ok u w') ∧ Rep c w d u := by
  unfold fieldAddrD at h
  simp only [numK_eq] at h
  obtain ⟨fs, g, u, hu, hf, L, h⟩ := offK_sound hT h
  cases hz : Nat.beq u.size 0 with
  | true => simp only [hz, cond_true] at h
  | false =>
    simp only [hz, cond_false] at h
    have hz' : u.size ≠ 0 := fun e => by rw [e] at hz; cases hz
    have run : ∀ (b o : Nat) (w : World), (Instr.fieldAt t (.pointer (some ⟨b, o, none⟩)) f).run P w = .ok (.pointer (some ⟨b, o + g.offset, none⟩)) w := fun b o w => by
      simp [Instr.fieldAt, run_underlying hu, hf, Instr.sureAddr, fieldPlace, L.run_sizeOf w, hz', addr_add]
    split at h
    · rename_i k o
      unfold Rep at hp
      obtain ⟨hk, rfl⟩ := hp
      exact ⟨_, _, h, run _ _, by unfold Rep; exact ⟨hk, rfl⟩⟩
    · rename_i cs
      unfold Rep at hp
      obtain ⟨b, o, rfl, hi, hr⟩ := hp
      rw [dropL_eq] at h
      exact ⟨_, _, h, run _ _, by unfold Rep; exact ⟨b, _, rfl, hi, hr.drop _⟩⟩
    · rename_i k e s es i o
      unfold Rep at hp
      obtain ⟨hkn, ho, hi, b, oo, m, cap, hτ, rfl⟩ := hp
      refine ⟨_, _, h, run _ _, ?_⟩
      unfold Rep
      exact ⟨hkn, ho, hi, b, oo, m, cap, hτ, by rw [Nat.add_assoc]⟩
    · exact h.elim
/-- A part of an aggregate. -/
theorem run_part {g : Nat} {u : TI} (L : Lay P g u) (vs : List Value) (o : Nat) {cs : List D} (hr : RepL c w cs vs) {K : D → Prop} (h : varK u (cs.drop o) K) :
    ∃ d v, K d ∧ (∀ w' : World, (part g vs.toArray o).run P w' = .ok v w') ∧ Rep c w d v := by
  unfold varK at h
  cases hg : u.isAgg with
  | true =>
    simp only [hg, cond_true] at h
    obtain ⟨h1, h2⟩ := takeK_open _ _ _ h
    refine ⟨_, .agg ((vs.drop o).take u.size).toArray, h2, fun w' => ?_, by unfold Rep; exact ⟨_, rfl, (hr.drop o).take _⟩⟩
    unfold part
    simp only [Sem.run_bind, L.run_isAgg w', Result.andThen_ok, hg, if_true, L.run_sizeOf w', Sem.run_pure]
    congr 2
    apply Array.ext'
    rw [Array.toList_extract]
    simp [List.extract_eq_take_drop]
  | false =>
    simp only [hg, cond_false] at h
    have hrd := hr.drop o
    cases hcs : cs.drop o with
    | nil => rw [hcs] at h; exact h.elim
    | cons d r =>
      rw [hcs] at h hrd
      simp only [force_eq] at h
      unfold RepL at hrd
      obtain ⟨v, vs', e, h1, h2⟩ := hrd
      refine ⟨d, v, h, fun w' => ?_, h1⟩
      have : vs[o]? = some v := by
        have := congrArg (fun l => l[0]?) e
        simpa [List.getElem?_drop] using this
      unfold part
      simp only [Sem.run_bind, L.run_isAgg w', Result.andThen_ok, hg, Bool.false_eq_true, if_false]
      simp [this]
theorem fieldD_sound {T : Tab} (hT : TabOk P 0 T) {t f : Nat} {x : D} {v : Value} (hx : Rep c w x v) {K : D → Prop} (h : fieldD T t x f K) :
    ∃ d u, K d ∧ (∀ w' : World, (Instr.field t v f).run P w' = .ok u w') ∧ Rep c w d u := by
  unfold fieldD at h
  obtain ⟨fs, g, u, hu, hf, L, h⟩ := offK_sound hT h
  split at h
  · rename_i cs
    unfold Rep at hx
    obtain ⟨vs, rfl, hr⟩ := hx
    rw [dropL_eq] at h
    obtain ⟨d, z, h1, h2, h3⟩ := run_part L vs g.offset hr h
    exact ⟨d, z, h1, fun w' => by simp [Instr.field, run_underlying hu, hf, asAgg, h2 w'], h3⟩
  · exact h.elim
theorem indexAddrD_sound {T : Tab} (hT : TabOk P 0 T) {t : Nat} {x i : D} {v j : Value} (hx : Rep c w x v) (hi : Rep c w i j) {K : D → Prop} (h : indexAddrD T t x i K) :
    ∃ d u, K d ∧ (∀ w' : World, (Instr.indexAt t v j).run P w' = .ok u w') ∧ Rep c w d u := by
  unfold indexAddrD at h
  split at h
  · rename_i es k i
    have e1 := rep_v hi
    subst e1
    obtain ⟨ti, L, h⟩ := tiK_open hT h
    split at h
    · rename_i e hd
      obtain ⟨u, L', h⟩ := tiK_open hT h
      obtain ⟨hl, h⟩ := Owes.open h
      obtain ⟨m, r, rfl, hm, h⟩ := Elem.open h
      have hlt : m < es.length := (List.getElem?_eq_some_iff.1 hm).1
      unfold Rep RepF at hx
      rcases hx with ⟨_, rfl⟩ | ⟨b, o, cap, rfl, hc, him, hr⟩
      · simp at hlt
      · have hu : P.underlying t = some (.slice e) := by rw [L.und, hd]
        refine ⟨_, .pointer (some ⟨b, o + m * u.size, none⟩), h, fun w' => ?_, ?_⟩
        · simp [Instr.indexAt, asIntOf, run_underlying hu, L'.run_sizeOf w', hlt, addr_add]
        · unfold Rep
          exact ⟨b, _, rfl, him, hr.get hl m r hm⟩
    · exact h.elim
  · rename_i k e s es k' i
    have e1 := rep_v hi
    subst e1
    obtain ⟨ti, L, h⟩ := tiK_open hT h
    split at h
    · rename_i e' hd
      obtain ⟨u, L', h⟩ := tiK_open hT h
      obtain ⟨hl, h⟩ := Owes.open h
      obtain ⟨m, r, rfl, hm, h⟩ := Elem.open h
      have hlt : m < es.length := (List.getElem?_eq_some_iff.1 hm).1
      unfold Rep at hx
      obtain ⟨hkn, rfl, ho⟩ := hx
      have hu : P.underlying t = some (.slice e') := by rw [L.und, hd]
      have ho' := ho
      obtain ⟨hs, xs, how, hrow⟩ := ho
      rcases how.2 with ⟨_, h0⟩ | ⟨g, cap, cur, e1, _, hh, _, _, _, _⟩
      · omega
      · refine ⟨_, .pointer (some ⟨g, m * s, none⟩), h, fun w' => ?_, ?_⟩
        · rw [e1]
          simp [Instr.indexAt, asIntOf, run_underlying hu, L'.run_sizeOf w', hlt, addr_add, hl]
        · unfold Rep
          exact ⟨hkn, ho', by simpa using hlt, g, 0, _, cap, e1, by simp⟩
    · exact h.elim
  · rename_i k o k' i
    have e1 := rep_v hi
    subst e1
    obtain ⟨ti, L, h⟩ := tiK_open hT h
    split at h
    · rename_i m e hd
      obtain ⟨u, L', h⟩ := tiK_open hT h
      obtain ⟨hb, h⟩ := Owes.open h
      have hu : P.underlying t = some (.array m e) := by rw [L.und, hd]
      unfold Rep at hx
      obtain ⟨hk, rfl⟩ := hx
      refine ⟨_, .pointer (some ⟨c.φ k, o + i.toNat * u.size, none⟩), h, fun w' => ?_, by unfold Rep; exact ⟨hk, rfl⟩⟩
      simp [Instr.indexAt, asIntOf, run_underlying hu, L'.run_sizeOf w', hb.1, hb.2, addr_add, Instr.sureAddr]
    · exact h.elim
  · rename_i cs k' i
    have e1 := rep_v hi
    subst e1
    obtain ⟨ti, L, h⟩ := tiK_open hT h
    split at h
    · rename_i m e hd
      obtain ⟨u, L', h⟩ := tiK_open hT h
      obtain ⟨hb, h⟩ := Owes.open h
      have hu : P.underlying t = some (.array m e) := by rw [L.und, hd]
      unfold Rep at hx
      obtain ⟨b, o, rfl, him, hr⟩ := hx
      refine ⟨_, .pointer (some ⟨b, o + i.toNat * u.size, none⟩), h, fun w' => ?_, by unfold Rep; exact ⟨b, _, rfl, him, hr.drop _⟩⟩
      simp [Instr.indexAt, asIntOf, run_underlying hu, L'.run_sizeOf w', hb.1, hb.2, addr_add, Instr.sureAddr]
    · exact h.elim
  · exact h.elim
theorem indexD_sound {T : Tab} (hT : TabOk P 0 T) {t : Nat} {x i : D} {v j : Value} (hx : Rep c w x v) (hi : Rep c w i j) {K : D → Prop} (h : indexD T t x i K) :
    ∃ d u, K d ∧ (∀ w' : World, (Instr.index t v j).run P w' = .ok u w') ∧ Rep c w d u := by
  unfold indexD at h
  split at h
  · rename_i s k i
    have e1 := rep_v hi
    have e2 := rep_v hx
    subst e1 e2
    obtain ⟨ti, L, h⟩ := tiK_open hT h
    split at h
    · rename_i hd
      obtain ⟨m, r, rfl, hm, h⟩ := Byte.open h
      have hu : P.underlying t = some .string := by rw [L.und, hd]
      have hlt : m < s.size := (List.getElem?_eq_some_iff.1 hm).1
      have hb : s[m]? = some r := by
        have : s.data[m]? = some r := by simpa using hm
        rw [getElem?_pos s m hlt]
        have := (Array.getElem?_eq_some_iff.1 this).2
        exact congrArg some this
      exact ⟨_, _, h, fun w' => by simp [Instr.index, asIntOf, run_underlying hu, hb], rep_of _ rfl⟩
    · exact h.elim
  · rename_i cs k i
    have e1 := rep_v hi
    subst e1
    obtain ⟨ti, L, h⟩ := tiK_open hT h
    split at h
    · rename_i m e hd
      obtain ⟨u, L', h⟩ := tiK_open hT h
      obtain ⟨hb, h⟩ := Owes.open h
      have hu : P.underlying t = some (.array m e) := by rw [L.und, hd]
      unfold Rep at hx
      obtain ⟨vs, rfl, hr⟩ := hx
      obtain ⟨d, z, h1, h2, h3⟩ := run_part L' vs (i.toNat * u.size) hr h
      exact ⟨d, z, h1, fun w' => by simp [Instr.index, asIntOf, run_underlying hu, hb.1, hb.2, L'.run_sizeOf w', h2 w'], h3⟩
    · exact h.elim
  · exact h.elim
theorem lenD_sound {T : Tab} (hT : TabOk P 0 T) {t ty : Nat} {x : D} {v : Value} (hx : Rep c w x v) {K : D → Prop} (h : lenD T t x K) :
    ∃ z, z.oneCell' = true ∧ K (.f (.v z)) ∧ ∀ w' : World, (Builtin.len_ #[t] ty #[v]).run P w' = .ok z w' := by
  unfold lenD at h
  obtain ⟨ti, L, h⟩ := tiK_open hT h
  split at h
  · rename_i e hd
    have hu : P.underlying t = some (.slice e) := by rw [L.und, hd]
    split at h
    · rename_i es
      unfold Rep RepF at hx
      rcases hx with ⟨⟨a, rfl⟩, rfl⟩ | ⟨b, o, cap, rfl, _⟩
      · exact ⟨_, rfl, h, fun w' => by simp [Builtin.len_, run_underlying hu, goInt]⟩
      · exact ⟨_, rfl, h, fun w' => by simp [Builtin.len_, run_underlying hu, goInt]⟩
    · rename_i k t' s es
      unfold Rep at hx
      obtain ⟨hkn, rfl, hs, xs, how, _⟩ := hx
      rcases how.2 with ⟨h1, h0⟩ | ⟨g, cap, cur, e1, _⟩
      · exact ⟨_, rfl, h, fun w' => by simp [Builtin.len_, run_underlying hu, goInt, h1, h0]⟩
      · exact ⟨_, rfl, h, fun w' => by simp [Builtin.len_, run_underlying hu, goInt, e1]⟩
    · unfold Rep at hx
      subst hx
      exact ⟨_, rfl, h, fun w' => by simp [Builtin.len_, run_underlying hu, goInt]⟩
    · exact h.elim
  · rename_i hd
    have hu : P.underlying t = some .string := by rw [L.und, hd]
    split at h
    · have e2 := rep_v hx
      subst e2
      exact ⟨_, rfl, h, fun w' => by simp [Builtin.len_, run_underlying hu, goInt]⟩
    · exact h.elim
  · rename_i m e hd
    have hu : P.underlying t = some (.array m e) := by rw [L.und, hd]
    exact ⟨_, rfl, h, fun w' => by simp [Builtin.len_, run_underlying hu, goInt]⟩
  · exact h.elim
end
end Go.Proofs.Ytdfiegleaknleaa.Aw

