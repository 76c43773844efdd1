/- The plain operations on abstract values, and that the machine does just that. -/
import Derived.Test.YtofjmhigfihhbaaDoorAwD
import Derived.Laws.Bits
namespace Go.Proofs.YtofjmhigfihhbaaDoor.Aw
open Go Go.RowKit
set_option linter.unusedVariables false
set_option linter.unusedSimpArgs false

def knd : IntKind → Nat
  | .i8 => 0 | .i16 => 1 | .i32 => 2 | .i64 => 3 | .u8 => 4 | .u16 => 5 | .u32 => 6 | .u64 => 7
theorem knd_inj {j k : IntKind} (h : Nat.beq (knd j) (knd k) = true) : j = k := by
  have := Nat.eq_of_beq_eq_true h
  cases j <;> cases k <;> first | rfl | (simp [knd] at this)
def andI (k : IntKind) (a b : Int) : Int := (BitVec.ofInt k.bits a &&& BitVec.ofInt k.bits b).toNat
def orI (k : IntKind) (a b : Int) : Int := (BitVec.ofInt k.bits a ||| BitVec.ofInt k.bits b).toNat
def xorI (k : IntKind) (a b : Int) : Int := (BitVec.ofInt k.bits a ^^^ BitVec.ofInt k.bits b).toNat
def shlI (k : IntKind) (a b : Int) : Int := a * 2 ^ (min b.toNat k.bits)
def shrI (k : IntKind) (a b : Int) : Int := a.fdiv (2 ^ (min b.toNat k.bits))
def binD (op : BinOp) (x y : D) (K : D → Prop) : Prop :=
  match x, y with
  | .f (.v (.int k a)), .f (.v (.int j b)) => bif Nat.beq (knd k) (knd j) then match op with
      | .add => Num k (a + b) fun r => K (.int k r)
      | .sub => Num k (a - b) fun r => K (.int k r)
      | .mul => Num k (a * b) fun r => K (.int k r)
      | .quo => Owes (b ≠ 0) (Num k (a.tdiv b) fun r => K (.int k r))
      | .rem => Owes (b ≠ 0) (K (.int k (a.tmod b)))
      | .and => Num k (andI k a b) fun r => K (.int k r)
      | .or => Num k (orI k a b) fun r => K (.int k r)
      | .xor => Num k (xorI k a b) fun r => K (.int k r)
      | .shl => Owes (0 ≤ b) (Num k (shlI k a b) fun r => K (.int k r))
      | .shr => Owes (0 ≤ b) (K (.int k (shrI k a b)))
      | .eql => K (.bool (a == b))
      | .neq => K (.bool (a != b))
      | .lss => K (.bool (decide (a < b)))
      | .leq => K (.bool (decide (a ≤ b)))
      | .gtr => K (.bool (decide (a > b)))
      | .geq => K (.bool (decide (a ≥ b)))
      | _ => False
    else match op with
      | .shl => Owes (0 ≤ b) (Num k (shlI k a b) fun r => K (.int k r))
      | .shr => Owes (0 ≤ b) (K (.int k (shrI k a b)))
      | _ => False
  | .f (.v (.string a)), .f (.v (.string b)) => match op with
      | .add => Owes (a.size + b.size ≤ 9223372036854775807) (K (.str (a ++ b)))
      | .eql => K (.bool (a.toList == b.toList))
      | .neq => K (.bool (!(a.toList == b.toList)))
      | _ => False
  | _, _ => False
def unD (op : UnOp) (x : D) (K : D → Prop) : Prop :=
  match op, x with
  | .not, .f (.v (.bool b)) => K (.bool (!b))
  | .neg, .f (.v (.int k a)) => Num k (0 - a) fun r => K (.int k r)
  | _, _ => False
/-- The bools of an equality of bools, which needs its type. -/
def boolD (op : BinOp) (x y : D) (K : D → Prop) : Prop :=
  match x, y with
  | .f (.v (.bool a)), .f (.v (.bool b)) => match op with
      | .eql => K (.bool (a == b))
      | .neq => K (.bool (!(a == b)))
      | _ => False
  | _, _ => False
theorem repF_v {imm : Nat → Prop} {w : World} {x y : Value} (h : RepF imm w (.v x) y) : y = x := by unfold RepF at h; exact h.1
theorem rep_v {c : Cx} {w : World} {x y : Value} (h : Rep c w (.f (.v x)) y) : y = x := by unfold Rep at h; exact repF_v h
theorem rep_of {c : Cx} {w : World} (x : Value) (h : x.oneCell' = true) : Rep c w (.f (.v x)) x := by unfold Rep RepF; exact ⟨rfl, h⟩
section
variable {P : Program} {c : Cx} {w : World}
theorem run_shl (w : World) (k : IntKind) (a : Int) (j : IntKind) (b : Int) (h : 0 ≤ b) : (Op.shift .shl k a j b).run P w = .ok (.int k (k.wrap (a * 2 ^ (min b.toNat k.bits)))) w := by
  simp [Op.shift, show ¬ b < 0 by omega]
theorem run_shr (w : World) (k : IntKind) (a : Int) (j : IntKind) (b : Int) (h : 0 ≤ b) : (Op.shift .shr k a j b).run P w = .ok (.int k (a.fdiv (2 ^ (min b.toNat k.bits)))) w := by
  simp [Op.shift, show ¬ b < 0 by omega]
theorem binD_sound {op : BinOp} {t : TypeId} {x y : D} {ox oy : Operand} {u v : Value} {K : D → Prop} (hx : Rep c w x u) (hy : Rep c w y v) (h : binD op x y K) :
    ∃ z, z.oneCell' = true ∧ K (.f (.v z)) ∧ ∀ w' : World, (do eqGuard op t ox oy u v; binOp op t u v : Sem Value).run P w' = .ok z w' := by
  unfold binD at h
  split at h
  · rename_i k a j b
    have e1 := rep_v hx
    have e2 := rep_v hy
    subst e1 e2
    have hg : ∀ (z : Value), (eqGuard op t ox oy (.int k a) z : Sem Unit) = pure () := fun z => by cases op <;> rfl
    simp only [hg, pure_bind]
    cases hk : Nat.beq (knd k) (knd j) with
    | true =>
      have := knd_inj hk
      subst this
      simp only [hk, cond_true] at h
      cases op <;> simp only at h <;> first
        | exact h.elim
        | (refine ⟨_, rfl, Num.open h, ?_⟩; intro w'; simp [binOp, Op.intArith]; done)
        | (obtain ⟨h0, h1⟩ := Owes.open h; refine ⟨_, rfl, Num.open h1, ?_⟩; intro w'; simp [binOp, Op.intDiv, h0]; done)
        | (obtain ⟨h0, h1⟩ := Owes.open h; refine ⟨_, rfl, h1, ?_⟩; intro w'; simp [binOp, Op.intDiv, h0]; done)
        | (obtain ⟨h0, h1⟩ := Owes.open h; refine ⟨_, rfl, Num.open h1, ?_⟩; intro w'; rw [binOp_shl]; exact run_shl w' k a _ b h0)
        | (obtain ⟨h0, h1⟩ := Owes.open h; refine ⟨_, rfl, h1, ?_⟩; intro w'; rw [binOp_shr]; exact run_shr w' k a _ b h0)
        | (refine ⟨_, rfl, h, ?_⟩; intro w'; simp [binOp, Op.intCmp]; done)
        | (refine ⟨_, rfl, Num.open h, ?_⟩; intro w'; simp only [binOp]; rfl)
        | (refine ⟨_, rfl, Num.open h, ?_⟩; intro w'; rw [binOp_and]; rfl)
        | (refine ⟨_, rfl, Num.open h, ?_⟩; intro w'; rw [binOp_or]; rfl)
        | (refine ⟨_, rfl, Num.open h, ?_⟩; intro w'; rw [binOp_xor]; rfl)
    | false =>
      simp only [hk, cond_false] at h
      cases op <;> simp only at h <;> first
        | exact h.elim
        | (obtain ⟨h0, h1⟩ := Owes.open h; refine ⟨_, rfl, Num.open h1, ?_⟩; intro w'; rw [binOp_shl]; exact run_shl w' k a _ b h0)
        | (obtain ⟨h0, h1⟩ := Owes.open h; refine ⟨_, rfl, h1, ?_⟩; intro w'; rw [binOp_shr]; exact run_shr w' k a _ b h0)
  · rename_i a b
    have e1 := rep_v hx
    have e2 := rep_v hy
    subst e1 e2
    have hg : ∀ (z : Value), (eqGuard op t ox oy (.string a) z : Sem Unit) = pure () := fun z => by cases op <;> rfl
    simp only [hg, pure_bind]
    cases op <;> simp only at h <;> first
      | exact h.elim
      | (obtain ⟨h0, h1⟩ := Owes.open h
         refine ⟨_, rfl, h1, ?_⟩
         intro w'
         have : ¬ (9223372036854775807 : Int) < (a.size : Int) + (b.size : Int) := by omega
         simp [binOp, Op.stringOp, IntKind.max, IntKind.signed, IntKind.bits, this])
      | (refine ⟨_, rfl, h, ?_⟩; intro w'; simp [binOp, Op.stringOp]; done)
  · exact h.elim
attribute [irreducible] andI orI xorI shlI shrI
theorem unD_sound {op : UnOp} {x : D} {u : Value} {K : D → Prop} (hx : Rep c w x u) (h : unD op x K) :
    ∃ z, z.oneCell' = true ∧ K (.f (.v z)) ∧ ∀ w' : World, (Op.unary op u).run P w' = .ok z w' := by
  unfold unD at h
  split at h
  · rename_i b
    have e1 := rep_v hx
    subst e1
    exact ⟨_, rfl, h, fun w' => by simp [Op.unary]⟩
  · rename_i k a
    have e1 := rep_v hx
    subst e1
    exact ⟨_, rfl, Num.open h, fun w' => by simp [Op.unary, Op.intArith]⟩
  · exact h.elim
theorem boolD_sound {op : BinOp} {t : TypeId} {x y : D} {ox oy : Operand} {u v : Value} {K : D → Prop} (ht : P.underlying t = some .bool) (hx : Rep c w x u) (hy : Rep c w y v) (h : boolD op x y K) :
    ∃ z, z.oneCell' = true ∧ K (.f (.v z)) ∧ ∀ w' : World, (do eqGuard op t ox oy u v; binOp op t u v : Sem Value).run P w' = .ok z w' := by
  unfold boolD at h
  split at h
  · rename_i a b
    have e1 := rep_v hx
    have e2 := rep_v hy
    subst e1 e2
    have hg : ∀ (z : Value), (eqGuard op t ox oy (.bool a) z : Sem Unit) = pure () := fun z => by cases op <;> rfl
    simp only [hg, pure_bind]
    cases op <;> simp only at h <;> first
      | exact h.elim
      | (refine ⟨_, rfl, h, ?_⟩; intro w'; simp [binOp, Op.equal, Op.maxDepth, run_equalIn_bool w' 9999 t a b ht]; done)
  · exact h.elim
end
end Go.Proofs.YtofjmhigfihhbaaDoor.Aw
