/- Slices that are cut, converted and appended to, on abstract values, and that the machine does just that. -/
import Derived.Test.YtlhegfkpgchaeaaGreatDoorAwD
import Derived.Laws.Bits
import Derived.Maps.AppendAt
import Derived.Lib.AppendStr
import Derived.Laws.OwnMore
namespace Go.Proofs.YtlhegfkpgchaeaaGreatDoor.Aw
open Go Go.RowKit
set_option linter.unusedVariables false
set_option linter.unusedSimpArgs false
def knd : IntKind → Nat
  | .i8 => 0 | .i16 => 1 | .i32 => 2 | .i64 => 3 | .u8 => 4 | .u16 => 5 | .u32 => 6 | .u64 => 7
theorem knd_inj {j k : IntKind} (h : Nat.beq (knd j) (knd k) = true) : j = k := by
  have := Nat.eq_of_beq_eq_true h
  cases j <;> cases k <;> first | rfl | (simp [knd] at this)
def andI (k : IntKind) (a b : Int) : Int := (BitVec.ofInt k.bits a &&& BitVec.ofInt k.bits b).toNat
def orI (k : IntKind) (a b : Int) : Int := (BitVec.ofInt k.bits a ||| BitVec.ofInt k.bits b).toNat
def xorI (k : IntKind) (a b : Int) : Int := (BitVec.ofInt k.bits a ^^^ BitVec.ofInt k.bits b).toNat
def shlI (k : IntKind) (a b : Int) : Int := a * 2 ^ (min b.toNat k.bits)
def shrI (k : IntKind) (a b : Int) : Int := a.fdiv (2 ^ (min b.toNat k.bits))
def binD (op : BinOp) (x y : D) (K : D → Prop) : Prop :=
  match x, y with
  | .f (.v (.int k a)), .f (.v (.int j b)) => bif Nat.beq (knd k) (knd j) then match op with
      | .add => Num k (a + b) fun r => K (.int k r)
      | .sub => Num k (a - b) fun r => K (.int k r)
      | .mul => Num k (a * b) fun r => K (.int k r)
      | .quo => Owes (b ≠ 0) (Num k (a.tdiv b) fun r => K (.int k r))
      | .rem => Owes (b ≠ 0) (K (.int k (a.tmod b)))
      | .and => Num k (andI k a b) fun r => K (.int k r)
      | .or => Num k (orI k a b) fun r => K (.int k r)
      | .xor => Num k (xorI k a b) fun r => K (.int k r)
      | .shl => Owes (0 ≤ b) (Num k (shlI k a b) fun r => K (.int k r))
      | .shr => Owes (0 ≤ b) (K (.int k (shrI k a b)))
      | .eql => K (.bool (a == b))
      | .neq => K (.bool (a != b))
      | .lss => K (.bool (decide (a < b)))
      | .leq => K (.bool (decide (a ≤ b)))
      | .gtr => K (.bool (decide (a > b)))
      | .geq => K (.bool (decide (a ≥ b)))
      | _ => False
    else match op with
      | .shl => Owes (0 ≤ b) (Num k (shlI k a b) fun r => K (.int k r))
      | .shr => Owes (0 ≤ b) (K (.int k (shrI k a b)))
      | _ => False
  | .f (.v (.string a)), .f (.v (.string b)) => match op with
      | .add => Owes (a.size + b.size ≤ 9223372036854775807) (K (.str (a ++ b)))
      | .eql => K (.bool (a.toList == b.toList))
      | .neq => K (.bool (!(a.toList == b.toList)))
      | _ => False
  | _, _ => False
def unD (op : UnOp) (x : D) (K : D → Prop) : Prop :=
  match op, x with
  | .not, .f (.v (.bool b)) => K (.bool (!b))
  | .neg, .f (.v (.int k a)) => Num k (0 - a) fun r => K (.int k r)
  | _, _ => False
def boolD (op : BinOp) (x y : D) (K : D → Prop) : Prop :=
  match x, y with
  | .f (.v (.bool a)), .f (.v (.bool b)) => match op with
      | .eql => K (.bool (a == b))
      | .neq => K (.bool (!(a == b)))
      | _ => False
  | _, _ => False
theorem repF_v {imm : Nat → Prop} {w : World} {x y : Value} (h : RepF imm w (.v x) y) : y = x := by unfold RepF at h; exact h.1
theorem rep_v {c : Cx} {w : World} {x y : Value} (h : Rep c w (.f (.v x)) y) : y = x := by unfold Rep at h; exact repF_v h
theorem rep_of {c : Cx} {w : World} (x : Value) (h : x.oneCell' = true) : Rep c w (.f (.v x)) x := by unfold Rep RepF; exact ⟨rfl, h⟩
section
variable {P : Program} {c : Cx} {w : World}
theorem run_shl (w : World) (k : IntKind) (a : Int) (j : IntKind) (b : Int) (h : 0 ≤ b) : (Op.shift .shl k a j b).run P w = .ok (.int k (k.wrap (a * 2 ^ (min b.toNat k.bits)))) w := by
  simp [Op.shift, show ¬ b < 0 by omega]
theorem run_shr (w : World) (k : IntKind) (a : Int) (j : IntKind) (b : Int) (h : 0 ≤ b) : (Op.shift .shr k a j b).run P w = .ok (.int k (a.fdiv (2 ^ (min b.toNat k.bits)))) w := by
  simp [Op.shift, show ¬ b < 0 by omega]
theorem binD_sound {op : BinOp} {t : TypeId} {x y : D} {ox oy : Operand} {u v : Value} {K : D → Prop} (hx : Rep c w x u) (hy : Rep c w y v) (h : binD op x y K) :
    ∃ z, z.oneCell' = true ∧ K (.f (.v z)) ∧ ∀ w' : World, (do eqGuard op t ox oy u v; binOp op t u v : Sem Value).run P w' = .ok z w' := by
  unfold binD at h
  split at h
  · rename_i k a j b
    have e1 := rep_v hx
    have e2 := rep_v hy
    subst e1 e2
    have hg : ∀ (z : Value), (eqGuard op t ox oy (.int k a) z : Sem Unit) = pure () := fun z => by cases op <;> rfl
    simp only [hg, pure_bind]
    cases hk : Nat.beq (knd k) (knd j) with
    | true =>
      have := knd_inj hk
      subst this
      simp only [hk, cond_true] at h
      cases op <;> simp only at h <;> first
        | exact h.elim
        | (refine ⟨_, rfl, Num.open h, ?_⟩; intro w'; simp [binOp, Op.intArith]; done)
        | (obtain ⟨h0, h1⟩ := Owes.open h; refine ⟨_, rfl, Num.open h1, ?_⟩; intro w'; simp [binOp, Op.intDiv, h0]; done)
        | (obtain ⟨h0, h1⟩ := Owes.open h; refine ⟨_, rfl, h1, ?_⟩; intro w'; simp [binOp, Op.intDiv, h0]; done)
        | (obtain ⟨h0, h1⟩ := Owes.open h; refine ⟨_, rfl, Num.open h1, ?_⟩; intro w'; rw [binOp_shl]; exact run_shl w' k a _ b h0)
        | (obtain ⟨h0, h1⟩ := Owes.open h; refine ⟨_, rfl, h1, ?_⟩; intro w'; rw [binOp_shr]; exact run_shr w' k a _ b h0)
        | (refine ⟨_, rfl, h, ?_⟩; intro w'; simp [binOp, Op.intCmp]; done)
        | (refine ⟨_, rfl, Num.open h, ?_⟩; intro w'; simp only [binOp]; rfl)
        | (refine ⟨_, rfl, Num.open h, ?_⟩; intro w'; rw [binOp_and]; rfl)
        | (refine ⟨_, rfl, Num.open h, ?_⟩; intro w'; rw [binOp_or]; rfl)
        | (refine ⟨_, rfl, Num.open h, ?_⟩; intro w'; rw [binOp_xor]; rfl)
    | false =>
      simp only [hk, cond_false] at h
      cases op <;> simp only at h <;> first
        | exact h.elim
        | (obtain ⟨h0, h1⟩ := Owes.open h; refine ⟨_, rfl, Num.open h1, ?_⟩; intro w'; rw [binOp_shl]; exact run_shl w' k a _ b h0)
        | (obtain ⟨h0, h1⟩ := Owes.open h; refine ⟨_, rfl, h1, ?_⟩; intro w'; rw [binOp_shr]; exact run_shr w' k a _ b h0)
  · rename_i a b
    have e1 := rep_v hx
    have e2 := rep_v hy
    subst e1 e2
    have hg : ∀ (z : Value), (eqGuard op t ox oy (.string a) z : Sem Unit) = pure () := fun z => by cases op <;> rfl
    simp only [hg, pure_bind]
    cases op <;> simp only at h <;> first
      | exact h.elim
      | (obtain ⟨h0, h1⟩ := Owes.open h
         refine ⟨_, rfl, h1, ?_⟩
         intro w'
         have : ¬ (9223372036854775807 : Int) < (a.size : Int) + (b.size : Int) := by omega
         simp [binOp, Op.stringOp, IntKind.max, IntKind.signed, IntKind.bits, this])
      | (refine ⟨_, rfl, h, ?_⟩; intro w'; simp [binOp, Op.stringOp]; done)
  · exact h.elim
attribute [irreducible] andI orI xorI shlI shrI
theorem unD_sound {op : UnOp} {x : D} {u : Value} {K : D → Prop} (hx : Rep c w x u) (h : unD op x K) :
    ∃ z, z.oneCell' = true ∧ K (.f (.v z)) ∧ ∀ w' : World, (Op.unary op u).run P w' = .ok z w' := by
  unfold unD at h
  split at h
  · rename_i b
    have e1 := rep_v hx
    subst e1
    exact ⟨_, rfl, h, fun w' => by simp [Op.unary]⟩
  · rename_i k a
    have e1 := rep_v hx
    subst e1
    exact ⟨_, rfl, Num.open h, fun w' => by simp [Op.unary, Op.intArith]⟩
  · exact h.elim
theorem boolD_sound {op : BinOp} {t : TypeId} {x y : D} {ox oy : Operand} {u v : Value} {K : D → Prop} (ht : P.underlying t = some .bool) (hx : Rep c w x u) (hy : Rep c w y v) (h : boolD op x y K) :
    ∃ z, z.oneCell' = true ∧ K (.f (.v z)) ∧ ∀ w' : World, (do eqGuard op t ox oy u v; binOp op t u v : Sem Value).run P w' = .ok z w' := by
  unfold boolD at h
  split at h
  · rename_i a b
    have e1 := rep_v hx
    have e2 := rep_v hy
    subst e1 e2
    have hg : ∀ (z : Value), (eqGuard op t ox oy (.bool a) z : Sem Unit) = pure () := fun z => by cases op <;> rfl
    simp only [hg, pure_bind]
    cases op <;> simp only at h <;> first
      | exact h.elim
      | (refine ⟨_, rfl, h, ?_⟩; intro w'; simp [binOp, Op.equal, Op.maxDepth, run_equalIn_bool w' 9999 t a b ht]; done)
  · exact h.elim
end
def varK (ti : TI) (cs : List D) (K : D → Prop) : Prop :=
 bif ti.isAgg then takeK ti.size cs (fun l => K (.agg l)) else match cs with
  | d :: _ => force d K
  | [] => False
def varFK (ti : TI) (cs : List F) (K : D → Prop) : Prop :=
 bif ti.isAgg then takeK ti.size cs (fun l => mapFK l (fun l => K (.agg l))) else match cs with
  | x :: _ => force (.f x) K
  | [] => False
def loadD (T : Tab) (t : Nat) (p : D) (H : Hp) (K : D → Prop) : Prop :=
 match p with
 | .ptr k o => match H.getD k none with
  | some cs => tiK T t fun ti => varK ti (dropL o cs) K
  | none => False
 | .ip cs => tiK T t fun ti => varFK ti cs K
 | .optr _ _ s es i o => match es[i]? with
  | some e => tiK T t fun ti => varFK ti (dropL o e) K
  | none => False
 | _ => False
def offK (T : Tab) (t f : Nat) (K : Nat → TI → Prop) : Prop := tiK T t fun ti => match ti.desc with
 | .struct fs => match fs.toList[f]? with
  | some g => tiK T g.type fun u => K g.offset u
  | none => False
 | _ => False
def fieldAddrD (T : Tab) (t : Nat) (p : D) (f : Nat) (K : D → Prop) : Prop :=
 offK T t f fun o' u => bif Nat.beq u.size 0 then False else match p with
  | .ptr k o => numK (o + o') fun m => K (.ptr k m)
  | .ip cs => K (.ip (dropL o' cs))
  | .optr k e s es i o => numK (o + o') fun m => K (.optr k e s es i m)
  | _ => False
def fieldD (T : Tab) (t : Nat) (x : D) (f : Nat) (K : D → Prop) : Prop :=
 offK T t f fun o u => match x with
  | .agg cs => varK u (dropL o cs) K
  | _ => False
def indexAddrD (T : Tab) (t : Nat) (x i : D) (K : D → Prop) : Prop :=
 match x, i with
 | .f (.sl es), .f (.v (.int k i)) => tiK T t fun ti => match ti.desc with
  | .slice e => tiK T e fun u => Owes (∀ e ∈ es, e.length = u.size) (Elem es i (fun e => K (.ip e)))
  | _ => False
 | .own k e s es, .f (.v (.int _ i)) => tiK T t fun ti => match ti.desc with
  | .slice e' => tiK T e' fun u => Owes (s = u.size) (Elem es i (fun _ => K (.optr k e s es i.toNat 0)))
  | _ => False
 | .ptr k o, .f (.v (.int _ i)) => tiK T t fun ti => match ti.desc with
  | .array n e => tiK T e fun u => Owes (0 ≤ i ∧ i < n) (K (.ptr k (o + i.toNat * u.size)))
  | _ => False
 | .ip cs, .f (.v (.int _ i)) => tiK T t fun ti => match ti.desc with
  | .array n e => tiK T e fun u => Owes (0 ≤ i ∧ i < n) (K (.ip (cs.drop (i.toNat * u.size))))
  | _ => False
 | _, _ => False
def indexD (T : Tab) (t : Nat) (x i : D) (K : D → Prop) : Prop :=
 match x, i with
 | .f (.v (.string s)), .f (.v (.int _ i)) => tiK T t fun ti => match ti.desc with
  | .string => Byte s i (fun c => K (.int .u8 c.toNat))
  | _ => False
 | .agg cs, .f (.v (.int _ i)) => tiK T t fun ti => match ti.desc with
  | .array n e => tiK T e fun u => Owes (0 ≤ i ∧ i < n) (varK u (cs.drop (i.toNat * u.size)) K)
  | _ => False
 | _, _ => False
def lenD (T : Tab) (t : Nat) (x : D) (K : D → Prop) : Prop :=
 tiK T t fun ti => match ti.desc with
  | .slice _ => (match x with
   | .f (.sl es) => K (.int .i64 es.length)
   | .own _ _ _ es => K (.int .i64 es.length)
   | .nil => K (.int .i64 0)
   | _ => False)
  | .string => (match x with
   | .f (.v (.string s)) => K (.int .i64 s.size)
   | _ => False)
  | .array n _ => K (.int .i64 n)
  | _ => False
theorem RepC.get {imm : Nat → Prop} {w : World} : ∀ {xs : List F} {b o : Nat}, RepC imm w xs b o → ∀ (i : Nat) (x : F), xs[i]? = some x → ∃ y, w.cell? ⟨b, o + i, none⟩ = some y ∧ RepF imm w x y
 | [], _, _, _, _, _, e => by simp at e
 | x :: xs, b, o, h, i, z, e => by
  unfold RepC at h
  cases i with
  | zero => simp at e; subst e; exact h.1
  | succ i =>
   obtain ⟨y, h1, h2⟩ := RepC.get h.2 i z (by simpa using e)
   exact ⟨y, by rw [show o + (i + 1) = o + 1 + i by omega]; exact h1, h2⟩
theorem RepC.drop {imm : Nat → Prop} {w : World} : ∀ {xs : List F} {b o : Nat} (n : Nat), RepC imm w xs b o → RepC imm w (xs.drop n) b (o + n)
 | xs, b, o, 0, h => by simpa using h
 | [], b, o, n + 1, h => by simp [RepC]
 | x :: xs, b, o, n + 1, h => by
  unfold RepC at h
  have := RepC.drop (b := b) (o := o + 1) n h.2
  rw [show o + (n + 1) = o + 1 + n by omega]
  simpa using this
theorem RepR.get {imm : Nat → Prop} {w : World} {s : Nat} : ∀ {es : List (List F)} {b o : Nat}, RepR imm w es b o → (∀ e ∈ es, e.length = s) → ∀ (i : Nat) (e : List F), es[i]? = some e → RepC imm w e b (o + i * s)
 | [], _, _, _, _, _, _, e => by simp at e
 | x :: xs, b, o, h, hl, i, z, e => by
  unfold RepR at h
  cases i with
  | zero => simp at e; subst e; simpa using h.1
  | succ i =>
   have := RepR.get h.2 (fun e he => hl e (List.mem_cons_of_mem _ he)) i z (by simpa using e)
   rw [hl x (List.mem_cons_self ..)] at this
   rw [show o + (i + 1) * s = o + s + i * s by rw [Nat.add_mul, Nat.one_mul]; omega]
   exact this
theorem RepFs.toC {imm : Nat → Prop} {w : World} : ∀ {xs : List F} {vs : List Value} {b o : Nat}, RepFs imm w xs vs → (∀ j v, vs[j]? = some v → w.cell? ⟨b, o + j, none⟩ = some v) → RepC imm w xs b o
 | [], _, _, _, _, _ => by unfold RepC; trivial
 | x :: xs, vs, b, o, h, hc => by
  unfold RepFs at h
  obtain ⟨v, vs', rfl, h1, h2⟩ := h
  unfold RepC
  exact ⟨⟨v, hc 0 v rfl, h1⟩, RepFs.toC h2 (fun j u hu => by rw [show o + 1 + j = o + (j + 1) by omega]; exact hc (j + 1) u (by simpa using hu))⟩
theorem RepRows.get {imm : Nat → Prop} {w : World} {s : Nat} : ∀ {es : List (List F)} {vs : List Value}, RepRows imm w s es vs → ∀ (i : Nat) (e : List F), es[i]? = some e → ∃ ys, RepFs imm w e ys ∧ e.length = s ∧ ∀ j v, ys[j]? = some v → vs[i * s + j]? = some v
 | [], _, _, _, _, e => by simp at e
 | x :: xs, vs, h, i, z, e => by
  unfold RepRows at h
  obtain ⟨ys, zs, rfl, hl, h1, h2⟩ := h
  have hys : ys.length = s := by
   have : ∀ {xs : List F} {vs : List Value}, RepFs imm w xs vs → vs.length = xs.length := by
    intro xs
    induction xs with
    | nil => intro vs h; unfold RepFs at h; subst h; rfl
    | cons x xs ih => intro vs h; unfold RepFs at h; obtain ⟨v, vs', rfl, _, h⟩ := h; simp [ih h]
   rw [this h1, hl]
  cases i with
  | zero =>
   simp at e; subst e
   refine ⟨ys, h1, hl, fun j v hj => ?_⟩
   have : j < ys.length := (List.getElem?_eq_some_iff.1 hj).1
   rw [Nat.zero_mul, Nat.zero_add, List.getElem?_append_left this]
   exact hj
  | succ i =>
   obtain ⟨us, h3, h4, h5⟩ := RepRows.get h2 i z (by simpa using e)
   refine ⟨us, h3, h4, fun j v hj => ?_⟩
   rw [List.getElem?_append_right (by rw [hys, Nat.add_mul]; omega), hys, show (i + 1) * s + j - s = i * s + j by rw [Nat.add_mul, Nat.one_mul]; omega]
   exact h5 j v hj
section
variable {P : Program} {c : Cx} {w : World} {H : Hp} {n : Nat} {B : Base}
theorem varK_sound {ti : TI} {t b o : Nat} (L : Lay P t ti) {cs : List D} {vs : List Value} (hr : RepL c w cs vs) (hc : ∀ j v, vs[j]? = some v → w.cell? ⟨b, o + j, none⟩ = some v) {K : D → Prop} (h : varK ti cs K) :
  ∃ d v, K d ∧ (∀ w' : World, (∀ o, w'.cell? ⟨b, o, none⟩ = w.cell? ⟨b, o, none⟩) → (loadVar t ⟨b, o, none⟩).run P w' = .ok v w') ∧ Rep c w d v := by
 unfold varK at h
 cases hg : ti.isAgg with
 | true =>
  simp only [hg, cond_true] at h
  obtain ⟨h1, h2⟩ := takeK_open _ _ _ h
  have hl : (vs.take ti.size).length = ti.size := by rw [List.length_take, hr.length]; omega
  refine ⟨_, .agg (vs.take ti.size).toArray, h2, fun w' hw => ?_, ?_⟩
  ·have := run_loadVar_at (w := w') (b := b) (o := o) L (vs.take ti.size) (by rw [hg]; simpa using hl) (fun j v hj => by
    rw [List.getElem?_take] at hj
    split at hj
    ·rw [hw]; exact hc j v hj
    ·cases hj)
   rw [this, hg]
   rfl
  ·unfold Rep
   exact ⟨_, rfl, hr.take _⟩
 | false =>
  simp only [hg, cond_false] at h
  cases cs with
  | nil => exact h.elim
  | cons d cs =>
   simp only [force_eq] at h
   unfold RepL at hr
   obtain ⟨v, vs', rfl, h1, h2⟩ := hr
   refine ⟨d, v, h, fun w' hw => ?_, h1⟩
   have := run_loadVar_at (o := o) (b := b) (w := w') L [v] (by rw [hg]; rfl) (fun j u hj => by
    cases j with
    | zero => rw [hw]; exact hc 0 u (by simpa using hj)
    | succ j => simp at hj)
   rw [this, hg]
   rfl
theorem repL_map_f {imm : Nat → Prop} {xs : List F} {b o : Nat} (hi : c.imm = imm) (h : RepC imm w xs b o) : ∃ vs : List Value, RepL c w (xs.map .f) vs ∧ ∀ j v, vs[j]? = some v → w.cell? ⟨b, o + j, none⟩ = some v := by
 induction xs generalizing o with
 | nil => exact ⟨[], repL_nil, fun j v hj => by simp at hj⟩
 | cons x xs ih =>
  unfold RepC at h
  obtain ⟨⟨y, h1, h2⟩, h3⟩ := h
  obtain ⟨vs, h4, h5⟩ := ih h3
  refine ⟨y :: vs, repL_cons (by unfold Rep; rw [hi]; exact h2) h4, fun j v hj => ?_⟩
  cases j with
  | zero => simp at hj; subst hj; exact h1
  | succ j => rw [show o + (j + 1) = o + 1 + j by omega]; exact h5 j v (by simpa using hj)
theorem varFK_map {ti : TI} {cs : List F} {K : D → Prop} (h : varFK ti cs K) : varK ti (cs.map .f) K := by
 unfold varFK at h
 unfold varK
 cases hg : ti.isAgg with
 | true =>
  simp only [hg, cond_true] at h ⊢
  obtain ⟨h1, h2⟩ := takeK_open _ _ _ h
  have h3 := mapFK_open _ _ h2
  have : ∀ (n : Nat) (l : List D) (K : List D → Prop), n ≤ l.length → K (l.take n) → takeK n l K := by
   intro n
   induction n with
   | zero => intro l K _ h; simpa [takeK] using h
   | succ n ih =>
    intro l K hl h
    cases l with
    | nil => simp at hl
    | cons x l => exact ih l _ (by simpa using hl) (by simpa using h)
  exact this _ _ _ (by simpa using h1) (by simpa [List.map_take] using h3)
 | false =>
  simp only [hg, cond_false] at h ⊢
  cases cs with
  | nil => exact h.elim
  | cons x xs => exact h
theorem loadD_sound {T : Tab} (hT : TabOk P 0 T) (hC : Con B c w H n) {t : Nat} {p : D} {v : Value} (hp : Rep c w p v) {K : D → Prop} (h : loadD T t p H K) :
  ∃ d u, K d ∧ (∀ w' : World, Below w.heap.size w w' → (Instr.loadAt t v).run P w' = .ok u w') ∧ Rep c w d u := by
 unfold loadD at h
 split at h
 ·rename_i k o
  unfold Rep at hp
  obtain ⟨hk, rfl⟩ := hp
  cases hg : H.getD k none with
  | none => simp only [hg] at h
  | some cs =>
   simp only [hg] at h
   obtain ⟨ti, L, h⟩ := tiK_open hT h
   rw [dropL_eq] at h
   have hg' : H[k]? = some (some cs) := by
    rw [List.getD_eq_getElem?_getD] at hg
    cases hh : H[k]? with
    | none => rw [hh] at hg; cases hg
    | some x => rw [hh] at hg; simp at hg; rw [hg]
   obtain ⟨C, U, e, hr⟩ := hC.objs k cs hg'
   obtain ⟨d, u, h1, h2, h3⟩ := varK_sound (b := c.φ k) (o := o) L (hr.drop o) (fun j v hj => by
    rw [cell_of_row w _ _ C U (0, 0) e]
    simpa [List.getElem?_drop] using hj) h
   refine ⟨d, u, h1, fun w' hb => ?_, h3⟩
   have := h2 w' (fun o => cell_of_heap (hb.block _ (hC.objLt hg')) o)
   simp [Instr.loadAt, Instr.sureAddr, this]
 ·rename_i cs
  obtain ⟨ti, L, h⟩ := tiK_open hT h
  unfold Rep at hp
  obtain ⟨b, o, rfl, hi, hr⟩ := hp
  obtain ⟨vs, h1, h2⟩ := repL_map_f (c := c) rfl hr
  obtain ⟨d, u, h3, h4, h5⟩ := varK_sound L h1 h2 (varFK_map h)
  refine ⟨d, u, h3, fun w' hb => ?_, h5⟩
  have := h4 w' (fun o => cell_of_heap (hb.block _ (hC.immB _ hi).1) o)
  simp [Instr.loadAt, Instr.sureAddr, this]
 ·rename_i k e s es i o
  cases hg : es[i]? with
  | none => simp only [hg] at h
  | some r =>
   simp only [hg] at h
   obtain ⟨ti, L, h⟩ := tiK_open hT h
   rw [dropL_eq] at h
   unfold Rep at hp
   obtain ⟨hkn, ⟨hs, xs, ho, hrow⟩, hi, b, oo, m, cap, hτ, rfl⟩ := hp
   obtain ⟨ys, h1, h2, h3⟩ := hrow.get i r hg
   rw [hτ] at ho
   rcases ho.2 with ⟨h0, _⟩ | ⟨g, cap', cur, e1, _, ⟨fz, _, hh⟩, _, _, _, htake⟩
   ·cases h0
   ·cases e1
    have hcell : ∀ j v, ys[j]? = some v → w.cell? ⟨b, 0 + i * s + j, none⟩ = some v := fun j v hj => by
     have := h3 j v hj
     rw [cell_of_row w _ _ cur e fz hh]
     rw [← htake, List.getElem?_take] at this
     split at this
     ·simpa [Nat.zero_add] using this
     ·cases this
    have hC' := (RepFs.toC h1 hcell).drop o
    obtain ⟨vs, h4, h5⟩ := repL_map_f (c := c) rfl hC'
    obtain ⟨d, u, h6, h7, h8⟩ := varK_sound L h4 h5 (varFK_map h)
    rw [Nat.zero_add] at h7
    refine ⟨d, u, h6, fun w' hb => ?_, h8⟩
    have := h7 w' (fun o => cell_of_heap (hb.block _ (Array.getElem?_eq_some_iff.1 hh).1) o)
    simp [Instr.loadAt, Instr.sureAddr, this]
 ·exact h.elim
theorem offK_sound {T : Tab} (hT : TabOk P 0 T) {t f : Nat} {K : Nat → TI → Prop} (h : offK T t f K) :
  ∃ (fs : Array Field) (g : Field) (u : TI), P.underlying t = some (.struct fs) ∧ fs[f]? = some g ∧ Lay P g.type u ∧ K g.offset u := by
 unfold offK at h
 obtain ⟨ti, L, h⟩ := tiK_open hT h
 split at h
 ·rename_i fs hd
  cases hg : fs.toList[f]? with
  | none => simp only [hg] at h
  | some g =>
   simp only [hg] at h
   obtain ⟨u, L', h⟩ := tiK_open hT h
   exact ⟨fs, g, u, by rw [L.und, hd], by simpa using hg, L', h⟩
 ·exact h.elim
theorem fieldAddrD_sound {T : Tab} (hT : TabOk P 0 T) {t f : Nat} {p : D} {v : Value} (hp : Rep c w p v) {K : D → Prop} (h : fieldAddrD T t p f K) :
  ∃ d u, K d ∧ (∀ w' : World, (Instr.fieldAt t v f).run P w' = .ok u w') ∧ Rep c w d u := by
 unfold fieldAddrD at h
 simp only [numK_eq] at h
 obtain ⟨fs, g, u, hu, hf, L, h⟩ := offK_sound hT h
 cases hz : Nat.beq u.size 0 with
 | true => simp only [hz, cond_true] at h
 | false =>
  simp only [hz, cond_false] at h
  have hz' : u.size ≠ 0 := fun e => by rw [e] at hz; cases hz
  have run : ∀ (b o : Nat) (w : World), (Instr.fieldAt t (.pointer (some ⟨b, o, none⟩)) f).run P w = .ok (.pointer (some ⟨b, o + g.offset, none⟩)) w := fun b o w => by
   simp [Instr.fieldAt, run_underlying hu, hf, Instr.sureAddr, fieldPlace, L.run_sizeOf w, hz', addr_add]
  split at h
  ·rename_i k o
   unfold Rep at hp
   obtain ⟨hk, rfl⟩ := hp
   exact ⟨_, _, h, run _ _, by unfold Rep; exact ⟨hk, rfl⟩⟩
  ·rename_i cs
   unfold Rep at hp
   obtain ⟨b, o, rfl, hi, hr⟩ := hp
   rw [dropL_eq] at h
   exact ⟨_, _, h, run _ _, by unfold Rep; exact ⟨b, _, rfl, hi, hr.drop _⟩⟩
  ·rename_i k e s es i o
   unfold Rep at hp
   obtain ⟨hkn, ho, hi, b, oo, m, cap, hτ, rfl⟩ := hp
   refine ⟨_, _, h, run _ _, ?_⟩
   unfold Rep
   exact ⟨hkn, ho, hi, b, oo, m, cap, hτ, by rw [Nat.add_assoc]⟩
  ·exact h.elim
theorem run_part {g : Nat} {u : TI} (L : Lay P g u) (vs : List Value) (o : Nat) {cs : List D} (hr : RepL c w cs vs) {K : D → Prop} (h : varK u (cs.drop o) K) :
  ∃ d v, K d ∧ (∀ w' : World, (part g vs.toArray o).run P w' = .ok v w') ∧ Rep c w d v := by
 unfold varK at h
 cases hg : u.isAgg with
 | true =>
  simp only [hg, cond_true] at h
  obtain ⟨h1, h2⟩ := takeK_open _ _ _ h
  refine ⟨_, .agg ((vs.drop o).take u.size).toArray, h2, fun w' => ?_, by unfold Rep; exact ⟨_, rfl, (hr.drop o).take _⟩⟩
  unfold part
  simp only [Sem.run_bind, L.run_isAgg w', Result.andThen_ok, hg, if_true, L.run_sizeOf w', Sem.run_pure]
  congr 2
  apply Array.ext'
  rw [Array.toList_extract]
  simp [List.extract_eq_take_drop]
 | false =>
  simp only [hg, cond_false] at h
  have hrd := hr.drop o
  cases hcs : cs.drop o with
  | nil => rw [hcs] at h; exact h.elim
  | cons d r =>
   rw [hcs] at h hrd
   simp only [force_eq] at h
   unfold RepL at hrd
   obtain ⟨v, vs', e, h1, h2⟩ := hrd
   refine ⟨d, v, h, fun w' => ?_, h1⟩
   have : vs[o]? = some v := by
    have := congrArg (fun l => l[0]?) e
    simpa [List.getElem?_drop] using this
   unfold part
   simp only [Sem.run_bind, L.run_isAgg w', Result.andThen_ok, hg, Bool.false_eq_true, if_false]
   simp [this]
theorem fieldD_sound {T : Tab} (hT : TabOk P 0 T) {t f : Nat} {x : D} {v : Value} (hx : Rep c w x v) {K : D → Prop} (h : fieldD T t x f K) :
  ∃ d u, K d ∧ (∀ w' : World, (Instr.field t v f).run P w' = .ok u w') ∧ Rep c w d u := by
 unfold fieldD at h
 obtain ⟨fs, g, u, hu, hf, L, h⟩ := offK_sound hT h
 split at h
 ·rename_i cs
  unfold Rep at hx
  obtain ⟨vs, rfl, hr⟩ := hx
  rw [dropL_eq] at h
  obtain ⟨d, z, h1, h2, h3⟩ := run_part L vs g.offset hr h
  exact ⟨d, z, h1, fun w' => by simp [Instr.field, run_underlying hu, hf, asAgg, h2 w'], h3⟩
 ·exact h.elim
theorem indexAddrD_sound {T : Tab} (hT : TabOk P 0 T) {t : Nat} {x i : D} {v j : Value} (hx : Rep c w x v) (hi : Rep c w i j) {K : D → Prop} (h : indexAddrD T t x i K) :
  ∃ d u, K d ∧ (∀ w' : World, (Instr.indexAt t v j).run P w' = .ok u w') ∧ Rep c w d u := by
 unfold indexAddrD at h
 split at h
 ·rename_i es k i
  have e1 := rep_v hi
  subst e1
  obtain ⟨ti, L, h⟩ := tiK_open hT h
  split at h
  ·rename_i e hd
   obtain ⟨u, L', h⟩ := tiK_open hT h
   obtain ⟨hl, h⟩ := Owes.open h
   obtain ⟨m, r, rfl, hm, h⟩ := Elem.open h
   have hlt : m < es.length := (List.getElem?_eq_some_iff.1 hm).1
   unfold Rep RepF at hx
   rcases hx with ⟨_, rfl⟩ | ⟨b, o, cap, rfl, hc, him, hr⟩
   ·simp at hlt
   ·have hu : P.underlying t = some (.slice e) := by rw [L.und, hd]
    refine ⟨_, .pointer (some ⟨b, o + m * u.size, none⟩), h, fun w' => ?_, ?_⟩
    ·simp [Instr.indexAt, asIntOf, run_underlying hu, L'.run_sizeOf w', hlt, addr_add]
    ·unfold Rep
     exact ⟨b, _, rfl, him, hr.get hl m r hm⟩
  ·exact h.elim
 ·rename_i k e s es k' i
  have e1 := rep_v hi
  subst e1
  obtain ⟨ti, L, h⟩ := tiK_open hT h
  split at h
  ·rename_i e' hd
   obtain ⟨u, L', h⟩ := tiK_open hT h
   obtain ⟨hl, h⟩ := Owes.open h
   obtain ⟨m, r, rfl, hm, h⟩ := Elem.open h
   have hlt : m < es.length := (List.getElem?_eq_some_iff.1 hm).1
   unfold Rep at hx
   obtain ⟨hkn, rfl, ho⟩ := hx
   have hu : P.underlying t = some (.slice e') := by rw [L.und, hd]
   have ho' := ho
   obtain ⟨hs, xs, how, hrow⟩ := ho
   rcases how.2 with ⟨_, h0⟩ | ⟨g, cap, cur, e1, _, hh, _, _, _, _⟩
   ·omega
   ·refine ⟨_, .pointer (some ⟨g, m * s, none⟩), h, fun w' => ?_, ?_⟩
    ·rw [e1]
     simp [Instr.indexAt, asIntOf, run_underlying hu, L'.run_sizeOf w', hlt, addr_add, hl]
    ·unfold Rep
     exact ⟨hkn, ho', by simpa using hlt, g, 0, _, cap, e1, by simp⟩
  ·exact h.elim
 ·rename_i k o k' i
  have e1 := rep_v hi
  subst e1
  obtain ⟨ti, L, h⟩ := tiK_open hT h
  split at h
  ·rename_i m e hd
   obtain ⟨u, L', h⟩ := tiK_open hT h
   obtain ⟨hb, h⟩ := Owes.open h
   have hu : P.underlying t = some (.array m e) := by rw [L.und, hd]
   unfold Rep at hx
   obtain ⟨hk, rfl⟩ := hx
   refine ⟨_, .pointer (some ⟨c.φ k, o + i.toNat * u.size, none⟩), h, fun w' => ?_, by unfold Rep; exact ⟨hk, rfl⟩⟩
   simp [Instr.indexAt, asIntOf, run_underlying hu, L'.run_sizeOf w', hb.1, hb.2, addr_add, Instr.sureAddr]
  ·exact h.elim
 ·rename_i cs k' i
  have e1 := rep_v hi
  subst e1
  obtain ⟨ti, L, h⟩ := tiK_open hT h
  split at h
  ·rename_i m e hd
   obtain ⟨u, L', h⟩ := tiK_open hT h
   obtain ⟨hb, h⟩ := Owes.open h
   have hu : P.underlying t = some (.array m e) := by rw [L.und, hd]
   unfold Rep at hx
   obtain ⟨b, o, rfl, him, hr⟩ := hx
   refine ⟨_, .pointer (some ⟨b, o + i.toNat * u.size, none⟩), h, fun w' => ?_, by unfold Rep; exact ⟨b, _, rfl, him, hr.drop _⟩⟩
   simp [Instr.indexAt, asIntOf, run_underlying hu, L'.run_sizeOf w', hb.1, hb.2, addr_add, Instr.sureAddr]
  ·exact h.elim
 ·exact h.elim
theorem indexD_sound {T : Tab} (hT : TabOk P 0 T) {t : Nat} {x i : D} {v j : Value} (hx : Rep c w x v) (hi : Rep c w i j) {K : D → Prop} (h : indexD T t x i K) :
  ∃ d u, K d ∧ (∀ w' : World, (Instr.index t v j).run P w' = .ok u w') ∧ Rep c w d u := by
 unfold indexD at h
 split at h
 ·rename_i s k i
  have e1 := rep_v hi
  have e2 := rep_v hx
  subst e1 e2
  obtain ⟨ti, L, h⟩ := tiK_open hT h
  split at h
  ·rename_i hd
   obtain ⟨m, r, rfl, hm, h⟩ := Byte.open h
   have hu : P.underlying t = some .string := by rw [L.und, hd]
   have hlt : m < s.size := (List.getElem?_eq_some_iff.1 hm).1
   have hb : s[m]? = some r := by
    have : s.data[m]? = some r := by simpa using hm
    rw [getElem?_pos s m hlt]
    have := (Array.getElem?_eq_some_iff.1 this).2
    exact congrArg some this
   exact ⟨_, _, h, fun w' => by simp [Instr.index, asIntOf, run_underlying hu, hb], rep_of _ rfl⟩
  ·exact h.elim
 ·rename_i cs k i
  have e1 := rep_v hi
  subst e1
  obtain ⟨ti, L, h⟩ := tiK_open hT h
  split at h
  ·rename_i m e hd
   obtain ⟨u, L', h⟩ := tiK_open hT h
   obtain ⟨hb, h⟩ := Owes.open h
   have hu : P.underlying t = some (.array m e) := by rw [L.und, hd]
   unfold Rep at hx
   obtain ⟨vs, rfl, hr⟩ := hx
   obtain ⟨d, z, h1, h2, h3⟩ := run_part L' vs (i.toNat * u.size) hr h
   exact ⟨d, z, h1, fun w' => by simp [Instr.index, asIntOf, run_underlying hu, hb.1, hb.2, L'.run_sizeOf w', h2 w'], h3⟩
  ·exact h.elim
 ·exact h.elim
theorem lenD_sound {T : Tab} (hT : TabOk P 0 T) {t ty : Nat} {x : D} {v : Value} (hx : Rep c w x v) {K : D → Prop} (h : lenD T t x K) :
  ∃ z, z.oneCell' = true ∧ K (.f (.v z)) ∧ ∀ w' : World, (Builtin.len_ #[t] ty #[v]).run P w' = .ok z w' := by
 unfold lenD at h
 obtain ⟨ti, L, h⟩ := tiK_open hT h
 split at h
 ·rename_i e hd
  have hu : P.underlying t = some (.slice e) := by rw [L.und, hd]
  split at h
  ·rename_i es
   unfold Rep RepF at hx
   rcases hx with ⟨⟨a, rfl⟩, rfl⟩ | ⟨b, o, cap, rfl, _⟩
   ·exact ⟨_, rfl, h, fun w' => by simp [Builtin.len_, run_underlying hu, goInt]⟩
   ·exact ⟨_, rfl, h, fun w' => by simp [Builtin.len_, run_underlying hu, goInt]⟩
  ·rename_i k t' s es
   unfold Rep at hx
   obtain ⟨hkn, rfl, hs, xs, how, _⟩ := hx
   rcases how.2 with ⟨h1, h0⟩ | ⟨g, cap, cur, e1, _⟩
   ·exact ⟨_, rfl, h, fun w' => by simp [Builtin.len_, run_underlying hu, goInt, h1, h0]⟩
   ·exact ⟨_, rfl, h, fun w' => by simp [Builtin.len_, run_underlying hu, goInt, e1]⟩
  ·unfold Rep at hx
   subst hx
   exact ⟨_, rfl, h, fun w' => by simp [Builtin.len_, run_underlying hu, goInt]⟩
  ·exact h.elim
 ·rename_i hd
  have hu : P.underlying t = some .string := by rw [L.und, hd]
  split at h
  ·have e2 := rep_v hx
   subst e2
   exact ⟨_, rfl, h, fun w' => by simp [Builtin.len_, run_underlying hu, goInt]⟩
  ·exact h.elim
 ·rename_i m e hd
  have hu : P.underlying t = some (.array m e) := by rw [L.und, hd]
  exact ⟨_, rfl, h, fun w' => by simp [Builtin.len_, run_underlying hu, goInt]⟩
 ·exact h.elim
end
theorem RepF.oneCell {imm : Nat → Prop} {w : World} {x : F} {v : Value} (h : RepF imm w x v) : v.oneCell' = true := by
 cases x with
 | v x => unfold RepF at h; obtain ⟨rfl, h⟩ := h; exact h
 | sl es => unfold RepF at h; rcases h with ⟨⟨_, rfl⟩, _⟩ | ⟨b, o, cap, rfl, _⟩ <;> rfl
theorem OwnOk.oneCell {imm : Nat → Prop} {w : World} {v : Value} {t s : Nat} {es : List (List F)} (h : OwnOk imm w v t s es) : v.oneCell' = true := by
 obtain ⟨_, xs, how, _⟩ := h
 rcases how.2 with ⟨rfl, _⟩ | ⟨g, cap, cur, rfl, _⟩ <;> rfl
section
variable {P : Program} {c : Cx} {w : World} {H : Hp} {n : Nat} {B : Base}
theorem Rep.oneCell {d : D} {v : Value} (h : Rep c w d v) (ho : okD d = true) : v.oneCell' = true := by
 cases d with
 | junk => cases ho
 | agg cs => cases ho
 | tup cs => cases ho
 | f x => unfold Rep at h; exact h.oneCell
 | nil => unfold Rep at h; subst h; rfl
 | own k t s es => unfold Rep at h; obtain ⟨_, rfl, h⟩ := h; exact h.oneCell
 | optr k t s es i o => unfold Rep at h; obtain ⟨_, _, _, b, oo, m, cap, _, rfl⟩ := h; rfl
 | ptr k o => unfold Rep at h; obtain ⟨_, rfl⟩ := h; rfl
 | ip cs => unfold Rep at h; obtain ⟨b, o, rfl, _⟩ := h; rfl
 | fn g cs => unfold Rep at h; obtain ⟨vs, rfl, _⟩ := h; rfl
 | yl l ps x y cs => unfold Rep at h; obtain ⟨fn, df, vs, rfl, _⟩ := h; rfl
theorem okL_mem : ∀ {ds : List D} {vs : List Value}, okL ds = true → RepL c w ds vs → ∀ v ∈ vs, v.oneCell' = true
 | [], vs, _, h, v, hv => by unfold RepL at h; subst h; cases hv
 | d :: ds, vs, ho, h, v, hv => by
  unfold RepL at h
  obtain ⟨u, us, rfl, h1, h2⟩ := h
  unfold okL at ho
  simp only [Bool.and_eq_true] at ho
  rcases List.mem_cons.1 hv with rfl | hv
  ·exact h1.oneCell ho.1
  ·exact okL_mem ho.2 h2 v hv
theorem cells_of_oneCell {v : Value} (h : v.oneCell' = true) : v.cells = #[v] := by cases v <;> first | rfl | cases h
theorem cellsK_open {d : D} {v : Value} (h : Rep c w d v) {K : List D → Prop} (hk : cellsK d K) : ∃ cs, K cs ∧ RepL c w cs v.cells.toList ∧ ∀ u ∈ v.cells.toList, u.oneCell' = true := by
 by_cases ha : ∃ cs, d = .agg cs
 ·obtain ⟨cs, rfl⟩ := ha
  unfold cellsK at hk
  cases ho : okL cs with
  | false => simp only [ho, cond_false] at hk
  | true =>
   simp only [ho, cond_true] at hk
   unfold Rep at h
   obtain ⟨vs, rfl, hr⟩ := h
   exact ⟨cs, hk, hr, okL_mem ho hr⟩
 ·have hk' : (bif okD d then K [d] else False) := by
   unfold cellsK at hk
   split at hk
   ·exact absurd ⟨_, rfl⟩ ha
   ·exact hk
  cases ho : okD d with
  | false => simp only [ho, cond_false] at hk'
  | true =>
   simp only [ho, cond_true] at hk'
   have h1 := h.oneCell ho
   rw [cells_of_oneCell h1]
   exact ⟨[d], hk', repL_cons h repL_nil, fun u hu => by simp at hu; subst hu; exact h1⟩
def storeD (T : Tab) (t : Nat) (p x : D) (E : List D) (H : Hp) (n : Nat) (K : KD) : Prop :=
 match p with
 | .ptr k o => match H.getD k none with
  | some cs => tiK T t fun ti => cellsK x fun ds => bif Nat.beq ds.length ti.size then overK cs o ds (fun cs' => setHK H k (some cs') (fun H' => K .junk E H' n)) else False
  | none => False
 | .optr k t' s es i o => Elem es i fun r => tiK T t fun ti => cellsK x fun ds => bif Nat.beq ds.length ti.size && Nat.ble 1 ti.size then fsK ds fun xs => Owes (r.length = s) (overK r o xs fun r' => K .junk (updL k t' s (es.set i r') E) (updH k t' s (es.set i r') H) n) else False
 | _ => False
theorem getD_some {H : Hp} {k : Nat} {cs : Cells} (hg : H.getD k none = some cs) : H[k]? = some (some cs) := by
 rw [List.getD_eq_getElem?_getD] at hg
 cases hh : H[k]? with
 | none => rw [hh] at hg; cases hg
 | some x => rw [hh] at hg; simp at hg; rw [hg]
theorem RepL.over {cs ds : List D} {vs us : List Value} (h : RepL c w cs vs) (h' : RepL c w ds us) (o : Nat) : RepL c w (cs.take o ++ ds ++ cs.drop (o + ds.length)) (vs.take o ++ us ++ vs.drop (o + us.length)) := by
 rw [h'.length]
 exact ((h.take o).append h').append (h.drop _)
theorem beq_eq {a b : Nat} (h : Nat.beq a b = true) : a = b := Nat.eq_of_beq_eq_true h
theorem fsK_open : ∀ (ds : List D) (K : List F → Prop), fsK ds K → ∃ xs : List F, ds = xs.map .f ∧ K xs
 | [], K, h => ⟨[], rfl, h⟩
 | d :: ds, K, h => by
  unfold fsK at h
  split at h
  ·replace h := fsK_open ds _ h
   obtain ⟨xs, rfl, h⟩ := h
   exact ⟨_ :: xs, rfl, h⟩
  ·exact h.elim
theorem repL_fs : ∀ {xs : List F} {vs : List Value}, RepL c w (xs.map .f) vs → RepFs c.imm w xs vs
 | [], vs, h => by unfold RepFs; simpa [RepL] using h
 | x :: xs, vs, h => by
  rw [List.map_cons] at h
  unfold RepL at h
  obtain ⟨v, vs', rfl, h1, h2⟩ := h
  unfold RepFs
  exact ⟨v, vs', rfl, by unfold Rep at h1; exact h1, repL_fs h2⟩
theorem RepFs.length {imm : Nat → Prop} : ∀ {xs : List F} {vs : List Value}, RepFs imm w xs vs → vs.length = xs.length
 | [], vs, h => by unfold RepFs at h; subst h; rfl
 | x :: xs, vs, h => by
  unfold RepFs at h
  obtain ⟨v, vs', rfl, _, h2⟩ := h
  simp [h2.length]
theorem RepFs.app {imm : Nat → Prop} : ∀ {xs ys : List F} {vs us : List Value}, RepFs imm w xs vs → RepFs imm w ys us → RepFs imm w (xs ++ ys) (vs ++ us)
 | [], ys, vs, us, h, h' => by unfold RepFs at h; subst h; exact h'
 | x :: xs, ys, vs, us, h, h' => by
  unfold RepFs at h
  obtain ⟨v, vs', rfl, h1, h2⟩ := h
  rw [List.cons_append, List.cons_append]
  unfold RepFs
  exact ⟨v, _, rfl, h1, h2.app h'⟩
theorem RepFs.takeN {imm : Nat → Prop} : ∀ {xs : List F} {vs : List Value} (o : Nat), RepFs imm w xs vs → RepFs imm w (xs.take o) (vs.take o)
 | [], vs, o, h => by unfold RepFs at h; subst h; simp [RepFs]
 | x :: xs, vs, 0, h => by simp [RepFs]
 | x :: xs, vs, o + 1, h => by
  unfold RepFs at h
  obtain ⟨v, vs', rfl, h1, h2⟩ := h
  rw [List.take_succ_cons, List.take_succ_cons]
  unfold RepFs
  exact ⟨v, _, rfl, h1, h2.takeN o⟩
theorem RepFs.dropN {imm : Nat → Prop} : ∀ {xs : List F} {vs : List Value} (o : Nat), RepFs imm w xs vs → RepFs imm w (xs.drop o) (vs.drop o)
 | [], vs, o, h => by unfold RepFs at h; subst h; simp [RepFs]
 | x :: xs, vs, 0, h => by simpa using h
 | x :: xs, vs, o + 1, h => by
  unfold RepFs at h
  obtain ⟨v, vs', rfl, h1, h2⟩ := h
  rw [List.drop_succ_cons, List.drop_succ_cons]
  exact h2.dropN o
theorem take_over {α : Type} (l us : List α) (p m : Nat) (h : p + us.length ≤ m) (hm : m ≤ l.length) : (l.take p ++ us ++ l.drop (p + us.length)).take m = (l.take m).take p ++ us ++ (l.take m).drop (p + us.length) := by
 have hp : (l.take p).length = p := by rw [List.length_take]; omega
 rw [List.take_append, List.take_of_length_le (by rw [List.length_append, hp]; omega), List.length_append, hp, List.take_take, Nat.min_eq_left (by omega), List.drop_take]
theorem RepRows.over {imm : Nat → Prop} {s : Nat} : ∀ (es : List (List F)) (xs : List Value) (i : Nat) (r : List F) (o : Nat) {fs : List F} {us : List Value}, RepRows imm w s es xs → es[i]? = some r → o + us.length ≤ s → RepFs imm w fs us →
  RepRows imm w s (es.set i (r.take o ++ fs ++ r.drop (o + fs.length))) (xs.take (i * s + o) ++ us ++ xs.drop (i * s + o + us.length))
 | [], xs, i, r, o, fs, us, h, hi, _, _ => by simp at hi
 | e :: es, xs, 0, r, o, fs, us, h, hi, ho, hf => by
  simp at hi
  subst hi
  unfold RepRows at h
  obtain ⟨ys, zs, rfl, hl, h1, h2⟩ := h
  have hyl := h1.length
  have hfl := hf.length
  rw [List.set_cons_zero]
  unfold RepRows
  refine ⟨ys.take o ++ us ++ ys.drop (o + us.length), zs, ?_, ?_, ?_, h2⟩
  ·rw [Nat.zero_mul, Nat.zero_add, List.take_append_of_le_length (by omega), List.drop_append_of_le_length (by omega)]
   simp
  ·simp only [List.length_append, List.length_take, List.length_drop]
   omega
  ·rw [hfl]
   exact ((h1.takeN o).app hf).app (h1.dropN _)
 | e :: es, xs, i + 1, r, o, fs, us, h, hi, ho, hf => by
  unfold RepRows at h
  obtain ⟨ys, zs, rfl, hl, h1, h2⟩ := h
  have hyl := h1.length
  rw [List.set_cons_succ]
  unfold RepRows
  refine ⟨ys, _, ?_, hl, h1, RepRows.over es zs i r o h2 (by simpa using hi) ho hf⟩
  rw [show (i + 1) * s + o = ys.length + (i * s + o) by rw [Nat.add_mul]; omega, show ys.length + (i * s + o) + us.length = ys.length + (i * s + o + us.length) by omega, List.take_append, List.drop_append]
  rw [List.take_of_length_le (show ys.length ≤ ys.length + (i * s + o) by omega), List.drop_of_length_le (show ys.length ≤ ys.length + (i * s + o + us.length) by omega), Nat.add_sub_cancel_left, Nat.add_sub_cancel_left]
  simp
theorem storeD_sound {T : Tab} (hT : TabOk P 0 T) (hC : Con B c w H n) {E : List D} {ts : List Value} (hE : RepL c w E ts) {t : Nat} {p x : D} {u v : Value} (hp : Rep c w p u) (hx : Rep c w x v) {K : KD} (h : storeD T t p x E H n K) :
  ∃ E' H' c' w', K .junk E' H' n ∧ (Instr.storeAt t u v).run P w = .ok () w' ∧ Con B c' w' H' n ∧ RepL c' w' E' ts := by
 unfold storeD at h
 split at h
 ·rename_i k o
  unfold Rep at hp
  obtain ⟨hk, rfl⟩ := hp
  cases hg : H.getD k none with
  | none => simp only [hg] at h
  | some cs =>
   simp only [hg] at h
   obtain ⟨ti, L, h⟩ := tiK_open hT h
   obtain ⟨ds, h, hr, h1⟩ := cellsK_open hx h
   cases hb : Nat.beq ds.length ti.size with
   | false => simp only [hb, cond_false] at h
   | true =>
    simp only [hb, cond_true] at h
    have hl := beq_eq hb
    obtain ⟨h2, h3⟩ := overK_open _ _ _ _ h
    rw [setHK_eq] at h3
    have hg' := getD_some hg
    obtain ⟨C, U, e, hrC⟩ := hC.objs k cs hg'
    have hsz : v.cells.size = ti.size := by rw [← Array.length_toList, hr.length, hl]
    have hCl : C.toList.length = cs.length := hrC.length
    have hfit : o + 0 + v.cells.toList.length ≤ C.size ∨ ds = [] := by
     rcases h2 with rfl | h2
     ·exact .inr rfl
     ·left
      rw [hr.length, ← Array.length_toList, hCl]
      omega
    rcases hfit with hfit | rfl
    ·have hst := run_storeCells_at P (c.φ k) o U v.cells.toList 0 C w e hfit h1
     simp only [Nat.add_zero] at hst
     have hrep : RepL c w (if ds = [] then cs else cs.take o ++ ds ++ cs.drop (o + ds.length)) (C.toList.take o ++ v.cells.toList ++ C.toList.drop (o + v.cells.toList.length)) := by
      have := hrC.over hr o
      split
      ·rename_i e0
       subst e0
       have hv0 : v.cells.toList = [] := List.eq_nil_of_length_eq_zero (by rw [hr.length]; rfl)
       rw [hv0]
       simpa using hrC
      ·exact this
     obtain ⟨hC', hk'⟩ := hC.write hg' (C' := (C.toList.take o ++ v.cells.toList ++ C.toList.drop (o + v.cells.toList.length)).toArray) hrep
     refine ⟨_, _, _, _, h3, ?_, hC', hE.mono hk'⟩
     simp [Instr.storeAt, Instr.sureAddr, storeVar, L.run_sizeOf w, hsz, hst]
    ·have hv0 : v.cells.toList = [] := List.eq_nil_of_length_eq_zero (by rw [hr.length]; rfl)
     refine ⟨_, _, _, w, h3, ?_, ?_, hE⟩
     ·simp [Instr.storeAt, Instr.sureAddr, storeVar, L.run_sizeOf w, hsz, hv0, storeCells]
     ·have : H.set k (some (if ([] : List D) = [] then cs else List.take o cs ++ [] ++ List.drop (o + ([] : List D).length) cs)) = H := by
       simp only [if_true]
       apply List.ext_getElem?
       intro j
       by_cases hj : j = k
       ·subst hj
        rw [List.getElem?_set_self (List.getElem?_eq_some_iff.1 hg').1, hg']
       ·rw [List.getElem?_set_ne (by omega)]
      rw [this]
      exact hC
 ·rename_i k e s es i o
  replace h := Elem.open h
  obtain ⟨m, r, e0, hg, h⟩ := h
  have e0 : i = m := by omega
  subst e0
  obtain ⟨ti, L, h⟩ := tiK_open hT h
  obtain ⟨ds, h, hr, h1⟩ := cellsK_open hx h
  cases hb : (Nat.beq ds.length ti.size && Nat.ble 1 ti.size) with
  | false => simp only [hb, cond_false] at h
  | true =>
   simp only [hb, cond_true] at h
   simp only [Bool.and_eq_true] at hb
   have hl := beq_eq hb.1
   have hl1 := Nat.le_of_ble_eq_true hb.2
   replace h := fsK_open ds _ h
   obtain ⟨xs, rfl, h⟩ := h
   obtain ⟨hrl, h⟩ := Owes.open h
   obtain ⟨h2, h3⟩ := overK_open _ _ _ _ h
   unfold Rep at hp
   obtain ⟨hkn, ⟨hs, ys, ho, hrow⟩, hi, b, oo, m2, cap, hτ, rfl⟩ := hp
   rcases ho.2 with ⟨h0, _⟩ | ⟨g, cap', cur, e1, hb0, ⟨fz, hfz, hh⟩, hc, hm, hsz, htake⟩
   ·rw [hτ] at h0; cases h0
   ·rw [hτ] at e1
    cases e1
    have hus := repL_fs hr
    have hul : v.cells.toList.length = xs.length := by rw [hr.length]; simp
    have hsz2 : v.cells.size = ti.size := by rw [← Array.length_toList, hr.length, hl]
    have hin : (i + 1) * s ≤ es.length * s := Nat.mul_le_mul_right _ hi
    have hin2 : es.length * s ≤ cap * s := Nat.mul_le_mul_right _ hc
    rw [Nat.add_mul, Nat.one_mul] at hin
    have hxl : xs.length = ti.size := by rw [← hl]; simp
    have hox : o + xs.length ≤ s := by
     rcases h2 with rfl | h2
     ·simp at hxl; omega
     ·omega
    have hst := run_storeCells_atM P b (i * s + o) e fz v.cells.toList 0 cur w hh hfz (by rw [hul]; omega) h1
    simp only [Nat.add_zero] at hst
    have hE2 : (if xs = [] then r else r.take o ++ xs ++ r.drop (o + xs.length)) = r.take o ++ xs ++ r.drop (o + xs.length) := by
     split
     ·rename_i e0; subst e0; simp
     ·rfl
    rw [hE2] at h3
    let w' := w.setRow b (cur.toList.take (i * s + o) ++ v.cells.toList ++ cur.toList.drop (i * s + o + v.cells.toList.length)).toArray
    have hsz3 : (cur.toList.take (i * s + o) ++ v.cells.toList ++ cur.toList.drop (i * s + o + v.cells.toList.length)).toArray.size = cur.size := by
     simp only [List.size_toArray, List.length_append, List.length_take, List.length_drop, Array.length_toList]
     omega
    have hkn' : k < n := by rw [← hC.nlen]; exact hkn
    have hgr : w.grownBy w' (blk (c.τ k)) := ⟨rfl, rfl, rfl, by show _ ≤ (w.setRow _ _).heap.size; rw [setRow_size]; exact Nat.le_refl _, fun j hj hn => setRow_other w b j _ (fun e2 => hn (by rw [hτ, e2]; rfl))⟩
    obtain ⟨c', hC', hk', hτ', hO'⟩ := hC.upd (w' := w') (t := e) (s := s) (es := es.set i (r.take o ++ xs ++ r.drop (o + xs.length))) hkn' hgr (setRow_size _ _ _) (fun himm => by
     refine ⟨hs, ys.take (i * s + o) ++ v.cells.toList ++ ys.drop (i * s + o + v.cells.toList.length), ⟨?_, .inr ⟨b, cap, _, ?_, Nat.zero_le _, ⟨fz, hfz.same hsz3, setRow_heap w b cur _ e _ hh⟩, by simpa using hc, hm, ?_, ?_⟩⟩, ?_⟩
     ·rw [List.length_set]
      have := ho.1
      simp only [List.length_append, List.length_take, List.length_drop]
      omega
     ·rw [hτ, List.length_set]
     ·rw [hsz3, hsz]
     ·rw [List.length_set]
      simp only [← htake]
      exact take_over cur.toList v.cells.toList (i * s + o) (es.length * s) (by rw [hul]; omega) (by simp; omega)
     ·exact (RepRows.over es ys i r o hrow hg (by rw [hul]; omega) hus).mono (fun b hb => ⟨hb, himm b hb⟩))
    refine ⟨_, _, c', w', h3, ?_, hC', RepL.upd hk' hτ' hO' _ _ hE⟩
    rw [show (⟨b, 0 + i * s + o, none⟩ : Addr) = ⟨b, i * s + o, none⟩ by rw [Nat.zero_add]]
    simp [Instr.storeAt, Instr.sureAddr, storeVar, L.run_sizeOf w, hsz2, hst, w']
 ·exact h.elim
def placesK (T : Tab) : List Field → (List (Nat × Nat) → Prop) → Prop
 | [], K => K []
 | f :: fs, K => tiK T f.type fun u => placesK T fs fun ps => K ((f.offset, u.size) :: ps)
def partsK (E : List D) (place : Nat → Option (Nat × Nat)) : List (Nat × Operand) → List D → (List D → Prop) → Prop
 | [], cs, K => K cs
 | (i, x) :: r, cs, K => evK E x fun d => cellsK d fun ds => match place i with
  | some (off, size) => bif Nat.beq ds.length size && Nat.ble (off + ds.length) cs.length then overK cs off ds (fun cs' => partsK E place r cs' K) else False
  | none => False
def buildD (T : Tab) (t : Nat) (parts : List (Nat × Operand)) (E : List D) (K : D → Prop) : Prop :=
 tiK T t fun ti => match ti.desc with
  | .struct fs => placesK T fs.toList fun ps => partsK E (fun i => ps[i]?) parts (ofCs ti.zero) fun cs => K (.agg cs)
  | .array _ e => tiK T e fun u => partsK E (fun i => some (i * u.size, u.size)) parts (ofCs ti.zero) fun cs => K (.agg cs)
  | _ => False
theorem foldl_set (ys : List Value) : ∀ (off j : Nat) (cs : Array Value), off + j + ys.length ≤ cs.size →
  ((ys.zipIdx j).foldl (fun (cs : Array Value) (x : Value × Nat) => cs.setIfInBounds (off + x.2) x.1) cs).toList = cs.toList.take (off + j) ++ ys ++ cs.toList.drop (off + j + ys.length) := by
 induction ys with
 | nil => intro off j cs h; simp
 | cons y ys ih =>
  intro off j cs h
  simp only [List.zipIdx_cons, List.foldl_cons]
  rw [ih off (j + 1) _ (by simp at h ⊢; omega)]
  simp only [List.length_cons] at h
  have hlt : off + j < cs.toList.length := by simp; omega
  simp only [Array.toList_setIfInBounds]
  apply List.ext_getElem?
  intro m
  simp only [List.getElem?_append, List.getElem?_take, List.getElem?_drop, List.getElem?_set, List.length_append, List.length_take, List.length_set, List.length_cons, List.getElem?_cons]
  grind
theorem fill_sound {place : Nat → Option (Nat × Nat)} {E : List D} {a : Act} (hE : RepL c w E a.tmps.toList) : ∀ (parts : List (Nat × Operand)) (cs : List D) (vs : Array Value) (K : List D → Prop), RepL c w cs vs.toList → partsK E place parts cs K →
  ∃ cs' vs', K cs' ∧ Instr.fill place vs (parts.map fun (i, x) => (i, a.eval x)) = some vs' ∧ RepL c w cs' vs'.toList
 | [], cs, vs, K, hr, h => ⟨cs, vs, h, rfl, hr⟩
 | (i, x) :: r, cs, vs, K, hr, h => by
  unfold partsK at h
  rw [evK_eq] at h
  obtain ⟨ds, h, hd, h1⟩ := cellsK_open (rep_ev hE x) h
  cases hp : place i with
  | none => simp only [hp] at h
  | some q =>
   obtain ⟨off, size⟩ := q
   simp only [hp] at h
   cases hb : (Nat.beq ds.length size && Nat.ble (off + ds.length) cs.length) with
   | false => simp only [hb, cond_false] at h
   | true =>
    simp only [hb, cond_true] at h
    simp only [Bool.and_eq_true] at hb
    have e1 := beq_eq hb.1
    have e2 := Nat.le_of_ble_eq_true hb.2
    obtain ⟨_, h3⟩ := overK_open _ _ _ _ h
    have hsz : (a.eval x).cells.size = ds.length := by rw [← Array.length_toList, hd.length]
    have hvs : vs.size = cs.length := by rw [← Array.length_toList, hr.length]
    have hf := foldl_set (a.eval x).cells.toList off 0 vs (by rw [hd.length, hvs]; omega)
    simp only [Nat.add_zero] at hf
    have hrep : RepL c w (if ds = [] then cs else cs.take off ++ ds ++ cs.drop (off + ds.length)) (((a.eval x).cells.zipIdx.foldl (fun cs (c, j) => cs.setIfInBounds (off + j) c) vs)).toList := by
     rw [← Array.foldl_toList, Array.toList_zipIdx, hf]
     have := hr.over hd off
     split
     ·rename_i e0
      subst e0
      have hv0 : (a.eval x).cells.toList = [] := List.eq_nil_of_length_eq_zero (by rw [hd.length]; rfl)
      rw [hv0]
      simpa using hr
     ·exact this
    obtain ⟨cs', vs', h4, h5, h6⟩ := fill_sound hE r _ _ K hrep h3
    refine ⟨cs', vs', h4, ?_, h6⟩
    simp only [List.map_cons, Instr.fill, hp]
    rw [if_neg]
    ·exact h5
    ·simp [hsz, e1, hvs]
     omega
theorem placesK_open {T : Tab} (hT : TabOk P 0 T) : ∀ (fs : List Field) (K : List (Nat × Nat) → Prop), placesK T fs K →
  ∃ ps, K ps ∧ (fs.mapM (m := Sem) fun f => do pure (f.offset, ← sizeOf f.type)).run P w = .ok ps w
 | [], K, h => ⟨[], h, rfl⟩
 | f :: fs, K, h => by
  unfold placesK at h
  obtain ⟨u, L, h⟩ := tiK_open hT h
  obtain ⟨ps, h1, h2⟩ := placesK_open hT fs _ h
  refine ⟨_, h1, ?_⟩
  simp at h2
  simp [List.mapM_cons, L.run_sizeOf w, h2]
theorem buildD_sound {T : Tab} (hT : TabOk P 0 T) {E : List D} {a : Act} (hE : RepL c w E a.tmps.toList) {t : Nat} {parts : Array (Nat × Operand)} {K : D → Prop} (h : buildD T t parts.toList E K) :
  ∃ d v, K d ∧ (Instr.build t (parts.map fun (i, x) => (i, a.eval x))).run P w = .ok v w ∧ Rep c w d v := by
 unfold buildD at h
 obtain ⟨ti, L, h⟩ := tiK_open hT h
 have hz : RepL c w (ofCs ti.zero) ti.zval.cells.toList := by rw [L.zero]; exact repL_ofCs _
 split at h
 ·rename_i fs hd
  have hu : P.underlying t = some (.struct fs) := by rw [L.und, hd]
  obtain ⟨ps, h1, h2⟩ := placesK_open (w := w) hT _ _ h
  obtain ⟨cs', vs', h3, h4, h5⟩ := fill_sound hE _ _ _ _ hz h1
  refine ⟨_, .agg vs', h3, ?_, by unfold Rep; exact ⟨vs'.toList, by simp, h5⟩⟩
  have h2' : (fs.mapM (m := Sem) fun f => do pure (f.offset, ← sizeOf f.type)).run P w = .ok ps.toArray w := by
   rw [Array.mapM_eq_mapM_toList]
   simp at h2
   simp [h2]
  simp only [Instr.build, Sem.run_bind, L.run_zeroValue w, run_underlying hu, Result.andThen_ok, h2']
  have e1 : (parts.map fun (i, x) => (i, a.eval x)).toList = parts.toList.map fun (i, x) => (i, a.eval x) := by simp
  have e2 : (fun i : Nat => (ps.toArray)[i]?) = fun i : Nat => ps[i]? := by funext i; simp
  rw [e1, e2, h4]
  rfl
 ·rename_i m e hd
  have hu : P.underlying t = some (.array m e) := by rw [L.und, hd]
  obtain ⟨u, L', h⟩ := tiK_open hT h
  obtain ⟨cs', vs', h3, h4, h5⟩ := fill_sound hE _ _ _ _ hz h
  refine ⟨_, .agg vs', h3, ?_, by unfold Rep; exact ⟨vs'.toList, by simp, h5⟩⟩
  simp only [Instr.build, Sem.run_bind, L.run_zeroValue w, run_underlying hu, Result.andThen_ok, L'.run_sizeOf w]
  have e1 : (parts.map fun (i, x) => (i, a.eval x)).toList = parts.toList.map fun (i, x) => (i, a.eval x) := by simp
  rw [e1, h4]
  rfl
 ·exact h.elim
end
def frzK : Nat → List D → List D → Hp → (List F → List D → Hp → Prop) → Prop
 | _, [], E, H, K => K [] E H
 | 0, _ :: _, _, _, _ => False
 | m + 1, d :: ds, E, H, K => match d with
  | .f x => frzK m ds E H fun xs E H => K (x :: xs) E H
  | .nil => frzK m ds E H fun xs E H => K (.sl [] :: xs) E H
  | .own k _ _ es => frzK m (killL k ds) (killL k E) (killH k H) fun xs E H => K (.sl es :: xs) E H
  | _ => False
def rowsK (size : Nat) : List (Nat × Operand) → Nat → List D → Hp → (List (List F) → List D → Hp → Prop) → Prop
 | [], _, E, H, K => K [] E H
 | (j, x) :: r, i, E, H, K => bif Nat.beq j i then evK E x fun d => cellsK d fun ds => bif Nat.beq ds.length size then
   frzK ds.length ds E H fun xs E H => rowsK size r (i + 1) E H fun rows E H => K (xs :: rows) E H else False else False
def buildSliceD (T : Tab) (t len : Nat) (parts : List (Nat × Operand)) (E : List D) (H : Hp) (n : Nat) (K : KD) : Prop :=
 tiK T t fun ti => match ti.desc with
  | .slice e => tiK T e fun u => bif Nat.beq parts.length len && Nat.ble (len * u.size) 16777216 && Nat.ble 1 u.size then
    rowsK u.size parts 0 E H fun rows E H => K (.own n e u.size rows) E H (n + 1) else False
  | _ => False
theorem RepRows.toR {imm : Nat → Prop} {w : World} {s : Nat} : ∀ {es : List (List F)} {xs : List Value} {b o : Nat}, RepRows imm w s es xs → (∀ j v, xs[j]? = some v → w.cell? ⟨b, o + j, none⟩ = some v) → RepR imm w es b o
 | [], _, _, _, _, _ => by unfold RepR; trivial
 | e :: es, xs, b, o, h, hc => by
  unfold RepRows at h
  obtain ⟨ys, zs, rfl, hl, h1, h2⟩ := h
  have hys : ys.length = e.length := by
   have : ∀ {xs : List F} {vs : List Value}, RepFs imm w xs vs → vs.length = xs.length := by
    intro xs
    induction xs with
    | nil => intro vs h; unfold RepFs at h; subst h; rfl
    | cons x xs ih => intro vs h; unfold RepFs at h; obtain ⟨v, vs', rfl, _, h⟩ := h; simp [ih h]
   exact this h1
  unfold RepR
  refine ⟨h1.toC (fun j v hj => hc j v ?_), h2.toR (fun j v hj => ?_)⟩
  ·have : j < ys.length := (List.getElem?_eq_some_iff.1 hj).1
   rw [List.getElem?_append_left this]; exact hj
  ·rw [show o + e.length + j = o + (ys.length + j) by omega]
   refine hc _ v ?_
   rw [List.getElem?_append_right (by omega), show ys.length + j - ys.length = j by omega]
   exact hj
theorem OwnOk.toF {imm imm' : Nat → Prop} {w : World} {v : Value} {t s : Nat} {es : List (List F)} (h : OwnOk imm w v t s es) (hk : ImmKeep imm imm' w w) (hb : ∀ b, blk v = some b → imm' b) : RepF imm' w (.sl es) v := by
 obtain ⟨hs, xs, how, hr⟩ := h
 unfold RepF
 rcases how.2 with ⟨rfl, h0⟩ | ⟨g, cap, cur, rfl, _, ⟨fz, _, hh⟩, hc, _, _, htake⟩
 ·exact .inl ⟨⟨_, rfl⟩, List.eq_nil_of_length_eq_zero h0⟩
 ·refine .inr ⟨g, 0, cap, rfl, hc, hb g rfl, (hr.mono hk).toR (fun j v hj => ?_)⟩
  rw [cell_of_row w _ _ cur t fz hh]
  rw [← htake, List.getElem?_take] at hj
  split at hj
  ·simpa [Nat.zero_add] using hj
  ·cases hj
section
variable {P : Program} {c : Cx} {w : World} {H : Hp} {n : Nat} {B : Base}
theorem ImmKeep.rfl' {i : Nat → Prop} : ImmKeep i i w w := fun b h => ⟨h, rfl⟩
theorem ImmKeep.trans {i j k : Nat → Prop} (h : ImmKeep i j w w) (h' : ImmKeep j k w w) : ImmKeep i k w w := fun b hb => ⟨(h' b (h b hb).1).1, rfl⟩
theorem frzK_sound {ts : List Value} : ∀ (m : Nat) {c : Cx} {H : Hp} (ds : List D) (E : List D) (vs : List Value) (K : List F → List D → Hp → Prop), Con B c w H n → RepL c w E ts → RepL c w ds vs → frzK m ds E H K →
  ∃ xs E' H' c', K xs E' H' ∧ Con B c' w H' n ∧ RepL c' w E' ts ∧ RepFs c'.imm w xs vs ∧ ImmKeep c.imm c'.imm w w
 | m, c, H, [], E, vs, K, hC, hE, hd, h => by
  unfold RepL at hd
  subst hd
  unfold frzK at h
  exact ⟨[], E, H, c, h, hC, hE, by unfold RepFs; rfl, ImmKeep.rfl'⟩
 | 0, c, H, d :: ds, E, vs, K, hC, hE, hd, h => h.elim
 | m + 1, c, H, d :: ds, E, vs, K, hC, hE, hd, h => by
  unfold RepL at hd
  obtain ⟨v, vs', rfl, h1, h2⟩ := hd
  unfold frzK at h
  split at h
  ·rename_i x
   obtain ⟨xs, E', H', c', h3, h4, h5, h6, h7⟩ := frzK_sound m ds E vs' _ hC hE h2 h
   unfold Rep at h1
   exact ⟨_, E', H', c', h3, h4, h5, by unfold RepFs; exact ⟨v, vs', rfl, h1.mono h7, h6⟩, h7⟩
  ·obtain ⟨xs, E', H', c', h3, h4, h5, h6, h7⟩ := frzK_sound m ds E vs' _ hC hE h2 h
   unfold Rep at h1
   subst h1
   exact ⟨_, E', H', c', h3, h4, h5, by unfold RepFs RepF; exact ⟨_, vs', rfl, .inl ⟨⟨_, rfl⟩, rfl⟩, h6⟩, h7⟩
  ·rename_i k t s es
   obtain ⟨hC1, k1⟩ := hC.freeze (k := k)
   unfold Rep at h1
   obtain ⟨hk, rfl, ho⟩ := h1
   have hx : RepF (c.freeze k).imm w (.sl es) (c.τ k) := ho.toF k1.imm (fun b hb => .inr hb)
   obtain ⟨xs, E', H', c', h3, h4, h5, h6, h7⟩ := frzK_sound m (killL k ds) (killL k E) vs' _ hC1 (RepL.kill k1 _ _ hE) (RepL.kill k1 _ _ h2) h
   exact ⟨_, E', H', c', h3, h4, h5, by unfold RepFs; exact ⟨_, vs', rfl, hx.mono h7, h6⟩, k1.imm.trans h7⟩
  ·exact h.elim
theorem rowsK_sound {a : Act} (size : Nat) : ∀ (parts : List (Nat × Operand)) (i : Nat) {c : Cx} {H : Hp} (E : List D) (K : List (List F) → List D → Hp → Prop), Con B c w H n → RepL c w E a.tmps.toList → rowsK size parts i E H K →
  ∃ rows E' H' c', K rows E' H' ∧ Con B c' w H' n ∧ RepL c' w E' a.tmps.toList ∧ RepRows c'.imm w size rows (parts.flatMap fun (_, x) => (a.eval x).cells.toList) ∧ rows.length = parts.length ∧ ImmKeep c.imm c'.imm w w ∧
   ∀ (cs : Array Value), (i + parts.length) * size ≤ cs.size → ∃ cs', Instr.fill (fun i => some (i * size, size)) cs (parts.map fun (i, x) => (i, a.eval x)) = some cs' ∧
    cs'.toList = cs.toList.take (i * size) ++ (parts.flatMap fun (_, x) => (a.eval x).cells.toList) ++ cs.toList.drop ((i + parts.length) * size)
 | [], i, c, H, E, K, hC, hE, h => by
  refine ⟨[], E, H, c, h, hC, hE, by unfold RepRows; rfl, rfl, ImmKeep.rfl', fun cs hl => ⟨cs, rfl, by simp⟩⟩
 | (j, x) :: r, i, c, H, E, K, hC, hE, h => by
  unfold rowsK at h
  cases hb : Nat.beq j i with
  | false => simp only [hb, cond_false] at h
  | true =>
   simp only [hb, cond_true, evK_eq] at h
   have e0 := beq_eq hb
   subst e0
   obtain ⟨ds, h, hd, h1⟩ := cellsK_open (rep_ev hE x) h
   cases hb2 : Nat.beq ds.length size with
   | false => simp only [hb2, cond_false] at h
   | true =>
    simp only [hb2, cond_true] at h
    have e1 := beq_eq hb2
    obtain ⟨xs, E1, H1, c1, h2, hC1, hE1, hx, hk1⟩ := frzK_sound _ ds E _ _ hC hE hd h
    obtain ⟨rows, E2, H2, c2, h3, hC2, hE2, hrows, hlen, hk2, hfill⟩ := rowsK_sound size r (j + 1) E1 _ hC1 hE1 h2
    have hsz : (a.eval x).cells.size = size := by rw [← Array.length_toList, hd.length, e1]
    have hxl : xs.length = size := by
     have : ∀ {xs : List F} {vs : List Value}, RepFs c1.imm w xs vs → vs.length = xs.length := by
      intro xs
      induction xs with
      | nil => intro vs h; unfold RepFs at h; subst h; rfl
      | cons x xs ih => intro vs h; unfold RepFs at h; obtain ⟨v, vs', rfl, _, h⟩ := h; simp [ih h]
     rw [← this hx, Array.length_toList, hsz]
    refine ⟨_, E2, H2, c2, h3, hC2, hE2, ?_, by simp [hlen], hk1.trans hk2, fun cs hl => ?_⟩
    ·simp only [List.flatMap_cons]
     unfold RepRows
     exact ⟨_, _, rfl, hxl, hx.mono hk2, hrows⟩
    ·simp only [List.length_cons] at hl
     have hmul : (j + (r.length + 1)) * size = j * size + size + r.length * size := by rw [Nat.add_mul, Nat.add_mul, Nat.one_mul]; omega
     have hf := foldl_set (a.eval x).cells.toList (j * size) 0 cs (by simp [hsz]; omega)
     simp only [Nat.add_zero] at hf
     have hcs : (((a.eval x).cells.zipIdx.foldl (fun cs (c, k) => cs.setIfInBounds (j * size + k) c) cs)).toList = cs.toList.take (j * size) ++ (a.eval x).cells.toList ++ cs.toList.drop (j * size + size) := by
      rw [← Array.foldl_toList, Array.toList_zipIdx, hf]
      simp [hsz]
     have hsize2 : ((a.eval x).cells.zipIdx.foldl (fun cs (c, k) => cs.setIfInBounds (j * size + k) c) cs).size = cs.size := by
      rw [← Array.length_toList, hcs]
      simp [hsz]
      omega
     obtain ⟨cs', h4, h5⟩ := hfill ((a.eval x).cells.zipIdx.foldl (fun cs (c, k) => cs.setIfInBounds (j * size + k) c) cs) (by rw [hsize2]; rw [show (j + 1 + r.length) * size = (j + (r.length + 1)) * size by congr 1; omega]; exact hl)
     refine ⟨cs', ?_, ?_⟩
     ·simp only [List.map_cons, Instr.fill]
      rw [if_neg]
      ·exact h4
      ·simp [hsz]
       omega
     ·rw [h5, hcs]
      simp only [List.flatMap_cons, List.length_cons]
      have hmul2 : (j + 1) * size = j * size + size := by rw [Nat.add_mul, Nat.one_mul]
      have hl1 : (cs.toList.take (j * size) ++ (a.eval x).cells.toList).length = (j + 1) * size := by
       simp [hsz]
       rw [hmul2]
       omega
      rw [List.take_append_of_le_length (by rw [hl1]; exact Nat.le_refl _), List.take_of_length_le (by rw [hl1]; exact Nat.le_refl _)]
      rw [List.drop_append, List.drop_of_length_le (by rw [hl1]; exact Nat.mul_le_mul_right _ (by omega)), hl1, List.nil_append, List.drop_drop]
      rw [show j * size + size + ((j + 1 + r.length) * size - (j + 1) * size) = (j + (r.length + 1)) * size by
       rw [hmul, Nat.add_mul (j + 1) r.length size, hmul2]; omega]
      simp [List.append_assoc]
theorem RepRows.length {imm : Nat → Prop} {s : Nat} : ∀ {es : List (List F)} {xs : List Value}, RepRows imm w s es xs → xs.length = es.length * s
 | [], _, h => by unfold RepRows at h; subst h; simp
 | e :: es, xs, h => by
  unfold RepRows at h
  obtain ⟨ys, zs, rfl, hl, h1, h2⟩ := h
  have hys : ys.length = e.length := by
   have : ∀ {xs : List F} {vs : List Value}, RepFs imm w xs vs → vs.length = xs.length := by
    intro xs
    induction xs with
    | nil => intro vs h; unfold RepFs at h; subst h; rfl
    | cons x xs ih => intro vs h; unfold RepFs at h; obtain ⟨v, vs', rfl, _, h⟩ := h; simp [ih h]
   exact this h1
  simp [hys, hl, RepRows.length h2, Nat.add_mul]
  omega
theorem buildSliceD_sound {T : Tab} (hT : TabOk P 0 T) (hC : Con B c w H n) {E : List D} {a : Act} (hE : RepL c w E a.tmps.toList) {t len : Nat} {parts : Array (Nat × Operand)} {K : KD} (h : buildSliceD T t len parts.toList E H n K) :
  ∃ d v E' H' n' c' w', K d E' H' n' ∧ (Instr.buildSlice t len (parts.map fun (i, x) => (i, a.eval x))).run P w = .ok v w' ∧ Con B c' w' H' n' ∧ RepL c' w' E' a.tmps.toList ∧ Rep c' w' d v ∧ Below w.heap.size w w' := by
 unfold buildSliceD at h
 obtain ⟨ti, L, h⟩ := tiK_open hT h
 split at h
 ·rename_i e hd
  obtain ⟨u, L', h⟩ := tiK_open hT h
  have hu : P.underlying t = some (.slice e) := by rw [L.und, hd]
  cases hb : (Nat.beq parts.toList.length len && Nat.ble (len * u.size) 16777216 && Nat.ble 1 u.size) with
  | false => simp only [hb, cond_false] at h
  | true =>
   simp only [hb, cond_true] at h
   simp only [Bool.and_eq_true] at hb
   have e1 : parts.toList.length = len := beq_eq hb.1.1
   have e2 := Nat.le_of_ble_eq_true hb.1.2
   have e3 := Nat.le_of_ble_eq_true hb.2
   obtain ⟨rows, E1, H1, c1, h2, hC1, hE1, hrows, hlen, hk1, hfill⟩ := rowsK_sound u.size parts.toList 0 E _ hC hE h
   have hzr : ∀ (z : Array Value), ((Array.range (len * u.size)).map (z[· % z.size]!)).size = len * u.size := fun z => by simp
   have hne : ¬ (len * u.size > 2 ^ 24) := by omega
   have e4 : (parts.map fun (i, x) => (i, a.eval x)).toList = parts.toList.map fun (i, x) => (i, a.eval x) := by simp
   let zero : Array Value := if len * u.size = 0 then #[] else u.zval.cells
   obtain ⟨cs', h4, h5⟩ := hfill ((Array.range (len * u.size)).map (zero[· % zero.size]!)) (by rw [hzr, e1]; simp)
   have hl5 : cs'.toList = parts.toList.flatMap fun (_, x) => (a.eval x).cells.toList := by
    rw [h5, e1]
    simp
   have hsz : cs'.size = len * u.size := by
    rw [← Array.length_toList, hl5, hrows.length, hlen, e1]
   have hbel : Below w.heap.size w (w.alloc (.cells cs' e)) := (Below.refl _ _).alloc (Nat.le_refl _) _
   obtain ⟨hC2, hk2⟩ := hC1.newTag (v := .slice (some ⟨w.heap.size, 0, none⟩) len len) hbel (fun b hb => by
    have e5 : w.heap.size = b := by simpa [blk, Value.ownBlock] using hb
    subst e5
    exact ⟨Nat.le_refl _, by simp⟩)
   refine ⟨_, .slice (some ⟨w.heap.size, 0, none⟩) len len, E1, H1, n + 1, _, w.alloc (.cells cs' e), h2, ?_, hC2, hE1.mono hk2, ?_, hbel⟩
   ·by_cases h0 : len * u.size = 0
    ·have hz0 : zero = #[] := by show (if _ then _ else _) = _; rw [if_pos h0]
     rw [hz0] at h4
     simp only [Instr.buildSlice, Sem.run_bind, run_underlying hu, Result.andThen_ok, L'.run_sizeOf w, hne, if_false, if_pos h0, Sem.run_pure, e4, h4]
     rfl
    ·have hz0 : zero = u.zval.cells := by show (if _ then _ else _) = _; rw [if_neg h0]
     rw [hz0] at h4
     simp only [Instr.buildSlice, Sem.run_bind, run_underlying hu, Result.andThen_ok, L'.run_sizeOf w, hne, if_false, if_neg h0, L'.run_zeroValue w, Sem.run_pure, e4, h4]
     rfl
   ·unfold Rep
    have hnn := hC1.nlen
    subst hnn
    refine ⟨Nat.lt_succ_self _, (c1.newTag_same _).symm, e3, cs'.toList, ?_, ?_⟩
    ·rw [c1.newTag_same, hlen, e1]
     refine ownsM_of (World.ownsRow_lit w cs' len (Nat.zero_le _) ?_ hsz)
     have : len * 1 ≤ len * u.size := Nat.mul_le_mul_left _ e3
     unfold maxLen
     omega
    ·rw [hl5]
     exact hrows.mono (fun b hb => ⟨hb, hbel.block b (hC1.immB b hb).1⟩)
 ·exact h.elim
end
def boundK (E : List D) (o : Option Operand) (dflt : Int) (K : Int → Prop) : Prop :=
 match o with
 | none => K dflt
 | some x => match ev E x with
  | .f (.v (.int _ i)) => K i
  | _ => False
def sliceD (T : Tab) (t : Nat) (x : D) (lo hi mx : Option Operand) (E : List D) (H : Hp) (n : Nat) (K : KD) : Prop :=
 match mx with
 | some _ => False
 | none => tiK T t fun ti => match ti.desc with
  | .string => (match x with
   | .f (.v (.string s)) => boundK E lo 0 fun l => boundK E hi s.size fun h => Owes (0 ≤ l ∧ l ≤ h ∧ h ≤ s.size) (K (.str (s.extract l.toNat h.toNat)) E H n)
   | _ => False)
  | .slice e => tiK T e fun u => (match x with
   | .f (.sl es) => boundK E lo 0 fun l => boundK E hi es.length fun h => Owes (∀ e ∈ es, e.length = u.size) (Part es l h fun es' => K (.f (.sl es')) E H n)
   | .own k e' s es => (match lo with
    | none => boundK E hi es.length fun h => Part es 0 h fun es' => K (.own k e' s es') (killL k E) (killH k H) n
    | some _ => False)
   | .nil => boundK E lo 0 fun l => boundK E hi 0 fun h => Owes (l = 0 ∧ h = 0) (K .nil E H n)
   | _ => False)
  | _ => False
section
variable {P : Program} {c : Cx} {w : World} {H : Hp} {n : Nat} {B : Base}
theorem boundK_open {E : List D} {a : Act} (hE : RepL c w E a.tmps.toList) {o : Option Operand} {dflt : Int} {K : Int → Prop} (h : boundK E o dflt K) :
  ∃ i : Int, K i ∧ ((o = none ∧ i = dflt) ∨ ∃ x k, o = some x ∧ a.eval x = .int k i) := by
 unfold boundK at h
 cases o with
 | none => exact ⟨_, h, .inl ⟨rfl, rfl⟩⟩
 | some x =>
  have hx := rep_ev hE x
  simp only at h
  split at h
  ·rename_i k i e
   rw [e] at hx
   exact ⟨i, h, .inr ⟨x, k, rfl, rep_v hx⟩⟩
  ·exact h.elim
theorem RepR.sub {imm : Nat → Prop} {s : Nat} : ∀ {es : List (List F)} {b o : Nat}, RepR imm w es b o → (∀ e ∈ es, e.length = s) → ∀ (l h : Nat), RepR imm w ((es.take h).drop l) b (o + l * s)
 | [], b, o, _, _, l, h => by simp [RepR]
 | e :: es, b, o, hr, hl, l, 0 => by simp [RepR]
 | e :: es, b, o, hr, hl, 0, h + 1 => by
  have hr' := hr
  unfold RepR at hr
  have h1 := RepR.sub hr.2 (fun e he => hl e (List.mem_cons_of_mem _ he)) 0 h
  simp only [Nat.zero_mul, Nat.add_zero, List.drop_zero] at h1
  simp only [List.take_succ_cons, List.drop_zero, Nat.zero_mul, Nat.add_zero]
  unfold RepR
  exact ⟨hr.1, h1⟩
 | e :: es, b, o, hr, hl, l + 1, h + 1 => by
  unfold RepR at hr
  have h1 := RepR.sub hr.2 (fun e he => hl e (List.mem_cons_of_mem _ he)) l h
  rw [hl e (List.mem_cons_self ..)] at h1
  simp only [List.take_succ_cons, List.drop_succ_cons]
  rw [show o + (l + 1) * s = o + s + l * s by rw [Nat.add_mul, Nat.one_mul]; omega]
  exact h1
theorem RepRows.take {imm : Nat → Prop} {s : Nat} : ∀ {es : List (List F)} {xs : List Value} (h : Nat), RepRows imm w s es xs → RepRows imm w s (es.take h) (xs.take (h * s))
 | [], xs, h, hr => by
  unfold RepRows at hr
  subst hr
  simp [RepRows]
 | e :: es, xs, 0, hr => by simp [RepRows]
 | e :: es, xs, h + 1, hr => by
  unfold RepRows at hr
  obtain ⟨ys, zs, rfl, hl, h1, h2⟩ := hr
  have hys : ys.length = e.length := by
   have : ∀ {xs : List F} {vs : List Value}, RepFs imm w xs vs → vs.length = xs.length := by
    intro xs
    induction xs with
    | nil => intro vs h; unfold RepFs at h; subst h; rfl
    | cons x xs ih => intro vs h; unfold RepFs at h; obtain ⟨v, vs', rfl, _, h⟩ := h; simp [ih h]
   exact this h1
  simp only [List.take_succ_cons]
  unfold RepRows
  refine ⟨ys, zs.take (h * s), ?_, hl, h1, RepRows.take h h2⟩
  rw [List.take_append, List.take_of_length_le (by rw [hys, hl, Nat.add_mul, Nat.one_mul]; omega)]
  congr 2
  rw [hys, hl, Nat.add_mul, Nat.one_mul]
  omega
theorem run_bound {x : Value} {k : IntKind} {i : Int} {y : Nat} {code : BoundsCode} (e : x = .int k i) (h : 0 ≤ i ∧ i ≤ y) : (Instr.sliceBound x y code).run P w = .ok i.toNat w := by
 subst e
 simp [Instr.sliceBound, asIntOf, h.1, h.2]
theorem run_bounds {E : List D} {a : Act} {lo hi : Option Operand} {isSlice : Bool} {len cap : Nat} {l h : Int} (h1 : (lo = none ∧ l = 0) ∨ ∃ x k, lo = some x ∧ a.eval x = .int k l) (h2 : (hi = none ∧ h = len) ∨ ∃ x k, hi = some x ∧ a.eval x = .int k h)
  (h3 : 0 ≤ l) (h4 : l ≤ h) (h5 : h ≤ len) (h6 : len ≤ cap) : (Instr.sliceBounds isSlice len cap (lo.map a.eval) (hi.map a.eval) none).run P w = .ok (l.toNat, h.toNat, cap) w := by
 rcases h1 with ⟨rfl, rfl⟩ | ⟨x1, k1, rfl, e1⟩ <;> rcases h2 with ⟨rfl, rfl⟩ | ⟨x2, k2, rfl, e2⟩
 ·simp [Instr.sliceBounds]
 ·have r2 := fun code => run_bound (P := P) (w := w) (y := cap) (code := code) e2 ⟨by omega, by omega⟩
  simp [Instr.sliceBounds, r2]
 ·have r1 := fun code => run_bound (P := P) (w := w) (y := len) (code := code) e1 ⟨by omega, by omega⟩
  simp [Instr.sliceBounds, r1]
 ·have r2 := fun code => run_bound (P := P) (w := w) (y := cap) (code := code) e2 ⟨by omega, by omega⟩
  have r1 := fun code => run_bound (P := P) (w := w) (y := h.toNat) (code := code) e1 ⟨by omega, by omega⟩
  simp [Instr.sliceBounds, r2, r1]
theorem sliceD_sound {T : Tab} (hT : TabOk P 0 T) (hC : Con B c w H n) {E : List D} {a : Act} (hE : RepL c w E a.tmps.toList) {t : Nat} {x : D} {v : Value} (hx : Rep c w x v) {lo hi mx : Option Operand} {K : KD} (h : sliceD T t x lo hi mx E H n K) :
  ∃ d u E' H' c', K d E' H' n ∧ (Instr.sliceAt t v (lo.map a.eval) (hi.map a.eval) (mx.map a.eval)).run P w = .ok u w ∧ Con B c' w H' n ∧ RepL c' w E' a.tmps.toList ∧ Rep c' w d u := by
 unfold sliceD at h
 cases mx with
 | some m => exact h.elim
 | none =>
  simp only at h
  replace h := tiK_open hT h; obtain ⟨ti, L, h⟩ := h
  split at h
  ·rename_i hd
   have hu : P.underlying t = some .string := by rw [L.und, hd]
   split at h
   ·rename_i s
    have e1 := rep_v hx
    subst e1
    obtain ⟨l, h, hl⟩ := boundK_open hE h
    obtain ⟨m, h, hm⟩ := boundK_open hE h
    replace h := Owes.open h; obtain ⟨⟨b1, b2, b3⟩, h⟩ := h
    refine ⟨_, _, E, H, c, h, ?_, hC, hE, rep_of _ rfl⟩
    simp [Instr.sliceAt, run_underlying hu, Instr.slice, run_bounds (P := P) (w := w) (E := E) (isSlice := false) hl hm b1 b2 b3 (Nat.le_refl _)]
   ·exact h.elim
  ·rename_i e hd
   have hu : P.underlying t = some (.slice e) := by rw [L.und, hd]
   replace h := tiK_open hT h; obtain ⟨u, L', h⟩ := h
   split at h
   ·rename_i es
    obtain ⟨l, h, hl⟩ := boundK_open hE h
    obtain ⟨m, h, hm⟩ := boundK_open hE h
    replace h := Owes.open h; obtain ⟨hsz, h⟩ := h
    replace h := Part.open h; obtain ⟨l', m', rfl, rfl, b2, b3, h⟩ := h
    unfold Rep RepF at hx
    rcases hx with ⟨⟨a0, rfl⟩, rfl⟩ | ⟨b, o, cap, rfl, hc, him, hr⟩
    ·simp at b3
     subst b3
     have : l' = 0 := by omega
     subst this
     have hb := run_bounds (P := P) (w := w) (E := E) (isSlice := true) (cap := 0) hl hm (by simp) (by simp) (by simp) (Nat.le_refl _)
     simp at hb
     refine ⟨_, .slice a0 0 0, E, H, c, h, ?_, hC, hE, by unfold Rep RepF; exact .inl ⟨⟨_, rfl⟩, by simp⟩⟩
     cases a0 <;> simp [Instr.sliceAt, run_underlying hu, Instr.slice, hb, L'.run_sizeOf]
    ·have hb := run_bounds (P := P) (w := w) (E := E) (isSlice := true) (cap := cap) hl hm (by omega) (by omega) (by omega) hc
     refine ⟨_, .slice (some (if cap = l' then ⟨b, o, none⟩ else ⟨b, o + l' * u.size, none⟩)) (m' - l') (cap - l'), E, H, c, h, ?_, hC, hE, ?_⟩
     ·simp only [Instr.sliceAt, Sem.run_bind, run_underlying hu, Result.andThen_ok, Instr.slice, Option.map_none, hb, L'.run_sizeOf w, Sem.run_pure, Option.map_some, addr_add, Int.toNat_natCast]
      congr 2
      split <;> rfl
     ·unfold Rep RepF
      have hlen : ((es.take m').drop l').length = m' - l' := by simp; omega
      by_cases hcl : cap = l'
      ·refine .inr ⟨b, o, cap - l', ?_, by rw [hlen]; omega, him, ?_⟩
       ·rw [if_pos hcl, hlen]
       ·have : (es.take m').drop l' = [] := List.eq_nil_of_length_eq_zero (by rw [hlen]; omega)
        rw [this]
        unfold RepR
        trivial
      ·refine .inr ⟨b, o + l' * u.size, cap - l', ?_, by rw [hlen]; omega, him, hr.sub hsz l' m'⟩
       rw [if_neg hcl, hlen]
   ·rename_i k e' s es
    split at h
    ·obtain ⟨m, h, hm⟩ := boundK_open hE h
     replace h := Part.open h; obtain ⟨l', m', e0, rfl, b2, b3, h⟩ := h
     have : l' = 0 := by omega
     subst this
     rw [List.drop_zero] at h
     unfold Rep at hx
     obtain ⟨hk, rfl, hs, xs, how, hrow⟩ := hx
     have hkn : k < n := by rw [← hC.nlen]; exact hk
     rcases how.2 with ⟨h1, h0⟩ | ⟨g, cap, cur, e1, _, hh, hcap, hmax, hcur, htake⟩
     ·have hes : es = [] := List.eq_nil_of_length_eq_zero h0
      subst hes
      have hm0 : m' = 0 := by simpa using b3
      subst hm0
      obtain ⟨hC1, k1⟩ := hC.retag hkn (w' := w) (v := c.τ k) ⟨rfl, rfl, rfl, Nat.le_refl _, fun _ _ _ => rfl⟩ (fun b hb => by rw [h1] at hb; cases hb)
      refine ⟨_, nilS, _, _, _, h, ?_, hC1, RepL.kill k1 _ _ hE, ?_⟩
      ·have hb := run_bounds (P := P) (w := w) (E := E) (isSlice := true) (cap := 0) (.inl ⟨rfl, rfl⟩) hm (by simp) (by simp) (by simp) (Nat.le_refl _)
       rw [h1]
       simp at hb
       simp [Instr.sliceAt, run_underlying hu, Instr.slice, hb, L'.run_sizeOf]
      ·unfold Rep
       refine ⟨hk, by rw [c.retag_same, h1], hs, xs, ?_, by rw [List.take_nil]; exact hrow⟩
       rw [c.retag_same]
       simpa using how
     ·have hb := run_bounds (P := P) (w := w) (E := E) (isSlice := true) (cap := cap) (.inl ⟨rfl, rfl⟩) hm (by simp) (by simp) (by omega) hcap
      have hblk : blk (c.τ k) = some g := by rw [e1]; rfl
      obtain ⟨hC1, k1⟩ := hC.retag hkn (w' := w) (v := .slice (some ⟨g, 0, none⟩) m' cap) ⟨rfl, rfl, rfl, Nat.le_refl _, fun _ _ _ => rfl⟩
       (fun b hb => by
        have e5 : g = b := by simpa [blk, Value.ownBlock] using hb
        subst e5
        exact ⟨(hC.tags k _ hblk).1, .inl hblk⟩)
      refine ⟨_, .slice (some ⟨g, 0, none⟩) m' cap, _, _, _, h, ?_, hC1, RepL.kill k1 _ _ hE, ?_⟩
      ·rw [e1]
       simp at hb
       simp [Instr.sliceAt, run_underlying hu, Instr.slice, hb, L'.run_sizeOf, addr_add]
      ·unfold Rep
       have hlen : (es.take m').length = m' := by simp; omega
       refine ⟨hk, (c.retag_same _ _).symm, hs, xs.take (m' * s), ?_, hrow.take m'⟩
       rw [c.retag_same, hlen]
       refine ⟨?_, .inr ⟨g, cap, cur, rfl, Nat.zero_le _, hh, by omega, hmax, hcur, ?_⟩⟩
       ·rw [List.length_take, how.1]
        exact Nat.min_eq_left (Nat.mul_le_mul_right _ b3)
       ·rw [← htake, List.take_take, Nat.min_eq_left (Nat.mul_le_mul_right _ b3)]
    ·exact h.elim
   ·replace h := boundK_open hE h; obtain ⟨l, h, hl⟩ := h
    replace h := boundK_open hE h; obtain ⟨m, h, hm⟩ := h
    replace h := Owes.open h; obtain ⟨⟨rfl, rfl⟩, h⟩ := h
    unfold Rep at hx
    subst hx
    have hb := run_bounds (P := P) (w := w) (E := E) (isSlice := true) (cap := 0) hl hm (by simp) (by simp) (by simp) (Nat.le_refl _)
    refine ⟨_, nilS, E, H, c, h, ?_, hC, hE, by unfold Rep; rfl⟩
    simp at hb
    simp [Instr.sliceAt, run_underlying hu, Instr.slice, L'.run_sizeOf w, hb]
   ·exact h.elim
  ·exact h.elim
end
end Go.Proofs.YtlhegfkpgchaeaaGreatDoor.Aw
