/- Bytes put behind others. -/
import Derived.Test.YtlhegfkpgchaeaaGreatDoorAwP
import Derived.OrdersHeld
import Derived.Test.YtlhegfkpgchaeaaGreatDoorAwA
import Derived.Test.YtlhegfkpgchaeaaGreatDoorProg
import Derived.KernelRfl
namespace Go.Proofs.YtlhegfkpgchaeaaGreatDoor.Aw
open Go Go.RowKit Go.Lib
set_option linter.unusedVariables false
set_option linter.unusedSimpArgs false
def viewF (d : D) (x : F) : Prop := match x with
 | .sl es => (match d with
  | .nil => es = []
  | .own _ _ _ es' => es' = es
  | .f y => y = .sl es
  | _ => False)
 | .v u => d = .f (.v u)
def viewCs : List D → List F → Prop
 | _, [] => True
 | [], _ :: _ => False
 | d :: ds, x :: xs => viewF d x ∧ viewCs ds xs
mutual
def viewD (H : Hp) : D → D → Prop
 | d, .junk => True
 | d, .f x => viewF d x
 | d, .nil => d = .nil
 | d, .agg ds => (match d with
  | .agg cs => viewL H cs ds
  | _ => False)
 | d, .tup ds => (match d with
  | .tup cs => viewL H cs ds
  | _ => False)
 | d, .fn g ds => (match d with
  | .fn g' cs => g' = g ∧ viewL H cs ds
  | _ => False)
 | d, .yl _ _ _ _ _ => False
 | d, .ip fs => (match d with
  | .ptr k o => (match H.getD k none with
   | some cs => viewCs (dropL o cs) fs
   | none => False)
  | d => d = .ip fs)
 | _, _ => False
def viewL (H : Hp) : List D → List D → Prop
 | cs, [] => cs = []
 | cs, d :: ds => (match cs with
  | c :: cs => viewD H c d ∧ viewL H cs ds
  | [] => False)
end
mutual
def scalD : D → Prop
 | .f (.v _) => True
 | .nil => True
 | .junk => True
 | .agg cs => scalL cs
 | .tup cs => scalL cs
 | _ => False
def scalL : List D → Prop
 | [] => True
 | d :: ds => scalD d ∧ scalL ds
end
section
variable {P : Program}
mutual
theorem Rep.scal {c c' : Cx} {w w' : World} : ∀ (d : D) (v : Value), scalD d → Rep c w d v → Rep c' w' d v
 | .f (.v x), v, _, h => by unfold Rep RepF at *; exact h
 | .nil, v, _, h => by unfold Rep at *; exact h
 | .junk, v, _, h => by unfold Rep; trivial
 | .agg cs, v, hs, h => by
  unfold scalD at hs; unfold Rep at *
  obtain ⟨vs, e, hl⟩ := h
  exact ⟨vs, e, RepL.scal cs vs hs hl⟩
 | .tup cs, v, hs, h => by
  unfold scalD at hs; unfold Rep at *
  obtain ⟨vs, e, hl⟩ := h
  exact ⟨vs, e, RepL.scal cs vs hs hl⟩
 | .f (.sl _), _, hs, _ => hs.elim
 | .own _ _ _ _, _, hs, _ => hs.elim
 | .optr _ _ _ _ _ _, _, hs, _ => hs.elim
 | .ptr _ _, _, hs, _ => hs.elim
 | .ip _, _, hs, _ => hs.elim
 | .fn _ _, _, hs, _ => hs.elim
 | .yl _ _ _ _ _, _, hs, _ => hs.elim
theorem RepL.scal {c c' : Cx} {w w' : World} : ∀ (ds : List D) (vs : List Value), scalL ds → RepL c w ds vs → RepL c' w' ds vs
 | [], vs, _, h => by unfold RepL at *; exact h
 | d :: ds, vs, hs, h => by
  unfold scalL at hs; unfold RepL at *
  obtain ⟨v, vs', e, h1, h2⟩ := h
  exact ⟨v, vs', e, Rep.scal d v hs.1 h1, RepL.scal ds vs' hs.2 h2⟩
end
def Cx.look (c : Cx) (H : Hp) : Cx := ⟨c.φ, fun _ => nilS, fun b => c.imm b ∨ mine c H b, 0, 0⟩
theorem viewF_sound {B : Base} {c : Cx} {w : World} {H : Hp} {n : Nat} (hC : Con B c w H n) {d : D} {x : F} {v : Value} (h : viewF d x) (hr : Rep c w d v) : RepF (c.look H).imm w x v := by
 have hk : ImmKeep c.imm (c.look H).imm w w := fun b hb => ⟨.inl hb, rfl⟩
 cases x with
 | v x =>
  unfold viewF at h
  subst h
  unfold Rep at hr
  exact hr.mono hk
 | sl es =>
  unfold viewF at h
  cases d with
  | nil =>
   simp only at h
   subst h
   unfold Rep at hr
   subst hr
   unfold RepF
   exact .inl ⟨⟨_, rfl⟩, rfl⟩
  | own k t s es' =>
   simp only at h
   subst h
   unfold Rep at hr
   obtain ⟨_, rfl, ho⟩ := hr
   exact ho.toF hk (fun b hb => .inr (.inr ⟨_, hb⟩))
  | f y =>
   simp only at h
   subst h
   unfold Rep at hr
   exact hr.mono hk
  | _ => exact h.elim
theorem viewCs_sound {B : Base} {c : Cx} {w : World} {H : Hp} {n : Nat} (hC : Con B c w H n) {b : Nat} : ∀ (ds : List D) (xs : List F) (vs : List Value) (o : Nat), viewCs ds xs → RepL c w ds vs → (∀ j v, vs[j]? = some v → w.cell? ⟨b, o + j, none⟩ = some v) → RepC (c.look H).imm w xs b o
 | _, [], _, _, _, _, _ => by unfold RepC; trivial
 | [], _ :: _, _, _, h, _, _ => h.elim
 | d :: ds, x :: xs, vs, o, h, hr, hc => by
  unfold viewCs at h
  unfold RepL at hr
  obtain ⟨v, vs', rfl, h1, h2⟩ := hr
  unfold RepC
  exact ⟨⟨v, hc 0 v rfl, viewF_sound hC h.1 h1⟩, viewCs_sound hC ds xs vs' (o + 1) h.2 h2 (fun j u hj => by rw [show o + 1 + j = o + (j + 1) by omega]; exact hc (j + 1) u (by simpa using hj))⟩
mutual
theorem viewD_sound {B : Base} {c : Cx} {w : World} {H : Hp} {n : Nat} (hC : Con B c w H n) : ∀ (d' d : D) (v : Value), viewD H d d' → Rep c w d v → Rep (c.look H) w d' v
 | .junk, d, v, h, hr => by unfold Rep; trivial
 | .f x, d, v, h, hr => by unfold viewD at h; unfold Rep; exact viewF_sound hC h hr
 | .nil, d, v, h, hr => by
  unfold viewD at h
  subst h
  unfold Rep at *
  exact hr
 | .agg ds, d, v, h, hr => by
  unfold viewD at h
  split at h
  ·unfold Rep at *
   obtain ⟨vs, e, hl⟩ := hr
   exact ⟨vs, e, viewL_sound hC ds _ vs h hl⟩
  ·exact h.elim
 | .tup ds, d, v, h, hr => by
  unfold viewD at h
  split at h
  ·unfold Rep at *
   obtain ⟨vs, e, hl⟩ := hr
   exact ⟨vs, e, viewL_sound hC ds _ vs h hl⟩
  ·exact h.elim
 | .fn g ds, d, v, h, hr => by
  unfold viewD at h
  split at h
  ·obtain ⟨rfl, h⟩ := h
   unfold Rep at *
   obtain ⟨vs, e, hl⟩ := hr
   exact ⟨vs, e, viewL_sound hC ds _ vs h hl⟩
  ·exact h.elim
 | .yl _ _ _ _ _, d, v, h, hr => by
  unfold viewD at h
  exact h.elim
 | .ip fs, d, v, h, hr => by
  unfold viewD at h
  split at h
  ·rename_i k o
   cases hg : H.getD k none with
   | none => simp only [hg] at h
   | some cs =>
    simp only [hg, dropL_eq] at h
    have hg' := getD_some hg
    unfold Rep at hr
    obtain ⟨_, rfl⟩ := hr
    obtain ⟨C, T, e, hrC⟩ := hC.objs k cs hg'
    unfold Rep
    refine ⟨c.φ k, o, rfl, .inr (.inl ⟨k, cs, hg', rfl⟩), viewCs_sound hC _ fs _ o h (hrC.drop o) (fun j u hj => ?_)⟩
    rw [cell_of_row w _ _ C T (0, 0) e]
    simpa [List.getElem?_drop] using hj
  ·subst h
   unfold Rep at *
   obtain ⟨b, o, e, hi, hr⟩ := hr
   exact ⟨b, o, e, .inl hi, hr.mono (fun b hb => ⟨.inl hb, rfl⟩) _ _ _ rfl⟩
 | .own _ _ _ _, _, _, h, _ => by unfold viewD at h; exact h.elim
 | .optr _ _ _ _ _ _, _, _, h, _ => by unfold viewD at h; exact h.elim
 | .ptr _ _, _, _, h, _ => by unfold viewD at h; exact h.elim
theorem viewL_sound {B : Base} {c : Cx} {w : World} {H : Hp} {n : Nat} (hC : Con B c w H n) : ∀ (ds' ds : List D) (vs : List Value), viewL H ds ds' → RepL c w ds vs → RepL (c.look H) w ds' vs
 | [], ds, vs, h, hr => by
  unfold viewL at h
  subst h
  unfold RepL at *
  exact hr
 | d' :: ds', ds, vs, h, hr => by
  unfold viewL at h
  split at h
  ·unfold RepL at *
   obtain ⟨v, vs', e, h1, h2⟩ := hr
   exact ⟨v, vs', e, viewD_sound hC d' _ v h.1 h1, viewL_sound hC ds' _ vs' h.2 h2⟩
  ·exact h.elim
end
structure CallB (P : Program) (g : FuncId) (args : List D) (E : List D) (H : Hp) (n : Nat) (K : KD) : Prop where of ::
 out : FnOk P g ∧ ∀ (B : Base) (c : Cx) (w : World) (ts vs : List Value), Con B c w H n → RepL c w E ts → RepL c w args vs →
  Calls P g vs.toArray w (fun e w' => Below w.heap.size w w' ∧ ∃ d v E' H' n' c', K d E' H' n' ∧ e = .returned v ∧ Con B c' w' H' n' ∧ RepL c' w' E' ts ∧ Rep c' w' d v)
theorem CallB.call {g : FuncId} {args E : List D} {H : Hp} {n : Nat} {K : KD} (h : CallB P g args E H n K) : Call P g args E H n K :=
 Call.mk ⟨h.out.1, fun B c w ts vs hC hE ha => (h.out.2 B c w ts vs hC hE ha).mono fun e w' h => h.2⟩
theorem CallB.open {g : FuncId} {args E : List D} {H : Hp} {n : Nat} {K : KD} (h : CallB P g args E H n K) : FnOk P g ∧ ∀ (B : Base) (c : Cx) (w : World) (ts vs : List Value), Con B c w H n → RepL c w E ts → RepL c w args vs →
  Calls P g vs.toArray w (fun e w' => Below w.heap.size w w' ∧ ∃ d v E' H' n' c', K d E' H' n' ∧ e = .returned v ∧ Con B c' w' H' n' ∧ RepL c' w' E' ts ∧ Rep c' w' d v) := h.out
theorem callB_view {g : FuncId} {args «as» E : List D} {H : Hp} {n : Nat} {K : KD} {R : D → Hp → Prop} (hs : Spec P g «as» [] 0 R) (hv : viewL H args «as») (k : ∀ d, R d [] → scalD d ∧ K d E H n) : CallB P g args E H n K := by
 refine ⟨⟨hs.1, fun B c w ts vs hC hE ha => ?_⟩⟩
 have hC1 : Con (base (c.look H) w []) (c.look H) w [] 0 :=
  ⟨rfl, rfl, rfl, Nat.le_refl _, fun _ _ _ => rfl, fun _ h => h, fun b hb => by
   refine ⟨?_, .inl hb⟩
   rcases hb with hb | ⟨k, cs, h1, rfl⟩ | ⟨k, h1⟩
   ·exact (hC.immB b hb).1
   ·exact hC.objLt h1
   ·exact (hC.tags k b h1).1, rfl, rfl, Nat.le_refl _, fun _ _ => rfl, fun k cs h => (by simp at h), fun k cs h => (by simp at h), fun j k cs ds h => (by simp at h), fun k b hb => (by cases hb), fun j k b hb => (by cases hb), fun _ _ => rfl, hC.glob.keep (fun b hb => ⟨.inl hb, rfl⟩)⟩
 refine (hs.2 (c.look H) w vs hC1 (viewL_sound hC «as» args vs hv ha)).mono ?_
 rintro e w' ⟨d, v, H', c2, hR, rfl, hl, hC2, hd⟩
 have hH' : H' = [] := List.eq_nil_of_length_eq_zero hl
 subst hH'
 have hno : ∀ b, ¬ mine (c.look H) [] b := fun b hb => by
  rcases hb with ⟨k, cs, h1, _⟩ | ⟨k, h1⟩
  ·simp at h1
  ·cases h1
 have hbel : Below w.heap.size w w' := ⟨hC2.os, hC2.tape, hC2.output, hC2.size, fun b hb => hC2.old b hb (hno b)⟩
 obtain ⟨h1, h2⟩ := k d hR
 obtain ⟨h3, h4⟩ := hC.grow hbel
 exact ⟨hbel, d, v, E, H, n, c, h2, rfl, h3, hE.mono h4, Rep.scal d v h1 hd⟩
theorem call_view {g : FuncId} {args «as» E : List D} {H : Hp} {n : Nat} {K : KD} {R : D → Hp → Prop} (hs : Spec P g «as» [] 0 R) (hv : viewL H args «as») (k : ∀ d, R d [] → scalD d ∧ K d E H n) : Call P g args E H n K :=
 (callB_view hs hv k).call
def pureD (T : Tab) (o : Oper) (E : List D) (K : D → Prop) : Prop :=
 match o.op with
 | .move x => evK E x K
 | .assign x => evK E x K
 | .pick c a b => match ev E c with
  | .f (.v (.bool t)) => Case t (evK E a K) (evK E b K)
  | _ => False
 | .nilCheck x => match ev E x with
  | .ptr k o => K (.ptr k o)
  | .ip cs => K (.ip cs)
  | .optr k t s es i o => K (.optr k t s es i o)
  | .fn g cap => K (.fn g cap)
  | _ => False
 | .binOp op t x y _ => match ev E x with
  | .agg cs => eqD T op t (.agg cs) (ev E y) K
  | .f (.v (.bool b)) => tiK T t fun ti => (match ti.desc with
   | .bool => boolD op (.f (.v (.bool b))) (ev E y) K
   | _ => False)
  | dx => binD op dx (ev E y) K
 | .unOp op _ x => unD op (ev E x) K
 | .fieldAddr t x f => fieldAddrD T t (ev E x) f K
 | .field t x f => fieldD T t (ev E x) f K
 | .indexAddr t x i => indexAddrD T t (ev E x) (ev E i) K
 | .index t x i => indexD T t (ev E x) (ev E i) K
 | .extract x i => match ev E x with
  | .tup ds => (match ds[i]? with
   | some d => force d K
   | none => False)
  | _ => False
 | .call c => (match c.callee with
  | .builtin .len => (match c.args.toList, c.argTypes.toList with
   | [x], [t] => lenD T t (ev E x) K
   | _, _ => False)
  | _ => False)
 | _ => False
def memD (T : Tab) (o : Oper) (E : List D) (H : Hp) (K : D → Prop) : Prop :=
 match o.op with
 | .load t a => loadD T t (ev E a) H K
 | _ => False
def growD (P : Program) (T : Tab) (o : Oper) (E : List D) (H : Hp) (n : Nat) (K : KD) : Prop :=
 match o.op with
 | .buildSlice t len parts => buildSliceD T t len parts.toList E H n fun d E H n => numK n fun n => K d E H n
 | .call c => (match c.callee with
  | .value f => (match ev E f with
   | .fn g cap => evs E c.args.toList fun l => appK l cap fun l => CallB P g l E H n K
   | _ => False)
  | _ => False)
 | _ => False
def drawOp (P : Program) (T : Tab) (q : Nat) (o : Oper) (E : List D) (H : Hp) (n : Nat) (K : KD) : Prop :=
 bif Nat.beq q 0 then pureD T o E fun d => K d E H n
 else bif Nat.beq q 1 then memD T o E H fun d => K d E H n
 else bif Nat.beq q 2 then growD P T o E H n K
 else opD P T o E H n K
def stepR (P : Program) (T : Tab) (all : List Oper) (i q : Nat) (k : List D → Hp → Nat → Prop) (E : List D) (H : Hp) (n : Nat) : Prop :=
 match all[i]? with
  | none => False
  | some o => match o.guard with
   | none => drawOp P T q o E H n (fun d E H n => putK E o.dst d (fun E => k E H n))
   | some (j, want) =>
    match slotOf all j with
    | some s => match E.getD s .junk with
     | .f (.v (.bool t)) =>
      bif want then Case t (drawOp P T q o E H n (fun d E H n => putK E o.dst d (fun E => k E H n))) (putK E o.dst (.tup []) (fun E => k E H n))
      else Case t (putK E o.dst (.tup []) (fun E => k E H n)) (drawOp P T q o E H n (fun d E H n => putK E o.dst d (fun E => k E H n)))
     | .tup [] => putK E o.dst (.tup []) (fun E => k E H n)
     | _ => False
    | none => False
noncomputable def drawD (P : Program) (T : Tab) (all : List Oper) (l : List (Nat × Nat)) (E : List D) (H : Hp) (n : Nat) (K : List D → Hp → Nat → Prop) : Prop :=
 List.rec (motive := fun _ => List D → Hp → Nat → Prop) K (fun p _ k => stepR P T all p.1 p.2 k) l E H n
theorem drawD_cons {P : Program} {T : Tab} {all : List Oper} {i q : Nat} {rest : List (Nat × Nat)} {E : List D} {H : Hp} {n : Nat} {K : List D → Hp → Nat → Prop} : drawD P T all ((i, q) :: rest) E H n K = stepR P T all i q (fun E H n => drawD P T all rest E H n K) E H n := rfl
def waits (ops : Array Oper) : Nat → Nat → Nat → Bool
 | 0, _, _ => false
 | f + 1, t, i => match ops[t]? with
  | some o => o.after.any fun e => Region.binds .any e && (e.on == i || waits ops f e.on i)
  | none => false
def loudAt (sched : List (Nat × Nat)) (j : Nat) : Bool := sched.any fun p => p.1 == j && p.2 == 3
def okFrom (ops : Array Oper) (all : List (Nat × Nat)) : List (Nat × Nat) → Array Bool → Bool
 | [], listed => (Region.ready .any ops listed).isEmpty
 | (i, q) :: r, listed =>
  (match q with
   | 0 => (Region.ready .any ops listed).contains i && Region.free .any ops listed i
   | 1 => (Region.ready .any ops listed).contains i && Region.free .any ops listed i && (List.range ops.size).all fun j => listed.getD j true || j == i || !loudAt all j || waits ops ops.size j i
   | 2 => Region.ready .any ops listed == [i]
   | _ => Region.ready .any ops listed == [i] && loudAt all i) && okFrom ops all r (listed.setIfInBounds i true)
def okSched (ops : Array Oper) (sched : List (Nat × Nat)) : Bool := Region.noSelect ops && sched.length == ops.size && (sched.all fun p => decide (p.2 ≤ 3)) && okFrom ops sched sched (Array.replicate ops.size false)
theorem pureD_sound {T : Tab} (hT : TabOk P 0 T) {o : Oper} {c : Cx} {w : World} {a : Act} {E : List D} (hE : RepL c w E a.tmps.toList) {K : D → Prop} (h : pureD T o E K) :
  ∃ d v, K d ∧ (∀ w' : World, (execOp a.eval o).run P w' = .ok (.value v) w') ∧ Rep c w d v := by
 unfold pureD at h
 split at h
 ·rename_i x ho
  rw [evK_eq] at h
  exact ⟨_, _, h, fun w' => by simp [execOp, ho], rep_ev hE x⟩
 ·rename_i x ho
  rw [evK_eq] at h
  exact ⟨_, _, h, fun w' => by simp [execOp, ho], rep_ev hE x⟩
 ·rename_i q x y ho
  split at h
  ·rename_i t et
   simp only [evK_eq] at h
   have hq := rep_ev hE q
   rw [et] at hq
   have hq := rep_v hq
   replace h := Case.open h
   rcases h with ⟨rfl, h⟩ | ⟨rfl, h⟩
   ·exact ⟨_, _, h, fun w' => by simp [execOp, ho, hq, asBool], rep_ev hE x⟩
   ·exact ⟨_, _, h, fun w' => by simp [execOp, ho, hq, asBool], rep_ev hE y⟩
  ·exact h.elim
 ·rename_i x ho
  have hx := rep_ev hE x
  split at h
  ·rename_i k q e
   rw [e] at hx
   have hx' := hx
   unfold Rep at hx
   obtain ⟨_, hv⟩ := hx
   exact ⟨_, a.eval x, h, fun w' => by simp [execOp, ho, hv], hx'⟩
  ·rename_i cs e
   rw [e] at hx
   have hx' := hx
   unfold Rep at hx
   obtain ⟨b, q, hv, _⟩ := hx
   exact ⟨_, a.eval x, h, fun w' => by simp [execOp, ho, hv], hx'⟩
  ·rename_i k t s es i q e
   rw [e] at hx
   have hx' := hx
   unfold Rep at hx
   obtain ⟨_, _, _, b, oo, m, cap, _, hv⟩ := hx
   exact ⟨_, a.eval x, h, fun w' => by simp [execOp, ho, hv], hx'⟩
  ·rename_i g cap e
   rw [e] at hx
   have hx' := hx
   unfold Rep at hx
   obtain ⟨vs, hv, _⟩ := hx
   exact ⟨_, a.eval x, h, fun w' => by simp [execOp, ho, hv], hx'⟩
  ·exact h.elim
 ·rename_i op t x y yt ho
  have hx := rep_ev hE x
  have hy := rep_ev hE y
  have this : (execOp a.eval o) = (do pure (Next.value (← (do eqGuard op t x y (a.eval x) (a.eval y); binOp op t (a.eval x) (a.eval y)))) : Sem Next) := by simp [execOp, ho]
  split at h
  ·rename_i cs e
   rw [e] at hx
   obtain ⟨z, hz, h1, h2⟩ := eqD_sound (P := P) (w := w) (ox := x) (oy := y) hT hx hy h
   exact ⟨_, z, h1, fun w' => by rw [this, Sem.run_bind, h2]; rfl, rep_of _ hz⟩
  ·rename_i b e
   rw [e] at hx
   replace h := tiK_open hT h; obtain ⟨ti, L, h⟩ := h
   split at h
   ·rename_i hde
    obtain ⟨z, hz, h1, h2⟩ := boolD_sound (P := P) (w := w) (t := t) (ox := x) (oy := y) (by rw [L.und, hde]) hx hy h
    exact ⟨_, z, h1, fun w' => by rw [this, Sem.run_bind, h2]; rfl, rep_of _ hz⟩
   ·exact h.elim
  ·obtain ⟨z, hz, h1, h2⟩ := binD_sound (P := P) (w := w) (t := t) (ox := x) (oy := y) hx hy h
   exact ⟨_, z, h1, fun w' => by rw [this, Sem.run_bind, h2]; rfl, rep_of _ hz⟩
 ·rename_i op t x ho
  obtain ⟨z, hz, h1, h2⟩ := unD_sound (P := P) (w := w) (rep_ev hE x) h
  exact ⟨_, z, h1, fun w' => by simp [execOp, ho, h2], rep_of _ hz⟩
 ·rename_i t x f ho
  obtain ⟨d, u, h1, h2, h3⟩ := fieldAddrD_sound (w := w) hT (rep_ev hE x) h
  exact ⟨d, u, h1, fun w' => by simp [execOp, ho, h2], h3⟩
 ·rename_i t x f ho
  obtain ⟨d, u, h1, h2, h3⟩ := fieldD_sound (w := w) hT (rep_ev hE x) h
  exact ⟨d, u, h1, fun w' => by simp [execOp, ho, h2], h3⟩
 ·rename_i t x i ho
  obtain ⟨d, u, h1, h2, h3⟩ := indexAddrD_sound (w := w) hT (rep_ev hE x) (rep_ev hE i) h
  exact ⟨d, u, h1, fun w' => by simp [execOp, ho, h2], h3⟩
 ·rename_i t x i ho
  obtain ⟨d, u, h1, h2, h3⟩ := indexD_sound (w := w) hT (rep_ev hE x) (rep_ev hE i) h
  exact ⟨d, u, h1, fun w' => by simp [execOp, ho, h2], h3⟩
 ·rename_i x i ho
  split at h
  ·rename_i ds e
   cases hi : ds[i]? with
   | none => simp only [hi] at h
   | some d =>
    simp only [hi, force_eq] at h
    have hx := rep_ev hE x
    rw [e] at hx
    unfold Rep at hx
    obtain ⟨vs, hv, hr⟩ := hx
    obtain ⟨v, h1, h2⟩ := hr.get? i d hi
    have : vs.toArray[i]? = some v := by simpa using h1
    exact ⟨d, v, h, fun w' => by simp [execOp, ho, hv, Instr.extract, this], h2⟩
  ·exact h.elim
 ·rename_i q ho
  obtain ⟨callee, args, argTypes⟩ := q
  split at h
  ·rename_i e
   simp only at e
   subst e
   split at h
   ·rename_i x t e1 e2
    obtain ⟨z, hz, h1, h2⟩ := lenD_sound (w := w) (ty := o.type) hT (rep_ev hE x) h
    have a1 : args = #[x] := by apply Array.ext'; simpa using e1
    have a2 : argTypes = #[t] := by apply Array.ext'; simpa using e2
    subst a1 a2
    exact ⟨_, z, h1, fun w' => by simp [execOp, ho, resolve, invoke, builtin, h2], rep_of _ hz⟩
   ·exact h.elim
  ·exact h.elim
 ·exact h.elim
theorem memD_sound {T : Tab} (hT : TabOk P 0 T) {o : Oper} {B : Base} {c : Cx} {w : World} {H : Hp} {n : Nat} (hC : Con B c w H n) {a : Act} {E : List D} (hE : RepL c w E a.tmps.toList) {K : D → Prop} (h : memD T o E H K) :
  ∃ d v, K d ∧ (∀ w' : World, Below w.heap.size w w' → (execOp a.eval o).run P w' = .ok (.value v) w') ∧ Rep c w d v := by
 unfold memD at h
 split at h
 ·rename_i t x ho
  obtain ⟨d, v, h1, h2, h3⟩ := loadD_sound hT hC (rep_ev hE x) h
  exact ⟨d, v, h1, fun w' hb => by simp [execOp, ho, h2 w' hb], h3⟩
 ·exact h.elim
end
section
variable {P : Program}
theorem growD_sound {T : Tab} (hT : TabOk P 0 T) {o : Oper} {E : List D} {H : Hp} {n : Nat} {K : KD} (h : growD P T o E H n K) {B : Base} {c : Cx} {w : World} {a : Act} (hC : Con B c w H n) (hE : RepL c w E a.tmps.toList) (hd : a.defers = []) :
  o.wp P a w (fun a' w' => Below w.heap.size w w' ∧ ∃ d v E' H' n' c', K d E' H' n' ∧ a' = a.put o.dst v ∧ Con B c' w' H' n' ∧ RepL c' w' E' a.tmps.toList ∧ Rep c' w' d v) (fun _ _ _ => False) := by
 unfold growD at h
 split at h
 ·rename_i t len parts ho
  obtain ⟨d, v, E', H', n', c', w', h1, h2, h3, h4, h5, h6⟩ := buildSliceD_sound hT hC hE h
  rw [numK_eq] at h1
  have : (execOp a.eval o).run P w = .ok (.value v) w' := by simp [execOp, ho, h2]
  unfold Oper.wp
  rw [this]
  exact ⟨h6, d, v, E', H', n', c', h1, rfl, h3, h4, h5⟩
 ·rename_i q ho
  obtain ⟨callee, args, argTypes⟩ := q
  split at h
  ·rename_i f e
   simp only at e
   subst e
   split at h
   ·rename_i g cap ef
    rw [evs_eq, appK_eq] at h
    replace h := h.open
    obtain ⟨⟨fn, hf, hnm, hbd⟩, h⟩ := h
    have hx := rep_ev hE f
    rw [ef] at hx
    unfold Rep at hx
    obtain ⟨vs, hv, hr⟩ := hx
    have hcall := h B c w a.tmps.toList (args.toList.map a.eval ++ vs) hC hE ((repL_evs hE _).append hr)
    have hrun : (execOp a.eval o).run P w = .ok (.enter g (args.toList.map a.eval ++ vs).toArray) w := by
     have a1 : (args.toList.map a.eval ++ vs).toArray = args.map a.eval ++ vs.toArray := by apply Array.ext'; simp
     rw [a1]
     simp [execOp, ho, resolve, hv, Deferred.ofValue, invoke, callFunc, hf]
     have hn2 : fn.name ≠ "runtime.NumGoroutine" := by simpa using hnm
     have hb2 : ¬ fn.body = none := fun e => by rw [e] at hbd; cases hbd
     simp [hn2, hb2]
    unfold Oper.wp
    rw [hrun]
    refine hcall.mono fun e w' he => ?_
    obtain ⟨h0, d, v, E', H', n', c', h1, rfl, h2, h3, h4⟩ := he
    exact ⟨h0, d, v, E', H', n', c', h1, rfl, h2, h3, h4⟩
   ·exact h.elim
  ·exact h.elim
 ·exact h.elim
def wpAnyB (P : Program) (ops : Array Oper) (loud : Nat → Bool) (Q : Exit → Act → World → Prop) : Nat → Array Bool → Act → World → Prop
 | 0, listed, a, w => Region.ready .any ops listed = [] ∧ Q .normal a w
 | f + 1, listed, a, w => (Region.ready .any ops listed = [] → Q .normal a w) ∧
  ∀ i ∈ Region.ready .any ops listed, wpOp P ops Q i (fun a' w' => (loud i = false → Below w.heap.size w w') ∧ wpAnyB P ops loud Q f (listed.setIfInBounds i true) a' w') a w
section
variable {ops : Array Oper} {loud : Nat → Bool} {Q : Exit → Act → World → Prop}
theorem wpAny_of_B : ∀ (f : Nat) (listed : Array Bool) (a : Act) (w : World), wpAnyB P ops loud Q f listed a w → wpAny P .any ops Q f listed a w
 | 0, _, _, _, h => h
 | f + 1, _, _, _, h => ⟨h.1, fun i hi => wpOp_mono (fun a' w' h' => wpAny_of_B f _ a' w' h'.2) (h.2 i hi)⟩
def Closed (ops : Array Oper) (listed : Array Bool) : Prop := ∀ (j : Nat) (o : Oper), ops[j]? = some o → listed.getD j false = true → ∀ e ∈ o.after, Region.binds .any e = true → listed.getD e.on false = true
theorem getD_none {listed : Array Bool} {j : Nat} (h : listed.getD j true = false) : listed.getD j false = false := by
 rcases Nat.lt_or_ge j listed.size with h' | h'
 ·simpa [h'] using h
 ·simp [Array.getElem?_eq_none h'] at h
theorem Closed.set {listed : Array Bool} (h : Closed ops listed) {i : Nat} (hi : i ∈ Region.ready .any ops listed) : Closed ops (listed.setIfInBounds i true) := by
 intro j o hj hl e he hb
 by_cases hij : i = j
 ·subst hij
  obtain ⟨_, o', ho', hall⟩ := mem_ready.1 hi
  rw [hj] at ho'
  cases ho'
  exact getD_set_true (hall e he hb)
 ·rw [getD_set_ne false hij] at hl
  exact getD_set_true (h j o hj hl e he hb)
theorem waits_sound {listed : Array Bool} (hc : Closed ops listed) {i : Nat} : ∀ (f j : Nat), waits ops f j i = true → (∀ o, ops[j]? = some o → ∀ e ∈ o.after, Region.binds .any e = true → listed.getD e.on false = true) → listed.getD i false = true
 | 0, j, h, _ => by simp [waits] at h
 | f + 1, j, h, hall => by
  unfold waits at h
  split at h
  ·rename_i o ho
   rw [Array.any_eq_true'] at h
   obtain ⟨e, he, hx⟩ := h
   simp only [Bool.and_eq_true, Bool.or_eq_true, beq_iff_eq] at hx
   have h1 := hall o ho e he hx.1
   rcases hx.2 with h2 | h2
   ·rw [← h2]; exact h1
   ·exact waits_sound hc f e.on h2 (fun o' ho' => hc e.on o' ho' h1)
  ·cases h
theorem wpAnyB_first {i : Nat} {oi : Oper} {v : Value} {S : World → Prop} {m : Nat} (hi : ops[i]? = some oi) (hsel : ∀ (j : Nat) (o : Oper) cs b, ops[j]? = some o → o.op ≠ .select cs b)
  (hQ : ∀ c a w, Q (.panic c) (a.put oi.dst v) w → Q (.panic c) a w) (hS : ∀ w w', S w → Below w.heap.size w w' → S w') :
  ∀ (fuel : Nat) (listed : Array Bool) (a : Act) (w : World), Closed ops listed →
   (∀ j oj, ops[j]? = some oj → j ≠ i → listed.getD j true = false → (∀ e ∈ oj.after, Region.binds .any e = true → e.on ≠ i) → oi.apart ops oj = true) →
   (∀ j oj, ops[j]? = some oj → listed.getD j true = false → j ≠ i → loud j = true → (∀ w, S w) ∨ waits ops m j i = true) →
   i ∈ Region.ready .any ops listed → YieldsIf P ops S oi v a → S w →
   wpAnyB P ops loud Q fuel (listed.setIfInBounds i true) (a.put oi.dst v) w → wpAnyB P ops loud Q (fuel + 1) listed a w := by
 intro fuel
 induction fuel with
 | zero =>
  intro listed a w _ _ _ hr hy hw H
  refine ⟨fun h => (by rw [h] at hr; cases hr), fun j hj => ?_⟩
  by_cases hji : j = i
  ·subst hji; exact hy.wpOp hi hw ⟨fun _ => Below.refl _ _, H⟩
  ·have := ready_mono hj hji
   rw [H.1] at this
   cases this
 | succ fuel ih =>
  intro listed a w hcl hfree hq hr hy hw H
  refine ⟨fun h => (by rw [h] at hr; cases hr), fun j hj => ?_⟩
  by_cases hji : j = i
  ·subst hji; exact hy.wpOp hi hw ⟨fun _ => Below.refl _ _, H⟩
  ·have h1 := H.2 j (ready_mono hj hji)
   obtain ⟨hjun, oj, hoj, hall⟩ := mem_ready.1 hj
   have hnot : ∀ e ∈ oj.after, Region.binds .any e = true → e.on ≠ i := fun e he hb heq => by
    have h1 := hall e he hb
    rw [heq, getD_none (mem_ready.1 hr).1] at h1
    cases h1
   have h2 := wpOp_putIf hoj (hfree j oj hoj hji hjun hnot) (fun cs b => hsel i oi cs b hi) (fun cs b => hsel j oj cs b hoj) hQ hy h1
   have hun' : ∀ k, (listed.setIfInBounds j true).getD k true = false → listed.getD k true = false := fun k hun => by
    by_cases hjk : j = k
    ·subst hjk; exact hjun
    ·rw [getD_set_ne true hjk] at hun; exact hun
   refine wpOp_mono (fun a' w' h3 => ?_) h2
   obtain ⟨hy', hb, h4⟩ := h3
   have hw' : S w' := by
    cases hl : loud j with
    | false => exact hS w w' hw (hb hl)
    | true =>
     rcases hq j oj hoj hjun hji hl with h5 | h5
     ·exact h5 w'
     ·have := waits_sound hcl m j h5 (fun o ho e he hb => by
       rw [hoj] at ho
       cases ho
       exact hall e he hb)
      rw [getD_none (mem_ready.1 hr).1] at this
      cases this
   refine ⟨hb, ih (listed.setIfInBounds j true) a' w' (hcl.set hj) (fun k ok hk hki hun => hfree k ok hk hki (hun' k hun)) (fun k ok hk hun => hq k ok hk (hun' k hun)) (ready_mono hr (Ne.symm hji)) hy' hw' ?_⟩
   rw [Array.setIfInBounds_comm _ _ hji]
   exact h4
theorem wpAnyB_only {i : Nat} {listed : Array Bool} {f : Nat} {a : Act} {w : World} (hr : Region.ready .any ops listed = [i]) (h : wpOp P ops Q i (fun a' w' => (loud i = false → Below w.heap.size w w') ∧ wpAnyB P ops loud Q f (listed.setIfInBounds i true) a' w') a w) : wpAnyB P ops loud Q (f + 1) listed a w :=
 ⟨fun h0 => (by rw [hr] at h0; cases h0), fun j hj => by
  rw [hr] at hj
  have : j = i := by simpa using hj
  subst this
  exact h⟩
end
theorem post_panic {B : Base} {Q : X → List D → Hp → Nat → Prop} {c} {a : Act} {w : World} (h : Post B Q (.panic c) a w) : False := by
 obtain ⟨x, _, _, _, _, e, _⟩ := h
 cases x <;> cases e
theorem drawD_sound {T : Tab} (hT : TabOk P 0 T) {all : Array Oper} {sched : List (Nat × Nat)} (hno : Region.noSelect all = true) {B : Base} {Q : X → List D → Hp → Nat → Prop} : ∀ (l : List (Nat × Nat)) (listed : Array Bool) (E : List D) (H : Hp) (n : Nat) (c : Cx) (w : World) (a : Act),
  okFrom all sched l listed = true → Closed all listed → drawD P T all.toList l E H n (Q .normal) → Con B c w H n → RepL c w E a.tmps.toList → a.defers = [] → wpAnyB P all (loudAt sched) (Post B Q) l.length listed a w
 | [], listed, E, H, n, c, w, a, ho, hcl, h, hC, hE, hd => by
  unfold okFrom at ho
  exact ⟨by simpa using ho, .normal, E, H, n, c, rfl, h, hC, hE, hd⟩
 | (i, q) :: r, listed, E, H, n, c, w, a, ho, hcl, h, hC, hE, hd => by
  have ih := fun listed E H n c w a => drawD_sound hT (B := B) (Q := Q) hno (sched := sched) r listed E H n c w a
  rw [drawD_cons] at h
  unfold stepR at h
  have hops : all[i]? = all.toList[i]? := by simp
  rw [← hops] at h
  cases hoi : all[i]? with
  | none => rw [hoi] at h; exact h.elim
  | some o =>
   rw [hoi] at h
   simp only at h
   unfold okFrom at ho
   rw [Bool.and_eq_true] at ho
   obtain ⟨ho1, ho2⟩ := ho
   have hmem : i ∈ Region.ready .any all listed := by
    revert ho1
    match q with
    | 0 => intro h; simp only [Bool.and_eq_true] at h; simpa using h.1
    | 1 => intro h; simp only [Bool.and_eq_true] at h; simpa using h.1.1
    | 2 => intro h; have := eq_of_beq h; simp [this]
    | k + 3 => intro h; simp only [Bool.and_eq_true] at h; have := eq_of_beq h.1; simp [this]
   -- what is taken first
   have first : ∀ (S : World → Prop) (v : Value) (d : D), q ≤ 1 → YieldsIf P all S o v a → (∀ w w', S w → Below w.heap.size w w' → S w') → S w → ((∀ w, S w) ∨ q = 1) → Rep c w d v →
     putK E o.dst d (fun E => drawD P T all.toList r E H n (Q .normal)) → wpAnyB P all (loudAt sched) (Post B Q) (r.length + 1) listed a w := fun S v d hq hy hS hw hor hr hp => by
    obtain ⟨E2, h6, h7⟩ := repL_put hE hr o.dst hp
    have hfree : Region.free .any all listed i = true := by
     match q, hq, ho1 with
     | 0, _, h => simp only [Bool.and_eq_true] at h; exact h.2
     | 1, _, h => simp only [Bool.and_eq_true] at h; exact h.1.2
    refine wpAnyB_first (S := S) (m := all.size) hoi (Region.noSelect_spec hno) (fun c a w h => (post_panic h).elim) hS r.length listed a w hcl (Region.free_spec hoi hfree) (fun j oj hj hun hne hl => ?_) hmem hy hw (ih _ E2 H n c w _ ho2 (hcl.set hmem) h6 hC h7 (by rw [put_defers]; exact hd))
    rcases hor with h8 | rfl
    ·exact .inl h8
    ·right
     simp only [Bool.and_eq_true, List.all_eq_true, List.mem_range] at ho1
     have := ho1.2 j (Array.getElem?_eq_some_iff.1 hj).1
     simpa [hun, hne, hl] using this
   -- one that comes up alone
   have alone : 2 ≤ q → Region.ready .any all listed = [i] ∧ (3 ≤ q → loudAt sched i = true) := fun hq => by
    match q, hq, ho1 with
    | 2, _, h => exact ⟨eq_of_beq h, fun h => by omega⟩
    | k + 3, _, h => simp only [Bool.and_eq_true] at h; exact ⟨eq_of_beq h.1, fun _ => h.2⟩
   have go : Region.wanted o (yielded all a.tmps) = true → drawOp P T q o E H n (fun d E H n => putK E o.dst d (fun E => drawD P T all.toList r E H n (Q .normal))) → wpAnyB P all (loudAt sched) (Post B Q) (r.length + 1) listed a w := fun hwa h => by
    match q, h, first, alone with
    | 0, h, first, _ =>
     obtain ⟨d, v, h1, h2, h3⟩ := pureD_sound (w := w) hT hE h
     exact first (fun _ => True) _ _ (Nat.zero_le _) (.inl ⟨hwa, fun w' _ => h2 w'⟩) (fun _ _ _ _ => trivial) trivial (.inl fun _ => trivial) h3 h1
    | 1, h, first, _ =>
     obtain ⟨d, v, h1, h2, h3⟩ := memD_sound hT hC hE h
     exact first (fun w' => Below w.heap.size w w') _ _ (Nat.le_refl _) (.inl ⟨hwa, h2⟩) (fun w1 w2 hb hb2 => hb.trans (hb2.mono hb.size)) (Below.refl _ _) (.inr rfl) h3 h1
    | 2, h, _, alone =>
     refine wpAnyB_only (alone (Nat.le_refl _)).1 ?_
     unfold wpOp
     rw [hoi]
     simp only [hwa, if_true]
     refine .inl (Oper.wp_false (Oper.wp_mono ?_ (growD_sound hT h hC hE hd)))
     rintro a' w' ⟨hb, d, v, E', H', n', c', h2, rfl, h3, h4, h5⟩
     obtain ⟨E2, h6, h7⟩ := repL_put h4 h5 o.dst h2
     exact ⟨fun _ => hb, ih _ E2 H' n' c' w' _ ho2 (hcl.set hmem) h6 h3 h7 (by rw [put_defers]; exact hd)⟩
    | k + 3, h, _, alone =>
     obtain ⟨al, lo⟩ := alone (by omega)
     have h : opD P T o E H n (fun d E H n => putK E o.dst d (fun E => drawD P T all.toList r E H n (Q .normal))) := h
     refine wpAnyB_only al ?_
     unfold wpOp
     rw [hoi]
     simp only [hwa, if_true]
     refine .inl (Oper.wp_false (Oper.wp_mono ?_ (opD_sound hT h B c w a hC hE hd)))
     rintro a' w' ⟨d, v, E', H', n', c', h2, rfl, h3, h4, h5⟩
     obtain ⟨E2, h6, h7⟩ := repL_put h4 h5 o.dst h2
     exact ⟨fun hf => (by rw [lo (by omega)] at hf; cases hf), ih _ E2 H' n' c' w' _ ho2 (hcl.set hmem) h6 h3 h7 (by rw [put_defers]; exact hd)⟩
   have skip : Region.wanted o (yielded all a.tmps) = false → putK E o.dst (.tup []) (fun E => drawD P T all.toList r E H n (Q .normal)) → wpAnyB P all (loudAt sched) (Post B Q) (r.length + 1) listed a w := fun hwa h => by
    rcases Nat.lt_or_ge q 2 with hq | hq
    ·exact first (fun _ => True) _ _ (by omega) (.inr ⟨hwa, rfl⟩) (fun _ _ _ _ => trivial) trivial (.inl fun _ => trivial) rep_undef h
    ·refine wpAnyB_only (alone hq).1 ?_
     unfold wpOp
     rw [hoi]
     simp only [hwa, Bool.false_eq_true, if_false]
     obtain ⟨E2, h6, h7⟩ := repL_put hE rep_undef o.dst h
     exact ⟨fun _ => Below.refl _ _, ih _ E2 H n c w _ ho2 (hcl.set hmem) h6 hC h7 (by rw [put_defers]; exact hd)⟩
   split at h
   ·rename_i hg
    exact go (by simp [Region.wanted, hg]) h
   ·rename_i j want hg
    split at h
    ·rename_i i' hs
     split at h
     ·rename_i t he
      have hy := yielded_of hE hs he
      cases want with
      | true =>
       simp only [cond_true] at h
       replace h := Case.open h
       rcases h with ⟨rfl, h⟩ | ⟨rfl, h⟩
       ·exact go (by simp [Region.wanted, hg, hy]) h
       ·exact skip (by simp [Region.wanted, hg, hy]) h
      | false =>
       simp only [cond_false] at h
       replace h := Case.open h
       rcases h with ⟨rfl, h⟩ | ⟨rfl, h⟩
       ·exact skip (by simp [Region.wanted, hg, hy]) h
       ·exact go (by simp [Region.wanted, hg, hy]) h
     ·rename_i he
      exact skip (by simp [Region.wanted, hg, yielded_undef hE hs he]) h
     ·exact h.elim
    ·exact h.elim
theorem step_draw {T : Tab} (hT : TabOk P 0 T) (hm : P.follows .mixedOrders = true) {id : Nat} {ops : Array Oper} (sched : List (Nat × Nat)) {Q : X → List D → Hp → Nat → Prop} {E : List D} {H : Hp} {n : Nat} (hs : okSched ops sched = true) (h : drawD P T ops.toList sched E H n (Q .normal)) : Step P (.region id ops true) Q E H n := by
 refine Step.mk fun B c w a hC hE hd => ?_
 unfold okSched at hs
 simp only [Bool.and_eq_true] at hs
 obtain ⟨⟨⟨h1, h2⟩, _⟩, h4⟩ := hs
 obtain ⟨hC2, hk2⟩ := hC.grow (w' := w.drew) (Below.refl _ _).drew
 have h5 := drawD_sound hT (B := B) (Q := Q) h1 sched (Array.replicate ops.size false) E H n c w.drew a h4 (fun j o hj hl => by
  exfalso
  rcases Nat.lt_or_ge j ops.size with h' | h'
  ·simp [h'] at hl
  ·simp [Array.getElem?_eq_none, h'] at hl) h hC2 (hE.mono hk2) hd
 rw [eq_of_beq h2] at h5
 exact wp_region_any hm (wpAny_of_B _ _ _ _ h5)
end
section
variable {P : Program}
theorem step_of {T : Tab} (hT : TabOk P 0 T) {k : Code} {Q : X → List D → Hp → Nat → Prop} {E : List D} {H : Hp} {n : Nat} (h : awp P T k Q E H n) : Step P k Q E H n := Step.mk (awp_sound hT k h)
theorem step_seq {T : Tab} (hT : TabOk P 0 T) {x y : Code} {Q : X → List D → Hp → Nat → Prop} {E : List D} {H : Hp} {n : Nat}
  (h : awp P T x (fun e E H n => match e with
   | .normal => Step P y Q E H n
   | e => Q e E H n) E H n) : Step P (.seq x y) Q E H n := Step.mk fun B c w a hC hE hd => by
 refine wp_seq (wp_mono (awp_sound hT x h B c w a hC hE hd) ?_)
 rintro e a' w' ⟨x', E', H', n', c', rfl, h1, h2, h3, h4⟩
 cases x' with
 | normal => exact h1.open B c' w' a' h2 h3 h4
 | exit id => exact ⟨.exit id, E', H', n', c', rfl, h1, h2, h3, h4⟩
 | ret => exact ⟨.ret, E', H', n', c', rfl, h1, h2, h3, h4⟩
theorem step_cut {T : Tab} (hT : TabOk P 0 T) {x y : Code} {Q : X → List D → Hp → Nat → Prop} {E : List D} {H : Hp} {n : Nat} {α : Type} (pat : α → List D) (hp : α → Hp) (n1 : Nat) (I : α → Prop) (hlen : ∀ a, (hp a).length = H.length)
  (h : awp P T x (fun e E' H' n' => match e with
   | .normal => ∃ s, I s ∧ Into E' H' n' (pat s) (hp s) n1
   | e => Q e E' H' n') E H n)
  (k : ∀ s, I s → layK (pat s) fun E => Step P y Q E (hp s) n1) : Step P (.seq x y) Q E H n := Step.mk fun B c w a hC hE hd => by
 have hB : B.h0 ≤ H.length := by rw [← hC.hlen]; exact hC.hh
 refine wp_seq (wp_mono (awp_sound hT x h B c w a hC hE hd) ?_)
 rintro e a' w' ⟨x', E', H', n', c', rfl, h1, h2, h3, h4⟩
 cases x' with
 | normal =>
  obtain ⟨s, h5, h6⟩ := h1
  have hk := k s h5
  rw [layK_eq] at hk
  obtain ⟨h7, h8⟩ := h2.into (by rw [hlen]; exact hB) h6 h3
  exact hk.open B _ w' a' h7 h8 h4
 | exit id => exact ⟨.exit id, E', H', n', c', rfl, h1, h2, h3, h4⟩
 | ret => exact ⟨.ret, E', H', n', c', rfl, h1, h2, h3, h4⟩
theorem step_into {x : Code} {Q : X → List D → Hp → Nat → Prop} {E E' : List D} {H H' : Hp} {n n' : Nat} (hlen : H'.length = H.length) (hi : Into E H n E' H' n') (h : layK E' fun E' => Step P x Q E' H' n') : Step P x Q E H n := Step.mk fun B c w a hC hE hd => by
 rw [layK_eq] at h
 have hB : B.h0 ≤ H.length := by rw [← hC.hlen]; exact hC.hh
 obtain ⟨h7, h8⟩ := hC.into (by rw [hlen]; exact hB) hi hE
 exact h.open B _ w a h7 h8 hd
theorem spec_step {T : Tab} (hT : TabOk P 0 T) {g : FuncId} {fn : Func} {k : Code} {args : List D} {H : Hp} {n : Nat} {R : D → Hp → Prop} (hf : P.funcs[g]? = some fn) (hnm : (fn.name == "runtime.NumGoroutine") = false) (hb : fn.body = some k)
  (h : layK (padK args fn.ntmps) fun E => Step P k (Ends T fn.results.toList H.length n R) E H n) : Spec P g args H n R := by
 rw [layK_eq] at h
 refine spec_sem hT hf hnm hb h.open
end
open Go
abbrev z0 : Value := .slice none 0 0
abbrev z1 : Value := .int .i64 0
abbrev z2 : Value := .string ⟨#[]⟩
abbrev z3 : Value := .pointer none
abbrev z4 : Value := .bool false
abbrev y0 : TI := ⟨.invalid, 0, 0, [], .tuple #[]⟩
abbrev y1 (t : Nat) : TI := ⟨.slice t, 1, 24, [z0], z0⟩
abbrev y2 (t : Nat) : TI := ⟨.pointer t, 1, 8, [z3], z3⟩
abbrev y3 (a b : Array Nat) : TI := ⟨.func a b false, 1, 8, [.nilFunc], .nilFunc⟩
abbrev y4 : TI := ⟨.int .i64, 1, 8, [z1], z1⟩
abbrev y5 (n : String) (t o b : Nat) : Field := ⟨n, t, o, false, "", "", b⟩
def tab : Tab := [
 y0,
 y3 #[] #[],
 y4,
 y4,
 ⟨.bool, 1, 1, [.bool false], .bool false⟩,
 ⟨.int .u8, 1, 1, [.int .u8 0], .int .u8 0⟩,
 ⟨.int .u8, 1, 1, [.int .u8 0], .int .u8 0⟩,
 y0,
 y0,
 ⟨.string, 1, 16, [.string ⟨#[]⟩], .string ⟨#[]⟩⟩,
 ⟨.string, 1, 16, [.string ⟨#[]⟩], .string ⟨#[]⟩⟩,
 ⟨.string, 1, 16, [.string ⟨#[]⟩], .string ⟨#[]⟩⟩,
 ⟨.int .u64, 1, 8, [.int .u64 0], .int .u64 0⟩,
 y0,
 y0,
 y2 202,
 y2 205,
 y2 212,
 y0,
 y0,
 y0,
 ⟨.int .i32, 1, 4, [.int .i32 0], .int .i32 0⟩,
 y1 5,
 y3 #[] #[4],
 y3 #[25, 25] #[4],
 y1 31,
 y3 #[22] #[25],
 y3 #[22] #[4],
 y1 34,
 y1 67,
 ⟨.struct #[y5 "Sels" 28 0 0, y5 "Sets" 29 1 24], 2, 48, [z0, z0], .agg #[z0, z0]⟩,
 ⟨.struct #[y5 "Sels" 28 0 0, y5 "Sets" 29 1 24], 2, 48, [z0, z0], .agg #[z0, z0]⟩,
 y1 41,
 ⟨.struct #[y5 "Parts" 32 0 0], 1, 24, [z0], .agg #[z0]⟩,
 ⟨.struct #[y5 "Parts" 32 0 0], 1, 24, [z0], .agg #[z0]⟩,
 y1 9,
 y1 103,
 y1 105,
 ⟨.struct #[y5 "Tag" 9 0 0, y5 "IDs" 35 1 16, y5 "Classes" 35 2 40, y5 "Attrs" 36 3 64, y5 "Pseudos" 37 4 88], 5, 112, [z2, z0, z0, z0, z0], .agg #[z2, z0, z0, z0, z0]⟩,
 ⟨.struct #[y5 "Tag" 9 0 0, y5 "IDs" 35 1 16, y5 "Classes" 35 2 40, y5 "Attrs" 36 3 64, y5 "Pseudos" 37 4 88], 5, 112, [z2, z0, z0, z0, z0], .agg #[z2, z0, z0, z0, z0]⟩,
 ⟨.struct #[y5 "Comb" 3 0 0, y5 "Compound" 39 1 8], 6, 120, [z1, z2, z0, z0, z0, z0], .agg #[z1, z2, z0, z0, z0, z0]⟩,
 ⟨.struct #[y5 "Comb" 3 0 0, y5 "Compound" 39 1 8], 6, 120, [z1, z2, z0, z0, z0, z0], .agg #[z1, z2, z0, z0, z0, z0]⟩,
 y3 #[22, 22] #[4],
 y0,
 y3 #[45] #[28, 4],
 y1 69,
 y3 #[9] #[45],
 y3 #[28, 28] #[4],
 y3 #[29, 29] #[4],
 y1 55,
 y3 #[45] #[49],
 y3 #[52] #[45],
 y1 3,
 y3 #[22] #[52],
 ⟨.struct #[y5 "Prelude" 45 0 0, y5 "Block" 45 1 24], 2, 48, [z0, z0], .agg #[z0, z0]⟩,
 ⟨.struct #[y5 "Prelude" 45 0 0, y5 "Block" 45 1 24], 2, 48, [z0, z0], .agg #[z0, z0]⟩,
 y3 #[57] #[29],
 y1 80,
 y3 #[45] #[57],
 y2 61,
 ⟨.struct #[⟨"t", 45, 0, false, "", "tapestrier/sel", 0⟩, ⟨"i", 3, 1, false, "", "tapestrier/sel", 24⟩, ⟨"deep", 3, 2, false, "", "tapestrier/sel", 32⟩], 3, 40, [z0, z1, z1], .agg #[z0, z1, z1]⟩,
 ⟨.struct #[⟨"t", 45, 0, false, "", "tapestrier/sel", 0⟩, ⟨"i", 3, 1, false, "", "tapestrier/sel", 24⟩, ⟨"deep", 3, 2, false, "", "tapestrier/sel", 32⟩], 3, 40, [z0, z1, z1], .agg #[z0, z1, z1]⟩,
 y3 #[] #[28, 4],
 y3 #[39, 39] #[4],
 ⟨.struct #[y5 "Kind" 3 0 0, y5 "N" 3 1 8], 2, 16, [z1, z1], .agg #[z1, z1]⟩,
 ⟨.struct #[y5 "Kind" 3 0 0, y5 "N" 3 1 8], 2, 16, [z1, z1], .agg #[z1, z1]⟩,
 ⟨.struct #[y5 "Prop" 3 0 0, y5 "Value" 65 1 8, y5 "Important" 4 3 24], 4, 32, [z1, z1, z1, z4], .agg #[z1, z1, z1, z4]⟩,
 ⟨.struct #[y5 "Prop" 3 0 0, y5 "Value" 65 1 8, y5 "Important" 4 3 24], 4, 32, [z1, z1, z1, z4], .agg #[z1, z1, z1, z4]⟩,
 ⟨.struct #[y5 "Kind" 3 0 0, y5 "Text" 9 1 8, y5 "N" 3 2 24, y5 "Whole" 4 3 32, y5 "C" 3 4 40], 5, 48, [z1, z2, z1, z4, z1], .agg #[z1, z2, z1, z4, z1]⟩,
 ⟨.struct #[y5 "Kind" 3 0 0, y5 "Text" 9 1 8, y5 "N" 3 2 24, y5 "Whole" 4 3 32, y5 "C" 3 4 40], 5, 48, [z1, z2, z1, z4, z1], .agg #[z1, z2, z1, z4, z1]⟩,
 y3 #[45, 3] #[3],
 y3 #[45, 3, 3, 3] #[3],
 y3 #[45] #[45],
 y3 #[45, 3] #[45],
 y3 #[108] #[],
 y3 #[52] #[74],
 y3 #[52] #[52],
 y3 #[92] #[],
 y3 #[22] #[77],
 ⟨.struct #[y5 "Name" 9 0 0, y5 "Value" 45 1 16, y5 "Important" 4 2 40], 3, 48, [z2, z0, z4], .agg #[z2, z0, z4]⟩,
 ⟨.struct #[y5 "Name" 9 0 0, y5 "Value" 45 1 16, y5 "Important" 4 2 40], 3, 48, [z2, z0, z4], .agg #[z2, z0, z4]⟩,
 y0,
 y3 #[9] #[3, 4],
 y0,
 y3 #[3, 45] #[65, 4],
 y0,
 y3 #[45] #[80, 4],
 y3 #[45, 3, 3] #[4],
 y2 90,
 ⟨.struct #[⟨"l", 52, 0, false, "", "tapestrier/tapestrierref1", 0⟩, ⟨"at", 3, 1, false, "", "tapestrier/tapestrierref1", 24⟩], 2, 32, [z0, z1], .agg #[z0, z1]⟩,
 ⟨.struct #[⟨"l", 52, 0, false, "", "tapestrier/tapestrierref1", 0⟩, ⟨"at", 3, 1, false, "", "tapestrier/tapestrierref1", 24⟩], 2, 32, [z0, z1], .agg #[z0, z1]⟩,
 y3 #[3] #[3],
 y3 #[3] #[4],
 y3 #[] #[69],
 y3 #[] #[9],
 y2 97,
 ⟨.struct #[⟨"t", 45, 0, false, "", "tapestrier/tapestrierref1", 0⟩, ⟨"at", 3, 1, false, "", "tapestrier/tapestrierref1", 24⟩, ⟨"bad", 4, 2, false, "", "tapestrier/tapestrierref1", 32⟩, ⟨"deep", 3, 3, false, "", "tapestrier/tapestrierref1", 40⟩], 4, 48, [z0, z1, z4, z1], .agg #[z0, z1, z4, z1]⟩,
 ⟨.struct #[⟨"t", 45, 0, false, "", "tapestrier/tapestrierref1", 0⟩, ⟨"at", 3, 1, false, "", "tapestrier/tapestrierref1", 24⟩, ⟨"bad", 4, 2, false, "", "tapestrier/tapestrierref1", 32⟩, ⟨"deep", 3, 3, false, "", "tapestrier/tapestrierref1", 40⟩], 4, 48, [z0, z1, z4, z1], .agg #[z0, z1, z4, z1]⟩,
 y3 #[] #[28],
 y0,
 y3 #[] #[34, 4],
 y3 #[35, 35] #[4],
 ⟨.struct #[y5 "Name" 9 0 0, y5 "Op" 3 1 16, y5 "Text" 9 2 24], 3, 40, [z2, z1, z2], .agg #[z2, z1, z2]⟩,
 ⟨.struct #[y5 "Name" 9 0 0, y5 "Op" 3 1 16, y5 "Text" 9 2 24], 3, 40, [z2, z1, z2], .agg #[z2, z1, z2]⟩,
 ⟨.struct #[y5 "Kind" 3 0 0, y5 "A" 3 1 8, y5 "B" 3 2 16, y5 "List" 28 3 24], 4, 48, [z1, z1, z1, z0], .agg #[z1, z1, z1, z0]⟩,
 ⟨.struct #[y5 "Kind" 3 0 0, y5 "A" 3 1 8, y5 "B" 3 2 16, y5 "List" 28 3 24], 4, 48, [z1, z1, z1, z0], .agg #[z1, z1, z1, z0]⟩,
 y3 #[135] #[],
 y3 #[45, 3] #[106],
 y3 #[69] #[4],
 y2 111,
 ⟨.struct #[⟨"l", 52, 0, false, "", "tapestrier/tok", 0⟩, ⟨"i", 3, 1, false, "", "tapestrier/tok", 24⟩], 2, 32, [z0, z1], .agg #[z0, z1]⟩,
 ⟨.struct #[⟨"l", 52, 0, false, "", "tapestrier/tok", 0⟩, ⟨"i", 3, 1, false, "", "tapestrier/tok", 24⟩], 2, 32, [z0, z1], .agg #[z0, z1]⟩,
 y0,
 y3 #[22] #[21, 3],
 ⟨.array 8 9, 8, 128, [z2, z2, z2, z2, z2, z2, z2, z2], .agg #[z2, z2, z2, z2, z2, z2, z2, z2]⟩,
 y3 #[] #[114],
 y3 #[3, 9] #[65, 4],
 y3 #[9] #[65, 4],
 y3 #[3, 69] #[65, 4],
 y3 #[69] #[65, 4],
 y3 #[9] #[9],
 y0,
 y3 #[45] #[45, 4],
 y3 #[] #[3],
 y3 #[22, 3] #[22],
 y0,
 y3 #[22] #[3, 3],
 y3 #[] #[34],
 y3 #[3] #[69],
 y3 #[3] #[9],
 y3 #[9, 35] #[3, 4],
 y3 #[69, 35] #[65, 4],
 y0,
 y3 #[] #[39, 4],
 y3 #[] #[3, 4],
 y3 #[3, 3] #[4],
 ⟨.map 9 65, 1, 8, [.map none], .map none⟩,
 y3 #[3] #[136],
 ⟨.int .u64, 1, 8, [.int .u64 0], .int .u64 0⟩,
 y0,
 y0,
 y0,
 y3 #[9, 3, 3] #[138, 140],
 ⟨.int .u64, 1, 8, [.int .u64 0], .int .u64 0⟩,
 y3 #[] #[39],
 y0,
 y3 #[147] #[4, 4],
 y2 39,
 y3 #[52] #[22],
 y3 #[22] #[22],
 ⟨.array 256 5, 256, 256, [.int .u8 0, .int .u8 0, .int .u8 0, .int .u8 0, .int .u8 0, .int .u8 0, .int .u8 0, .int .u8 0, .int .u8 0, .int .u8 0, .int .u8 0, .int .u8 0, .int .u8 0, .int .u8 0, .int .u8 0, .int .u8 0, .int .u8 0, .int .u8 0, .int .u8 0, .int .u8 0, .int .u8 0, .int .u8 0, .int .u8 0, .int .u8 0, .int .u8 0, .int .u8 0, .int .u8 0, .int .u8 0, .int .u8 0, .int .u8 0, .int .u8 0, .int .u8 0, .int .u8 0, .int .u8 0, .int .u8 0, .int .u8 0, .int .u8 0, .int .u8 0, .int .u8 0, .int .u8 0, .int .u8 0, .int .u8 0, .int .u8 0, .int .u8 0, .int .u8 0, .int .u8 0, .int .u8 0, .int .u8 0, .int .u8 0, .int .u8 0, .int .u8 0, .int .u8 0, .int .u8 0, .int .u8 0, .int .u8 0, .int .u8 0, .int .u8 0, .int .u8 0, .int .u8 0, .int .u8 0, .int .u8 0, .int .u8 0, .int .u8 0, .int .u8 0, .int .u8 0, .int .u8 0, .int .u8 0, .int .u8 0, .int .u8 0, .int .u8 0, .int .u8 0, .int .u8 0, .int .u8 0, .int .u8 0, .int .u8 0, .int .u8 0, .int .u8 0, .int .u8 0, .int .u8 0, .int .u8 0, .int .u8 0, .int .u8 0, .int .u8 0, .int .u8 0, .int .u8 0, .int .u8 0, .int .u8 0, .int .u8 0, .int .u8 0, .int .u8 0, .int .u8 0, .int .u8 0, .int .u8 0, .int .u8 0, .int .u8 0, .int .u8 0, .int .u8 0, .int .u8 0, .int .u8 0, .int .u8 0, .int .u8 0, .int .u8 0, .int .u8 0, .int .u8 0, .int .u8 0, .int .u8 0, .int .u8 0, .int .u8 0, .int .u8 0, .int .u8 0, .int .u8 0, .int .u8 0, .int .u8 0, .int .u8 0, .int .u8 0, .int .u8 0, .int .u8 0, .int .u8 0, .int .u8 0, .int .u8 0, .int .u8 0, .int .u8 0, .int .u8 0, .int .u8 0, .int .u8 0, .int .u8 0, .int .u8 0, .int .u8 0, .int .u8 0, .int .u8 0, .int .u8 0, .int .u8 0, .int .u8 0, .int .u8 0, .int .u8 0, .int .u8 0, .int .u8 0, .int .u8 0, .int .u8 0, .int .u8 0, .int .u8 0, .int .u8 0, .int .u8 0, .int .u8 0, .int .u8 0, .int .u8 0, .int .u8 0, .int .u8 0, .int .u8 0, .int .u8 0, .int .u8 0, .int .u8 0, .int .u8 0, .int .u8 0, .int .u8 0, .int .u8 0, .int .u8 0, .int .u8 0, .int .u8 0, .int .u8 0, .int .u8 0, .int .u8 0, .int .u8 0, .int .u8 0, .int .u8 0, .int .u8 0, .int .u8 0, .int .u8 0, .int .u8 0, .int .u8 0, .int .u8 0, .int .u8 0, .int .u8 0, .int .u8 0, .int .u8 0, .int .u8 0, .int .u8 0, .int .u8 0, .int .u8 0, .int .u8 0, .int .u8 0, .int .u8 0, .int .u8 0, .int .u8 0, .int .u8 0, .int .u8 0, .int .u8 0, .int .u8 0, .int .u8 0, .int .u8 0, .int .u8 0, .int .u8 0, .int .u8 0, .int .u8 0, .int .u8 0, .int .u8 0, .int .u8 0, .int .u8 0, .int .u8 0, .int .u8 0, .int .u8 0, .int .u8 0, .int .u8 0, .int .u8 0, .int .u8 0, .int .u8 0, .int .u8 0, .int .u8 0, .int .u8 0, .int .u8 0, .int .u8 0, .int .u8 0, .int .u8 0, .int .u8 0, .int .u8 0, .int .u8 0, .int .u8 0, .int .u8 0, .int .u8 0, .int .u8 0, .int .u8 0, .int .u8 0, .int .u8 0, .int .u8 0, .int .u8 0, .int .u8 0, .int .u8 0, .int .u8 0, .int .u8 0, .int .u8 0, .int .u8 0, .int .u8 0, .int .u8 0, .int .u8 0, .int .u8 0, .int .u8 0, .int .u8 0, .int .u8 0, .int .u8 0, .int .u8 0, .int .u8 0, .int .u8 0, .int .u8 0, .int .u8 0, .int .u8 0, .int .u8 0, .int .u8 0, .int .u8 0, .int .u8 0, .int .u8 0, .int .u8 0, .int .u8 0, .int .u8 0, .int .u8 0, .int .u8 0, .int .u8 0], .agg #[.int .u8 0, .int .u8 0, .int .u8 0, .int .u8 0, .int .u8 0, .int .u8 0, .int .u8 0, .int .u8 0, .int .u8 0, .int .u8 0, .int .u8 0, .int .u8 0, .int .u8 0, .int .u8 0, .int .u8 0, .int .u8 0, .int .u8 0, .int .u8 0, .int .u8 0, .int .u8 0, .int .u8 0, .int .u8 0, .int .u8 0, .int .u8 0, .int .u8 0, .int .u8 0, .int .u8 0, .int .u8 0, .int .u8 0, .int .u8 0, .int .u8 0, .int .u8 0, .int .u8 0, .int .u8 0, .int .u8 0, .int .u8 0, .int .u8 0, .int .u8 0, .int .u8 0, .int .u8 0, .int .u8 0, .int .u8 0, .int .u8 0, .int .u8 0, .int .u8 0, .int .u8 0, .int .u8 0, .int .u8 0, .int .u8 0, .int .u8 0, .int .u8 0, .int .u8 0, .int .u8 0, .int .u8 0, .int .u8 0, .int .u8 0, .int .u8 0, .int .u8 0, .int .u8 0, .int .u8 0, .int .u8 0, .int .u8 0, .int .u8 0, .int .u8 0, .int .u8 0, .int .u8 0, .int .u8 0, .int .u8 0, .int .u8 0, .int .u8 0, .int .u8 0, .int .u8 0, .int .u8 0, .int .u8 0, .int .u8 0, .int .u8 0, .int .u8 0, .int .u8 0, .int .u8 0, .int .u8 0, .int .u8 0, .int .u8 0, .int .u8 0, .int .u8 0, .int .u8 0, .int .u8 0, .int .u8 0, .int .u8 0, .int .u8 0, .int .u8 0, .int .u8 0, .int .u8 0, .int .u8 0, .int .u8 0, .int .u8 0, .int .u8 0, .int .u8 0, .int .u8 0, .int .u8 0, .int .u8 0, .int .u8 0, .int .u8 0, .int .u8 0, .int .u8 0, .int .u8 0, .int .u8 0, .int .u8 0, .int .u8 0, .int .u8 0, .int .u8 0, .int .u8 0, .int .u8 0, .int .u8 0, .int .u8 0, .int .u8 0, .int .u8 0, .int .u8 0, .int .u8 0, .int .u8 0, .int .u8 0, .int .u8 0, .int .u8 0, .int .u8 0, .int .u8 0, .int .u8 0, .int .u8 0, .int .u8 0, .int .u8 0, .int .u8 0, .int .u8 0, .int .u8 0, .int .u8 0, .int .u8 0, .int .u8 0, .int .u8 0, .int .u8 0, .int .u8 0, .int .u8 0, .int .u8 0, .int .u8 0, .int .u8 0, .int .u8 0, .int .u8 0, .int .u8 0, .int .u8 0, .int .u8 0, .int .u8 0, .int .u8 0, .int .u8 0, .int .u8 0, .int .u8 0, .int .u8 0, .int .u8 0, .int .u8 0, .int .u8 0, .int .u8 0, .int .u8 0, .int .u8 0, .int .u8 0, .int .u8 0, .int .u8 0, .int .u8 0, .int .u8 0, .int .u8 0, .int .u8 0, .int .u8 0, .int .u8 0, .int .u8 0, .int .u8 0, .int .u8 0, .int .u8 0, .int .u8 0, .int .u8 0, .int .u8 0, .int .u8 0, .int .u8 0, .int .u8 0, .int .u8 0, .int .u8 0, .int .u8 0, .int .u8 0, .int .u8 0, .int .u8 0, .int .u8 0, .int .u8 0, .int .u8 0, .int .u8 0, .int .u8 0, .int .u8 0, .int .u8 0, .int .u8 0, .int .u8 0, .int .u8 0, .int .u8 0, .int .u8 0, .int .u8 0, .int .u8 0, .int .u8 0, .int .u8 0, .int .u8 0, .int .u8 0, .int .u8 0, .int .u8 0, .int .u8 0, .int .u8 0, .int .u8 0, .int .u8 0, .int .u8 0, .int .u8 0, .int .u8 0, .int .u8 0, .int .u8 0, .int .u8 0, .int .u8 0, .int .u8 0, .int .u8 0, .int .u8 0, .int .u8 0, .int .u8 0, .int .u8 0, .int .u8 0, .int .u8 0, .int .u8 0, .int .u8 0, .int .u8 0, .int .u8 0, .int .u8 0, .int .u8 0, .int .u8 0, .int .u8 0, .int .u8 0, .int .u8 0, .int .u8 0, .int .u8 0, .int .u8 0, .int .u8 0, .int .u8 0, .int .u8 0, .int .u8 0, .int .u8 0, .int .u8 0, .int .u8 0, .int .u8 0, .int .u8 0, .int .u8 0, .int .u8 0, .int .u8 0, .int .u8 0, .int .u8 0, .int .u8 0, .int .u8 0, .int .u8 0, .int .u8 0, .int .u8 0, .int .u8 0, .int .u8 0]⟩,
 ⟨.struct #[⟨"lo", 5, 0, false, "", "unicode/utf8", 0⟩, ⟨"hi", 5, 1, false, "", "unicode/utf8", 1⟩], 2, 2, [.int .u8 0, .int .u8 0], .agg #[.int .u8 0, .int .u8 0]⟩,
 ⟨.struct #[⟨"lo", 5, 0, false, "", "unicode/utf8", 0⟩, ⟨"hi", 5, 1, false, "", "unicode/utf8", 1⟩], 2, 2, [.int .u8 0, .int .u8 0], .agg #[.int .u8 0, .int .u8 0]⟩,
 ⟨.array 16 152, 32, 32, [.int .u8 0, .int .u8 0, .int .u8 0, .int .u8 0, .int .u8 0, .int .u8 0, .int .u8 0, .int .u8 0, .int .u8 0, .int .u8 0, .int .u8 0, .int .u8 0, .int .u8 0, .int .u8 0, .int .u8 0, .int .u8 0, .int .u8 0, .int .u8 0, .int .u8 0, .int .u8 0, .int .u8 0, .int .u8 0, .int .u8 0, .int .u8 0, .int .u8 0, .int .u8 0, .int .u8 0, .int .u8 0, .int .u8 0, .int .u8 0, .int .u8 0, .int .u8 0], .agg #[.int .u8 0, .int .u8 0, .int .u8 0, .int .u8 0, .int .u8 0, .int .u8 0, .int .u8 0, .int .u8 0, .int .u8 0, .int .u8 0, .int .u8 0, .int .u8 0, .int .u8 0, .int .u8 0, .int .u8 0, .int .u8 0, .int .u8 0, .int .u8 0, .int .u8 0, .int .u8 0, .int .u8 0, .int .u8 0, .int .u8 0, .int .u8 0, .int .u8 0, .int .u8 0, .int .u8 0, .int .u8 0, .int .u8 0, .int .u8 0, .int .u8 0, .int .u8 0]⟩,
 y3 #[3] #[65],
 y3 #[9, 9, 3, 3, 140] #[140],
 y3 #[] #[103],
 y3 #[] #[105],
 y3 #[69, 3] #[4],
 y0,
 y3 #[] #[103, 4],
 y0,
 y3 #[] #[105, 4],
 y3 #[22, 21] #[22],
 y3 #[9, 9] #[4],
 y0,
 y3 #[9, 9] #[9, 9, 4],
 y3 #[9] #[4],
 y4,
 y3 #[5] #[5],
 y2 178,
 y3 #[9, 9] #[170],
 y3 #[9, 9, 3] #[170],
 y3 #[9] #[3],
 y3 #[3] #[105, 4],
 ⟨.int .u32, 1, 4, [.int .u32 0], .int .u32 0⟩,
 y3 #[3, 3, 3] #[3],
 y0,
 y0,
 y3 #[9] #[140],
 y3 #[9, 9] #[3],
 y2 5,
 y2 184,
 ⟨.struct #[⟨"s", 9, 0, false, "", "errors", 0⟩], 1, 16, [z2], .agg #[z2]⟩,
 ⟨.struct #[⟨"s", 9, 0, false, "", "errors", 0⟩], 1, 16, [z2], .agg #[z2]⟩,
 y3 #[9, 5] #[3],
 y3 #[2, 3] #[9],
 y0,
 y3 #[9] #[175, 175],
 ⟨.array 24 5, 24, 24, [.int .u8 0, .int .u8 0, .int .u8 0, .int .u8 0, .int .u8 0, .int .u8 0, .int .u8 0, .int .u8 0, .int .u8 0, .int .u8 0, .int .u8 0, .int .u8 0, .int .u8 0, .int .u8 0, .int .u8 0, .int .u8 0, .int .u8 0, .int .u8 0, .int .u8 0, .int .u8 0, .int .u8 0, .int .u8 0, .int .u8 0, .int .u8 0], .agg #[.int .u8 0, .int .u8 0, .int .u8 0, .int .u8 0, .int .u8 0, .int .u8 0, .int .u8 0, .int .u8 0, .int .u8 0, .int .u8 0, .int .u8 0, .int .u8 0, .int .u8 0, .int .u8 0, .int .u8 0, .int .u8 0, .int .u8 0, .int .u8 0, .int .u8 0, .int .u8 0, .int .u8 0, .int .u8 0, .int .u8 0, .int .u8 0]⟩,
 y3 #[138] #[3],
 y3 #[22, 138] #[],
 y0,
 y3 #[22, 138, 3, 4, 4] #[22, 9],
 y3 #[4] #[3],
 ⟨.array 20 138, 20, 160, [.int .u64 0, .int .u64 0, .int .u64 0, .int .u64 0, .int .u64 0, .int .u64 0, .int .u64 0, .int .u64 0, .int .u64 0, .int .u64 0, .int .u64 0, .int .u64 0, .int .u64 0, .int .u64 0, .int .u64 0, .int .u64 0, .int .u64 0, .int .u64 0, .int .u64 0, .int .u64 0], .agg #[.int .u64 0, .int .u64 0, .int .u64 0, .int .u64 0, .int .u64 0, .int .u64 0, .int .u64 0, .int .u64 0, .int .u64 0, .int .u64 0, .int .u64 0, .int .u64 0, .int .u64 0, .int .u64 0, .int .u64 0, .int .u64 0, .int .u64 0, .int .u64 0, .int .u64 0, .int .u64 0]⟩,
 ⟨.array 65 5, 65, 65, [.int .u8 0, .int .u8 0, .int .u8 0, .int .u8 0, .int .u8 0, .int .u8 0, .int .u8 0, .int .u8 0, .int .u8 0, .int .u8 0, .int .u8 0, .int .u8 0, .int .u8 0, .int .u8 0, .int .u8 0, .int .u8 0, .int .u8 0, .int .u8 0, .int .u8 0, .int .u8 0, .int .u8 0, .int .u8 0, .int .u8 0, .int .u8 0, .int .u8 0, .int .u8 0, .int .u8 0, .int .u8 0, .int .u8 0, .int .u8 0, .int .u8 0, .int .u8 0, .int .u8 0, .int .u8 0, .int .u8 0, .int .u8 0, .int .u8 0, .int .u8 0, .int .u8 0, .int .u8 0, .int .u8 0, .int .u8 0, .int .u8 0, .int .u8 0, .int .u8 0, .int .u8 0, .int .u8 0, .int .u8 0, .int .u8 0, .int .u8 0, .int .u8 0, .int .u8 0, .int .u8 0, .int .u8 0, .int .u8 0, .int .u8 0, .int .u8 0, .int .u8 0, .int .u8 0, .int .u8 0, .int .u8 0, .int .u8 0, .int .u8 0, .int .u8 0, .int .u8 0], .agg #[.int .u8 0, .int .u8 0, .int .u8 0, .int .u8 0, .int .u8 0, .int .u8 0, .int .u8 0, .int .u8 0, .int .u8 0, .int .u8 0, .int .u8 0, .int .u8 0, .int .u8 0, .int .u8 0, .int .u8 0, .int .u8 0, .int .u8 0, .int .u8 0, .int .u8 0, .int .u8 0, .int .u8 0, .int .u8 0, .int .u8 0, .int .u8 0, .int .u8 0, .int .u8 0, .int .u8 0, .int .u8 0, .int .u8 0, .int .u8 0, .int .u8 0, .int .u8 0, .int .u8 0, .int .u8 0, .int .u8 0, .int .u8 0, .int .u8 0, .int .u8 0, .int .u8 0, .int .u8 0, .int .u8 0, .int .u8 0, .int .u8 0, .int .u8 0, .int .u8 0, .int .u8 0, .int .u8 0, .int .u8 0, .int .u8 0, .int .u8 0, .int .u8 0, .int .u8 0, .int .u8 0, .int .u8 0, .int .u8 0, .int .u8 0, .int .u8 0, .int .u8 0, .int .u8 0, .int .u8 0, .int .u8 0, .int .u8 0, .int .u8 0, .int .u8 0, .int .u8 0]⟩,
 y3 #[143] #[3],
 y3 #[175] #[3],
 ⟨.array 32 5, 32, 32, [.int .u8 0, .int .u8 0, .int .u8 0, .int .u8 0, .int .u8 0, .int .u8 0, .int .u8 0, .int .u8 0, .int .u8 0, .int .u8 0, .int .u8 0, .int .u8 0, .int .u8 0, .int .u8 0, .int .u8 0, .int .u8 0, .int .u8 0, .int .u8 0, .int .u8 0, .int .u8 0, .int .u8 0, .int .u8 0, .int .u8 0, .int .u8 0, .int .u8 0, .int .u8 0, .int .u8 0, .int .u8 0, .int .u8 0, .int .u8 0, .int .u8 0, .int .u8 0], .agg #[.int .u8 0, .int .u8 0, .int .u8 0, .int .u8 0, .int .u8 0, .int .u8 0, .int .u8 0, .int .u8 0, .int .u8 0, .int .u8 0, .int .u8 0, .int .u8 0, .int .u8 0, .int .u8 0, .int .u8 0, .int .u8 0, .int .u8 0, .int .u8 0, .int .u8 0, .int .u8 0, .int .u8 0, .int .u8 0, .int .u8 0, .int .u8 0, .int .u8 0, .int .u8 0, .int .u8 0, .int .u8 0, .int .u8 0, .int .u8 0, .int .u8 0, .int .u8 0]⟩,
 ⟨.array 64 5, 64, 64, [.int .u8 0, .int .u8 0, .int .u8 0, .int .u8 0, .int .u8 0, .int .u8 0, .int .u8 0, .int .u8 0, .int .u8 0, .int .u8 0, .int .u8 0, .int .u8 0, .int .u8 0, .int .u8 0, .int .u8 0, .int .u8 0, .int .u8 0, .int .u8 0, .int .u8 0, .int .u8 0, .int .u8 0, .int .u8 0, .int .u8 0, .int .u8 0, .int .u8 0, .int .u8 0, .int .u8 0, .int .u8 0, .int .u8 0, .int .u8 0, .int .u8 0, .int .u8 0, .int .u8 0, .int .u8 0, .int .u8 0, .int .u8 0, .int .u8 0, .int .u8 0, .int .u8 0, .int .u8 0, .int .u8 0, .int .u8 0, .int .u8 0, .int .u8 0, .int .u8 0, .int .u8 0, .int .u8 0, .int .u8 0, .int .u8 0, .int .u8 0, .int .u8 0, .int .u8 0, .int .u8 0, .int .u8 0, .int .u8 0, .int .u8 0, .int .u8 0, .int .u8 0, .int .u8 0, .int .u8 0, .int .u8 0, .int .u8 0, .int .u8 0, .int .u8 0], .agg #[.int .u8 0, .int .u8 0, .int .u8 0, .int .u8 0, .int .u8 0, .int .u8 0, .int .u8 0, .int .u8 0, .int .u8 0, .int .u8 0, .int .u8 0, .int .u8 0, .int .u8 0, .int .u8 0, .int .u8 0, .int .u8 0, .int .u8 0, .int .u8 0, .int .u8 0, .int .u8 0, .int .u8 0, .int .u8 0, .int .u8 0, .int .u8 0, .int .u8 0, .int .u8 0, .int .u8 0, .int .u8 0, .int .u8 0, .int .u8 0, .int .u8 0, .int .u8 0, .int .u8 0, .int .u8 0, .int .u8 0, .int .u8 0, .int .u8 0, .int .u8 0, .int .u8 0, .int .u8 0, .int .u8 0, .int .u8 0, .int .u8 0, .int .u8 0, .int .u8 0, .int .u8 0, .int .u8 0, .int .u8 0, .int .u8 0, .int .u8 0, .int .u8 0, .int .u8 0, .int .u8 0, .int .u8 0, .int .u8 0, .int .u8 0, .int .u8 0, .int .u8 0, .int .u8 0, .int .u8 0, .int .u8 0, .int .u8 0, .int .u8 0, .int .u8 0]⟩,
 y0,
 y0,
 ⟨.array 0 16, 0, 0, [], .agg #[]⟩,
 y0,
 y0,
 ⟨.int .u8, 1, 1, [.int .u8 0], .int .u8 0⟩,
 ⟨.int .u8, 1, 1, [.int .u8 0], .int .u8 0⟩,
 y3 #[213, 213] #[4],
 ⟨.int .i32, 1, 4, [.int .i32 0], .int .i32 0⟩,
 ⟨.int .i32, 1, 4, [.int .i32 0], .int .i32 0⟩,
 y0,
 y0,
 y0]
set_option maxRecDepth 100000 in
theorem tab_ok : TabOk Tryz.prog 0 tab := by
 repeat' first | exact trivial | refine ⟨.inl rfl, ?_⟩ | refine ⟨.inr ⟨by kernel_rfl, by kernel_rfl, by kernel_rfl, trivial⟩, ?_⟩ | refine ⟨.inr ⟨by kernel_rfl, by kernel_rfl, by kernel_rfl, by kernel_rfl, by kernel_rfl, by kernel_rfl⟩, ?_⟩
set_option maxRecDepth 100000
noncomputable abbrev P : Program := Tryz.prog
theorem mix : P.follows .mixedOrders = true := by rfl
abbrev int (i : Int) : D := .f (.v (.int .i64 i))
abbrev bool (b : Bool) : D := .f (.v (.bool b))
theorem Case.decT {p : Prop} [Decidable p] {A B : Prop} (h : p) (a : A) : Case (decide p) A B := Case.isTrue (decide_eq_true h) a
theorem Case.decF {p : Prop} [Decidable p] {A B : Prop} (h : ¬ p) (b : B) : Case (decide p) A B := Case.isFalse (decide_eq_false h) b
theorem Case.dec {p : Prop} [Decidable p] {A B : Prop} (a : p → A) (b : ¬ p → B) : Case (decide p) A B := Case.mk (fun h => a (of_decide_eq_true h)) (fun h => b (of_decide_eq_false h))
theorem Case.not {b : Bool} {A B : Prop} (h : Case b B A) : Case (!b) A B := Case.mk (fun e => (Case.open h).elim (fun h => by simp_all) (fun h => h.2)) (fun e => (Case.open h).elim (fun h => h.2) (fun h => by simp_all))
theorem Case.beqT {x y : Int} {A B : Prop} (h : x = y) (a : A) : Case (x == y) A B := Case.isTrue (by simpa using h) a
theorem Case.beqF {x y : Int} {A B : Prop} (h : ¬ x = y) (b : B) : Case (x == y) A B := Case.isFalse (by simpa using h) b
theorem Case.beqI {x y : Int} {A B : Prop} (a : x = y → A) (b : ¬ x = y → B) : Case (x == y) A B := Case.mk (fun h => a (by simpa using h)) (fun h => b (by simpa using h))
theorem wrap_id {x : Int} (h1 : -9223372036854775808 ≤ x) (h2 : x < 9223372036854775808) : IntKind.i64.wrap x = x := by
 have e1 : (2 ^ IntKind.i64.bits : Int) = 18446744073709551616 := by decide
 have e2 : (2 ^ (IntKind.i64.bits - 1) : Int) = 9223372036854775808 := by decide
 unfold IntKind.wrap
 rw [e1, e2]
 simp only [show IntKind.i64.signed = true from rfl, Bool.true_and, decide_eq_true_eq]
 split <;> omega
theorem Num.id {x : Int} {K : Int → Prop} (h1 : -9223372036854775808 ≤ x) (h2 : x < 9223372036854775808) (h : K x) : Num .i64 x K := Num.wrap (by rw [wrap_id h1 h2]; exact h)
mutual
theorem into_scal (n0 n h : Nat) : ∀ d : D, scalD d → intoD n0 n h d d
 | .f (.v x), _ => by unfold intoD; rfl
 | .nil, _ => by unfold intoD; rfl
 | .junk, _ => by unfold intoD; trivial
 | .agg cs, hs => by unfold scalD at hs; unfold intoD; exact intos_scal n0 n h cs hs
 | .tup cs, hs => by unfold scalD at hs; unfold intoD; exact intos_scal n0 n h cs hs
 | .f (.sl _), hs => hs.elim
 | .own _ _ _ _, hs => hs.elim
 | .optr _ _ _ _ _ _, hs => hs.elim
 | .ptr _ _, hs => hs.elim
 | .ip _, hs => hs.elim
 | .fn _ _, hs => hs.elim
 | .yl _ _ _ _ _, hs => hs.elim
theorem intos_scal (n0 n h : Nat) : ∀ ds : List D, scalL ds → intoL n0 n h ds ds
 | [], _ => by unfold intoL; rfl
 | d :: ds, hs => by unfold scalL at hs; unfold intoL; exact ⟨into_scal n0 n h d hs.1, intos_scal n0 n h ds hs.2⟩
end
theorem Fin.scal {d : D} {H : Hp} {n n0 : Nat} {R : D → Hp → Prop} (hs : scalD d) (hR : R d []) : Fin d H n 0 n0 R :=
 Fin.mk d [] hR rfl ⟨by unfold intoL; exact ⟨into_scal _ _ _ d hs, by unfold intoL; rfl⟩, by unfold intoH; cases H <;> trivial⟩
def Pure (g : FuncId) (args : List D) (d : D) : Prop := scalD d ∧ Spec P g args [] 0 (fun d' H => H = [] ∧ d' = d)
theorem Pure.mk {g : FuncId} {args : List D} {d : D} (hs : scalD d) (h : Spec P g args [] 0 (fun d' H => H = [] ∧ d' = d)) : Pure g args d := ⟨hs, h⟩
theorem Pure.call {g : FuncId} {args as' E : List D} {H : Hp} {n : Nat} {K : KD} {d : D} (h : Pure g as' d) (hv : viewL H args as') (k : K d E H n) : Call P g args E H n K :=
 call_view h.2 hv fun d' ⟨_, e⟩ => by subst e; exact ⟨h.1, k⟩
theorem Pure.callB {g : FuncId} {args as' E : List D} {H : Hp} {n : Nat} {K : KD} {d : D} (h : Pure g as' d) (hv : viewL H args as') (k : K d E H n) : CallB P g args E H n K :=
 callB_view h.2 hv fun d' ⟨_, e⟩ => by subst e; exact ⟨h.1, k⟩
theorem Fin.isB {x y : Bool} {H : Hp} {n n0 : Nat} (e : x = y) : Fin (bool x) H n 0 n0 (fun d H => H = [] ∧ d = bool y) := Fin.scal trivial ⟨rfl, by rw [e]⟩
theorem Fin.isI {x y : Int} {H : Hp} {n n0 : Nat} (e : x = y) : Fin (int x) H n 0 n0 (fun d H => H = [] ∧ d = int y) := Fin.scal trivial ⟨rfl, by rw [e]⟩
def kindOf (q : Nat) (o : Oper) : Nat := match o.op with
 | .load .. => 1
 | .buildSlice .. => 2
 | .call c => (match c.callee with
  | .builtin .len => 0
  | .value _ => q
  | _ => 3)
 | .move .. | .assign .. | .pick .. | .nilCheck .. | .binOp .. | .unOp .. | .fieldAddr .. | .field .. | .indexAddr .. | .index .. | .extract .. => 0
 | _ => 3
def kindsL (q : Nat) : List Oper → Nat → List (Nat × Nat)
 | [], _ => []
 | o :: l, i => (i, kindOf q o) :: kindsL q l (i + 1)
theorem step_kinds (q : Nat) {id : Nat} {ops : Array Oper} {Q : X → List D → Hp → Nat → Prop} {E : List D} {H : Hp} {n : Nat} (hs : okSched ops (kindsL q ops.toList 0) = true) (h : drawD P tab ops.toList (kindsL q ops.toList 0) E H n (Q .normal)) : Step P (.region id ops true) Q E H n :=
 step_draw tab_ok mix _ hs h
def right (c : Int) : Bool := decide (0 ≤ c) && decide (c ≤ 1114111) && (decide (c < 55296) || decide (57343 < c))
theorem right_spec (c : Int) : Pure 77 [int c] (bool (right c)) := by
 refine .mk trivial (spec_mk tab_ok Tryz.func77 (by rfl) rfl ?_)
 conv => whnf
 repeat' first | ((first | refine Case.no ?_ | refine Case.decT (by assumption) ?_ | refine Case.decF (by assumption) ?_); conv => whnf) | (refine Case.dec (fun _ => ?_) (fun _ => ?_) <;> conv => whnf)
 all_goals (refine Fin.isB ?_; rw [Bool.eq_iff_iff]; simp only [right, Bool.and_eq_true, Bool.or_eq_true, Bool.not_eq_true', decide_eq_true_eq, decide_eq_false_iff_not, beq_iff_eq, beq_eq_false_iff_ne, bne_iff_ne, ne_eq, Bool.false_eq_true, reduceCtorEq, iff_true, true_iff, iff_false, false_iff, not_true_eq_false, not_false_eq_true] at *; try omega)
def digit (c : Int) : Bool := decide (48 ≤ c) && decide (c ≤ 57)
theorem digit_spec (c : Int) : Pure 78 [int c] (bool (digit c)) := by
 refine .mk trivial (spec_mk tab_ok Tryz.func78 (by rfl) rfl ?_)
 conv => whnf
 repeat' first | ((first | refine Case.decT (by assumption) ?_ | refine Case.decF (by assumption) ?_); conv => whnf) | (refine Case.dec (fun _ => ?_) (fun _ => ?_) <;> conv => whnf)
 all_goals (refine Fin.isB ?_; rw [Bool.eq_iff_iff]; simp only [digit, Bool.and_eq_true, Bool.or_eq_true, Bool.not_eq_true', decide_eq_true_eq, decide_eq_false_iff_not, beq_iff_eq, beq_eq_false_iff_ne, bne_iff_ne, ne_eq, Bool.false_eq_true, reduceCtorEq, iff_true, true_iff, iff_false, false_iff, not_true_eq_false, not_false_eq_true] at *; try omega)
def white (c : Int) : Bool := decide (c = 9) || decide (c = 10) || decide (c = 32)
theorem white_spec (c : Int) : Pure 43 [int c] (bool (white c)) := by
 refine .mk trivial (spec_mk tab_ok Tryz.func43 (by rfl) rfl ?_)
 conv => whnf
 repeat' first | ((first | refine Case.yes ?_ | refine Case.decT (by assumption) ?_ | refine Case.decF (by assumption) ?_); conv => whnf) | (refine Case.dec (fun _ => ?_) (fun _ => ?_) <;> conv => whnf)
 all_goals (refine Fin.isB ?_; rw [Bool.eq_iff_iff]; simp only [white, Bool.and_eq_true, Bool.or_eq_true, Bool.not_eq_true', decide_eq_true_eq, decide_eq_false_iff_not, beq_iff_eq, beq_eq_false_iff_ne, bne_iff_ne, ne_eq, Bool.false_eq_true, reduceCtorEq, iff_true, true_iff, iff_false, false_iff, not_true_eq_false, not_false_eq_true] at *; try omega)
def nameStart (c : Int) : Bool := decide (97 ≤ c) && decide (c ≤ 122) || decide (65 ≤ c) && decide (c ≤ 90) || decide (c = 95) || decide (128 ≤ c)
theorem nameStart_spec (c : Int) : Pure 79 [int c] (bool (nameStart c)) := by
 refine .mk trivial (spec_mk tab_ok Tryz.func79 (by rfl) rfl ?_)
 conv => whnf
 repeat' first | ((first | refine Case.yes ?_ | refine Case.no ?_ | refine Case.decT (by assumption) ?_ | refine Case.decF (by assumption) ?_ | refine Case.decT (by omega) ?_ | refine Case.decF (by omega) ?_); conv => whnf) | (refine Case.dec (fun _ => ?_) (fun _ => ?_) <;> conv => whnf)
 all_goals (refine Fin.isB ?_; rw [Bool.eq_iff_iff]; simp only [nameStart, Bool.and_eq_true, Bool.or_eq_true, Bool.not_eq_true', decide_eq_true_eq, decide_eq_false_iff_not, beq_iff_eq, beq_eq_false_iff_ne, bne_iff_ne, ne_eq, Bool.false_eq_true, reduceCtorEq, iff_true, true_iff, iff_false, false_iff, not_true_eq_false, not_false_eq_true] at *; try omega)
def namePoint (c : Int) : Bool := nameStart c || digit c || decide (c = 45)
theorem namePoint_spec (c : Int) : Pure 45 [int c] (bool (namePoint c)) := by
 refine .mk trivial (spec_mk tab_ok Tryz.func45 (by rfl) rfl ?_)
 conv => whnf
 repeat' first | ((first | refine Case.yes ?_ | refine Case.isTrue (by assumption) ?_ | refine Case.isFalse (by assumption) ?_ | refine (nameStart_spec c).call ⟨rfl, rfl⟩ ?_ | refine (digit_spec c).call ⟨rfl, rfl⟩ ?_); conv => whnf) | (refine Case.mk (fun _ => ?_) (fun _ => ?_) <;> conv => whnf)
 all_goals refine Fin.isB ?_
 all_goals first | (simp_all [namePoint]; done) | (simp_all [namePoint]; rfl)
def hex (c : Int) : Int := if 48 ≤ c ∧ c ≤ 57 then c - 48 else if 97 ≤ c ∧ c ≤ 102 then c - 97 + 10 else if 65 ≤ c ∧ c ≤ 70 then c - 65 + 10 else -1
theorem hex_spec (c : Int) : Pure 113 [int c] (int (hex c)) := by
 refine .mk trivial (spec_mk tab_ok Tryz.func113 (by rfl) rfl ?_)
 conv => whnf
 repeat' first | ((first | refine Case.no ?_ | refine Case.decT (by assumption) ?_ | refine Case.decF (by assumption) ?_ | refine Case.decT (by omega) ?_ | refine Case.decF (by omega) ?_ | refine Num.id (by omega) (by omega) ?_); conv => whnf) | (refine Case.dec (fun _ => ?_) (fun _ => ?_) <;> conv => whnf)
 all_goals (refine Fin.isI ?_; unfold hex; first | omega | (repeat' split) <;> first | omega | rfl)
def sign (c : Int) : Int := if c = 58 then 11 else if c = 59 then 12 else if c = 44 then 13 else if c = 123 then 14 else if c = 125 then 15 else if c = 40 then 16 else if c = 41 then 17 else if c = 91 then 18 else if c = 93 then 19 else 0
theorem sign_spec (c : Int) : Pure 49 [int c] (int (sign c)) := by
 refine .mk trivial (spec_mk tab_ok Tryz.func49 (by rfl) rfl ?_)
 conv => whnf
 repeat' (refine Case.dec (fun _ => ?_) (fun _ => ?_) <;> conv => whnf)
 all_goals (refine Fin.isI ?_; unfold sign; first | omega | (repeat' split) <;> first | omega | rfl)
def cap (n : Int) : Int := if 2147483647 < n then 2147483647 else if n < -2147483647 then -2147483647 else n
theorem cap_spec (c : Int) : Pure 114 [int c] (int (cap c)) := by
 refine .mk trivial (spec_mk tab_ok Tryz.func114 (by rfl) rfl ?_)
 conv => whnf
 repeat' (refine Case.dec (fun _ => ?_) (fun _ => ?_) <;> conv => whnf)
 all_goals (refine Fin.isI ?_; unfold cap; first | omega | (repeat' split) <;> first | omega | rfl)
def ptsF (l : List Int) : List (List F) := l.map fun i => [.v (.int .i64 i)]
theorem ptsF_length (l : List Int) : (ptsF l).length = l.length := by simp [ptsF]
theorem ptsF_get {l : List Int} {i : Nat} {c : Int} (h : l[i]? = some c) : (ptsF l)[i]? = some [.v (.int .i64 c)] := by simp [ptsF, h]
def see (l : List Int) (i : Nat) : Int := match l[i]? with
 | none => -1
 | some c => if right c then c else 65533
abbrev rip (l : List Int) (a : Nat) : D := .ip [.sl (ptsF l), .v (.int .i64 a)]
theorem see_spec (l : List Int) (hl : l.length < 1000000000) (a k : Nat) (ha : a < 2000000000) (hk : k < 1000) : Pure 40 [rip l a, int k] (int (see l (a + k))) := by
 have hp := ptsF_length l
 refine .mk trivial (spec_mk tab_ok Tryz.func40 (by rfl) rfl ?_)
 conv => whnf
 refine step_kinds 2 (by decide +kernel) ?_
 conv => whnf
 repeat' first | (refine Num.id (by omega) (by omega) ?_; conv => whnf) | (refine Case.dec (fun _ => ?_) (fun _ => ?_) <;> conv => whnf)
 ·exact Fin.isI (by unfold see; rw [List.getElem?_eq_none (by omega)])
 ·obtain ⟨c, hc⟩ : ∃ c, l[a + k]? = some c := ⟨_, List.getElem?_eq_getElem (by omega)⟩
  refine step_kinds 2 (by decide +kernel) ?_
  conv => whnf
  repeat' first | ((first | refine Case.not ?_ | refine Owes.mk (by simp [ptsF]) ?_ | refine Elem.mk (a + k) _ (by omega) (ptsF_get hc) ?_ | refine (right_spec c).call ⟨rfl, rfl⟩ ?_ | refine Num.id (by omega) (by omega) ?_); conv => whnf) | (refine Case.mk (fun _ => ?_) (fun _ => ?_) <;> conv => whnf)
  all_goals (refine Fin.isI ?_; simp_all [see])
theorem see_at (l : List Int) (hl : l.length < 1000000000) (a : Nat) (ha : a < 2000000000) (k : Int) (i : Nat) (hi : (a : Int) + k = i) (h0 : 0 ≤ k) (hk : k < 1000) : Pure 40 [rip l a, int k] (int (see l i)) := by
 obtain ⟨m, rfl⟩ : ∃ m : Nat, k = m := ⟨k.toNat, by omega⟩
 have : i = a + m := by omega
 subst this
 exact see_spec l hl a m ha (by omega)
abbrev rdr (l : List Int) (a : Nat) : Cells := [.f (.sl (ptsF l)), int a]
def escape (l : List Int) (i : Nat) : Bool := decide (see l i = 92) && decide (0 ≤ see l (i + 1)) && !decide (see l (i + 1) = 10)
theorem escape_spec (l : List Int) (hl : l.length < 1000000000) (a k : Nat) (ha : a < 2000000000) (hk : k < 900) : Pure 46 [rip l a, int k] (bool (escape l (a + k))) := by
 refine .mk trivial (spec_mk tab_ok Tryz.func46 (by rfl) rfl ?_)
 conv => whnf
 repeat' first | ((first | refine Case.no ?_ | refine Case.decT (by assumption) ?_ | refine Case.decF (by assumption) ?_ | refine (see_at l hl a ha _ (a + k) (by omega) (by omega) (by omega)).call ⟨rfl, rfl, rfl⟩ ?_ | refine (see_at l hl a ha _ (a + k + 1) (by omega) (by omega) (by omega)).call ⟨rfl, rfl, rfl⟩ ?_ | refine Num.id (by omega) (by omega) ?_); conv => whnf) | (refine Case.dec (fun _ => ?_) (fun _ => ?_) <;> conv => whnf)
 all_goals (refine Fin.isB ?_; rw [Bool.eq_iff_iff]; simp only [escape, Bool.and_eq_true, Bool.or_eq_true, Bool.not_eq_true', decide_eq_true_eq, decide_eq_false_iff_not, beq_iff_eq, beq_eq_false_iff_ne, bne_iff_ne, ne_eq, Bool.false_eq_true, reduceCtorEq, iff_true, true_iff, iff_false, false_iff, not_true_eq_false, not_false_eq_true] at *; try omega)
theorem escape_at (l : List Int) (hl : l.length < 1000000000) (a : Nat) (ha : a < 2000000000) (k : Int) (i : Nat) (hi : (a : Int) + k = i) (h0 : 0 ≤ k) (hk : k < 900) : Pure 46 [rip l a, int k] (bool (escape l i)) := by
 obtain ⟨m, rfl⟩ : ∃ m : Nat, k = m := ⟨k.toNat, by omega⟩
 have : i = a + m := by omega
 subst this
 exact escape_spec l hl a m ha (by omega)
def begins (l : List Int) (i : Nat) : Bool := if see l i = 45 then nameStart (see l (i + 1)) || decide (see l (i + 1) = 45) || escape l (i + 1) else nameStart (see l i) || escape l i
theorem begins_at (l : List Int) (hl : l.length < 1000000000) (a : Nat) (ha : a < 2000000000) (k : Int) (i : Nat) (hi : (a : Int) + k = i) (h0 : 0 ≤ k) (hk : k < 800) : Pure 42 [rip l a, int k] (bool (begins l i)) := by
 refine .mk trivial (spec_mk tab_ok Tryz.func42 (by rfl) rfl ?_)
 conv => whnf
 repeat' first
  | (refine Case.yes ?_; conv => whnf)
  | (refine Case.isTrue (by assumption) ?_; conv => whnf)
  | (refine Case.isFalse (by assumption) ?_; conv => whnf)
  | (refine Case.decT (by assumption) ?_; conv => whnf)
  | (refine Case.decF (by assumption) ?_; conv => whnf)
  | (refine (see_at l hl a ha _ i (by omega) (by omega) (by omega)).call ⟨rfl, rfl, rfl⟩ ?_; conv => whnf)
  | (refine (see_at l hl a ha _ (i + 1) (by omega) (by omega) (by omega)).call ⟨rfl, rfl, rfl⟩ ?_; conv => whnf)
  | (refine (escape_at l hl a ha _ i (by omega) (by omega) (by omega)).call ⟨rfl, rfl, rfl⟩ ?_; conv => whnf)
  | (refine (escape_at l hl a ha _ (i + 1) (by omega) (by omega) (by omega)).call ⟨rfl, rfl, rfl⟩ ?_; conv => whnf)
  | (refine (nameStart_spec _).call ⟨rfl, rfl⟩ ?_; conv => whnf)
  | (refine Num.id (by omega) (by omega) ?_; conv => whnf)
  | (refine Case.dec (fun _ => ?_) (fun _ => ?_) <;> conv => whnf)
  | (refine Case.mk (fun _ => ?_) (fun _ => ?_) <;> conv => whnf)
 all_goals (refine Fin.isB ?_; simp_all [begins])
def number (l : List Int) (i : Nat) : Bool := if see l i = 43 ∨ see l i = 45 then digit (see l (i + 1)) || (decide (see l (i + 1) = 46) && digit (see l (i + 2))) else digit (see l i) || (decide (see l i = 46) && digit (see l (i + 1)))
theorem number_spec (l : List Int) (hl : l.length < 1000000000) (a : Nat) (ha : a < 2000000000) : Pure 41 [rip l a] (bool (number l a)) := by
 refine .mk trivial (spec_mk tab_ok Tryz.func41 (by rfl) rfl ?_)
 conv => whnf
 repeat' first | ((first | refine Case.yes ?_ | refine Case.isTrue (by assumption) ?_ | refine Case.isFalse (by assumption) ?_ | refine Case.decT (by assumption) ?_ | refine Case.decF (by assumption) ?_ | refine (see_at l hl a ha _ a (by omega) (by omega) (by omega)).call ⟨rfl, rfl, rfl⟩ ?_ | refine (see_at l hl a ha _ (a + 1) (by omega) (by omega) (by omega)).call ⟨rfl, rfl, rfl⟩ ?_ | refine (see_at l hl a ha _ (a + 2) (by omega) (by omega) (by omega)).call ⟨rfl, rfl, rfl⟩ ?_ | refine (digit_spec _).call ⟨rfl, rfl⟩ ?_ | refine Num.id (by omega) (by omega) ?_); conv => whnf) | (refine Case.dec (fun _ => ?_) (fun _ => ?_) <;> conv => whnf) | (refine Case.mk (fun _ => ?_) (fun _ => ?_) <;> conv => whnf)
 all_goals (refine Fin.isB ?_; simp_all [number])
def b8 (x : Int) : UInt8 := UInt8.ofNat x.toNat
theorem b8_row {x : Int} (h0 : 0 ≤ x) (h1 : x < 256) : byteRow (b8 x) = [.v (.int .u8 x)] := by
 unfold byteRow b8
 have : ((UInt8.ofNat x.toNat).toNat : Int) = x := by
  rw [UInt8.toNat_ofNat']
  omega
 rw [this]
theorem wrap8 {x : Int} (h1 : 0 ≤ x) (h2 : x < 256) : IntKind.u8.wrap x = x := by
 have e1 : (2 ^ IntKind.u8.bits : Int) = 256 := by decide
 unfold IntKind.wrap
 rw [e1]
 simp only [show IntKind.u8.signed = false from rfl, Bool.false_and, Bool.false_eq_true, if_false]
 omega
theorem shr_eq {c : Int} (n : Nat) (hn : n ≤ 64) : shrI .i64 c n = c / 2 ^ n := by
 unfold shrI
 rw [show min (n : Int).toNat IntKind.i64.bits = n by show min (n : Int).toNat 64 = n; omega]
 rw [Int.fdiv_eq_ediv_of_nonneg _ (by have : (0 : Int) < 2 ^ n := Int.pow_pos (by decide); omega)]
theorem and63 {c : Int} (h0 : 0 ≤ c) (h1 : c < 9223372036854775808) : andI .i64 c 63 = c % 64 := by
 unfold andI
 obtain ⟨m, rfl⟩ : ∃ m : Nat, c = m := ⟨c.toNat, by omega⟩
 have e : (BitVec.ofInt IntKind.i64.bits (m : Int) &&& BitVec.ofInt IntKind.i64.bits 63).toNat = m % 64 := by
  rw [BitVec.toNat_and, BitVec.toNat_ofInt, BitVec.toNat_ofInt]
  have e1 : ((m : Int) % ((2 ^ IntKind.i64.bits : Nat) : Int)).toNat = m := by
   have : ((2 ^ IntKind.i64.bits : Nat) : Int) = 18446744073709551616 := by decide
   rw [this]; omega
  have e2 : ((63 : Int) % ((2 ^ IntKind.i64.bits : Nat) : Int)).toNat = 2 ^ 6 - 1 := by decide
  rw [e1, e2, Nat.and_two_pow_sub_one_eq_mod]
 rw [e]
 omega
theorem or_fin (k : Int) (n : Nat) (h : ∀ x : _root_.Fin n, orI .i64 k (x.val : Int) = k + x.val) {y : Int} (h0 : 0 ≤ y) (h1 : y < n) : orI .i64 k y = k + y := by
 obtain ⟨m, rfl⟩ : ∃ m : Nat, y = m := ⟨y.toNat, by omega⟩
 exact h ⟨m, by omega⟩
theorem or192 {y : Int} (h0 : 0 ≤ y) (h1 : y < 32) : orI .i64 192 y = 192 + y := or_fin 192 32 (by decide +kernel) h0 h1
theorem or224 {y : Int} (h0 : 0 ≤ y) (h1 : y < 16) : orI .i64 224 y = 224 + y := or_fin 224 16 (by decide +kernel) h0 h1
theorem or240 {y : Int} (h0 : 0 ≤ y) (h1 : y < 8) : orI .i64 240 y = 240 + y := or_fin 240 8 (by decide +kernel) h0 h1
theorem or128 {y : Int} (h0 : 0 ≤ y) (h1 : y < 64) : orI .i64 128 y = 128 + y := or_fin 128 64 (by decide +kernel) h0 h1
def utfB (c : Int) : List UInt8 :=
 if c < 128 then [b8 c] else if c < 2048 then [b8 (192 + c / 64), b8 (128 + c % 64)]
 else if c < 65536 then [b8 (224 + c / 4096), b8 (128 + c / 64 % 64), b8 (128 + c % 64)]
 else [b8 (240 + c / 262144), b8 (128 + c / 4096 % 64), b8 (128 + c / 64 % 64), b8 (128 + c % 64)]
def putB (c : Int) : List UInt8 := utfB (if right c then c else 65533)
theorem utf1 {c : Int} (h0 : 0 ≤ c) (h : c < 128) : [[F.v (.int .u8 (IntKind.u8.wrap c))]] = (utfB c).map byteRow := by
 unfold utfB
 rw [if_pos h, wrap8 h0 (by omega), List.map_cons, b8_row h0 (by omega)]
 rfl
theorem utf2 {c : Int} (h0 : ¬ c < 128) (h : c < 2048) : [[F.v (.int .u8 (IntKind.u8.wrap (IntKind.i64.wrap (orI .i64 192 (shrI .i64 c 6)))))], [F.v (.int .u8 (IntKind.u8.wrap (IntKind.i64.wrap (orI .i64 128 (IntKind.i64.wrap (andI .i64 c 63))))))]] = (utfB c).map byteRow := by
 unfold utfB
 have e1 : shrI .i64 c 6 = c / 64 := shr_eq 6 (by omega)
 rw [if_neg h0, if_pos h, e1, and63 (by omega) (by omega), or192 (by omega) (by omega), wrap_id (by omega) (by omega), wrap_id (x := c % 64) (by omega) (by omega), or128 (by omega) (by omega), wrap_id (by omega) (by omega), wrap8 (by omega) (by omega), wrap8 (by omega) (by omega), List.map_cons, List.map_cons, b8_row (by omega) (by omega), b8_row (by omega) (by omega)]
 rfl
theorem utf3 {c : Int} (h0 : ¬ c < 128) (h1 : ¬ c < 2048) (h : c < 65536) : [[F.v (.int .u8 (IntKind.u8.wrap (IntKind.i64.wrap (orI .i64 224 (shrI .i64 c 12)))))], [F.v (.int .u8 (IntKind.u8.wrap (IntKind.i64.wrap (orI .i64 128 (IntKind.i64.wrap (andI .i64 (shrI .i64 c 6) 63))))))], [F.v (.int .u8 (IntKind.u8.wrap (IntKind.i64.wrap (orI .i64 128 (IntKind.i64.wrap (andI .i64 c 63))))))]] = (utfB c).map byteRow := by
 unfold utfB
 have e1 : shrI .i64 c 6 = c / 64 := shr_eq 6 (by omega)
 have e2 : shrI .i64 c 12 = c / 4096 := shr_eq 12 (by omega)
 rw [if_neg h0, if_neg h1, if_pos h, e1, e2, and63 (c := c) (by omega) (by omega), and63 (c := c / 64) (by omega) (by omega), or224 (by omega) (by omega), wrap_id (x := 224 + c / 4096) (by omega) (by omega), wrap_id (x := c % 64) (by omega) (by omega), wrap_id (x := c / 64 % 64) (by omega) (by omega), or128 (y := c % 64) (by omega) (by omega), or128 (y := c / 64 % 64) (by omega) (by omega), wrap_id (x := 128 + c % 64) (by omega) (by omega), wrap_id (x := 128 + c / 64 % 64) (by omega) (by omega), wrap8 (by omega) (by omega), wrap8 (by omega) (by omega), wrap8 (by omega) (by omega), List.map_cons, List.map_cons, List.map_cons, b8_row (by omega) (by omega), b8_row (by omega) (by omega), b8_row (by omega) (by omega)]
 rfl
theorem utf4 {c : Int} (h0 : ¬ c < 128) (h1 : ¬ c < 2048) (h2 : ¬ c < 65536) (h : c ≤ 1114111) : [[F.v (.int .u8 (IntKind.u8.wrap (IntKind.i64.wrap (orI .i64 240 (shrI .i64 c 18)))))], [F.v (.int .u8 (IntKind.u8.wrap (IntKind.i64.wrap (orI .i64 128 (IntKind.i64.wrap (andI .i64 (shrI .i64 c 12) 63))))))], [F.v (.int .u8 (IntKind.u8.wrap (IntKind.i64.wrap (orI .i64 128 (IntKind.i64.wrap (andI .i64 (shrI .i64 c 6) 63))))))], [F.v (.int .u8 (IntKind.u8.wrap (IntKind.i64.wrap (orI .i64 128 (IntKind.i64.wrap (andI .i64 c 63))))))]] = (utfB c).map byteRow := by
 unfold utfB
 have e1 : shrI .i64 c 6 = c / 64 := shr_eq 6 (by omega)
 have e2 : shrI .i64 c 12 = c / 4096 := shr_eq 12 (by omega)
 have e3 : shrI .i64 c 18 = c / 262144 := shr_eq 18 (by omega)
 rw [if_neg h0, if_neg h1, if_neg h2, e1, e2, e3, and63 (c := c) (by omega) (by omega), and63 (c := c / 64) (by omega) (by omega), and63 (c := c / 4096) (by omega) (by omega), or240 (by omega) (by omega), wrap_id (x := 240 + c / 262144) (by omega) (by omega), wrap_id (x := c % 64) (by omega) (by omega), wrap_id (x := c / 64 % 64) (by omega) (by omega), wrap_id (x := c / 4096 % 64) (by omega) (by omega), or128 (y := c % 64) (by omega) (by omega), or128 (y := c / 64 % 64) (by omega) (by omega), or128 (y := c / 4096 % 64) (by omega) (by omega), wrap_id (x := 128 + c % 64) (by omega) (by omega), wrap_id (x := 128 + c / 64 % 64) (by omega) (by omega), wrap_id (x := 128 + c / 4096 % 64) (by omega) (by omega), wrap8 (by omega) (by omega), wrap8 (by omega) (by omega), wrap8 (by omega) (by omega), wrap8 (by omega) (by omega), List.map_cons, List.map_cons, List.map_cons, List.map_cons, b8_row (by omega) (by omega), b8_row (by omega) (by omega), b8_row (by omega) (by omega), b8_row (by omega) (by omega)]
 rfl
theorem Fin.bytes {bs xs : List UInt8} {rows : List (List F)} {H : Hp} {n : Nat} (e : rows = xs.map byteRow) : Fin (.own 0 5 1 (bs.map byteRow ++ rows)) H n 0 1 (fun d H => H = [] ∧ d = .own 0 5 1 ((bs ++ xs).map byteRow)) := by
 subst e
 rw [← List.map_append]
 exact Fin.mk (.own 0 5 1 ((bs ++ xs).map byteRow)) [] ⟨rfl, rfl⟩ rfl ⟨by unfold intoL intoL intoD; exact ⟨⟨rfl, by decide⟩, rfl⟩, by unfold intoH; cases H <;> trivial⟩
theorem right_le {c : Int} (h : right c = true) : 0 ≤ c ∧ c ≤ 1114111 := by
 simp only [right, Bool.and_eq_true, decide_eq_true_eq] at h
 exact h.1
theorem put_spec (bs : List UInt8) (hb : bs.length < 1000000000) (c : Int) : Spec P 81 [.own 0 5 1 (bs.map byteRow), int c] [] 1 (fun d H => H = [] ∧ d = .own 0 5 1 ((bs ++ putB c).map byteRow)) := by
 refine spec_mk tab_ok Tryz.func81 (by rfl) rfl ?_
 conv => whnf
 repeat' first | ((first | refine Case.not ?_ | refine Case.yes ?_ | refine Case.no ?_ | refine (right_spec c).call ⟨rfl, rfl⟩ ?_ | (refine Owes.mk (by first | omega | (simp; omega)) ?_) | refine Num.wrap ?_); conv => whnf) | (refine Case.dec (fun _ => ?_) (fun _ => ?_) <;> conv => whnf) | (refine Case.mk (fun _ => ?_) (fun _ => ?_) <;> conv => whnf)
 all_goals refine Fin.bytes ?_
 all_goals unfold putB
 ·have hr := right_le (by assumption : right c = true)
  rw [if_pos (by assumption)]; exact utf1 hr.1 (by assumption)
 ·rw [if_pos (by assumption)]; exact utf2 (by assumption) (by assumption)
 ·rw [if_pos (by assumption)]; exact utf3 (by assumption) (by assumption) (by assumption)
 ·have hr := right_le (by assumption : right c = true)
  rw [if_pos (by assumption)]; exact utf4 (by assumption) (by assumption) (by assumption) hr.2
 ·rw [if_neg (by simp [(by assumption : right c = false)])]; exact utf3 (by omega) (by omega) (by omega)
end Go.Proofs.YtlhegfkpgchaeaaGreatDoor.Aw
