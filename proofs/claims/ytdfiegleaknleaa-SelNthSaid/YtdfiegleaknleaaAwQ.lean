/- A call that only looks at what is handed over; regions that draw their order. -/
import Derived.Test.YtdfiegleaknleaaAwP
import Derived.OrdersHeld
namespace Go.Proofs.Ytdfiegleaknleaa.Aw
open Go Go.RowKit Go.Lib
set_option linter.unusedVariables false
set_option linter.unusedSimpArgs false

/-! Looks. -/
def viewF (d : D) (x : F) : Prop := match x with
  | .sl es => (match d with
    | .nil => es = []
    | .own _ _ _ es' => es' = es
    | .f y => y = .sl es
    | _ => False)
  | .v u => d = .f (.v u)
def viewCs : List D → List F → Prop
  | _, [] => True
  | [], _ :: _ => False
  | d :: ds, x :: xs => viewF d x ∧ viewCs ds xs
mutual
/-- What a value is to one who only looks. -/
def viewD (H : Hp) : D → D → Prop
  | d, .junk => True
  | d, .f x => viewF d x
  | d, .nil => d = .nil
  | d, .agg ds => (match d with
    | .agg cs => viewL H cs ds
    | _ => False)
  | d, .tup ds => (match d with
    | .tup cs => viewL H cs ds
    | _ => False)
  | d, .fn g ds => (match d with
    | .fn g' cs => g' = g ∧ viewL H cs ds
    | _ => False)
  | d, .yl _ _ _ _ => False
  | d, .ip fs => (match d with
    | .ptr k o => (match H.getD k none with
      | some cs => viewCs (dropL o cs) fs
      | none => False)
    | d => d = .ip fs)
  | _, _ => False
def viewL (H : Hp) : List D → List D → Prop
  | cs, [] => cs = []
  | cs, d :: ds => (match cs with
    | c :: cs => viewD H c d ∧ viewL H cs ds
    | [] => False)
end
mutual
/-- Whole numbers, bools, strings alone. -/
def scalD : D → Prop
  | .f (.v _) => True
  | .nil => True
  | .junk => True
  | .agg cs => scalL cs
  | .tup cs => scalL cs
  | _ => False
def scalL : List D → Prop
  | [] => True
  | d :: ds => scalD d ∧ scalL ds
end
section
variable {P : Program}
mutual
theorem Rep.scal {c c' : Cx} {w w' : World} : ∀ (d : D) (v : Value), scalD d → Rep c w d v → Rep c' w' d v
  | .f (.v x), v, _, h => by unfold Rep RepF at *; exact h
  | .nil, v, _, h => by unfold Rep at *; exact h
  | .junk, v, _, h => by unfold Rep; trivial
  | .agg cs, v, hs, h => by
    unfold scalD at hs; unfold Rep at *
    obtain ⟨vs, e, hl⟩ := h
    exact ⟨vs, e, RepL.scal cs vs hs hl⟩
  | .tup cs, v, hs, h => by
    unfold scalD at hs; unfold Rep at *
    obtain ⟨vs, e, hl⟩ := h
    exact ⟨vs, e, RepL.scal cs vs hs hl⟩
  | .f (.sl _), _, hs, _ => hs.elim
  | .own _ _ _ _, _, hs, _ => hs.elim
  | .optr _ _ _ _ _ _, _, hs, _ => hs.elim
  | .ptr _ _, _, hs, _ => hs.elim
  | .ip _, _, hs, _ => hs.elim
  | .fn _ _, _, hs, _ => hs.elim
  | .yl _ _ _ _, _, hs, _ => hs.elim
theorem RepL.scal {c c' : Cx} {w w' : World} : ∀ (ds : List D) (vs : List Value), scalL ds → RepL c w ds vs → RepL c' w' ds vs
  | [], vs, _, h => by unfold RepL at *; exact h
  | d :: ds, vs, hs, h => by
    unfold scalL at hs; unfold RepL at *
    obtain ⟨v, vs', e, h1, h2⟩ := h
    exact ⟨v, vs', e, Rep.scal d v hs.1 h1, RepL.scal ds vs' hs.2 h2⟩
end
def Cx.look (c : Cx) (H : Hp) : Cx := ⟨c.φ, fun _ => nilS, fun b => c.imm b ∨ mine c H b, 0, 0⟩
theorem viewF_sound {B : Base} {c : Cx} {w : World} {H : Hp} {n : Nat} (hC : Con B c w H n) {d : D} {x : F} {v : Value} (h : viewF d x) (hr : Rep c w d v) : RepF (c.look H).imm w x v := by
  have hk : ImmKeep c.imm (c.look H).imm w w := fun b hb => ⟨.inl hb, rfl⟩
  cases x with
  | v x =>
    unfold viewF at h
    subst h
    unfold Rep at hr
    exact hr.mono hk
  | sl es =>
    unfold viewF at h
    cases d with
    | nil =>
      simp only at h
      subst h
      unfold Rep at hr
      subst hr
      unfold RepF
      exact .inl ⟨⟨_, rfl⟩, rfl⟩
    | own k t s es' =>
      simp only at h
      subst h
      unfold Rep at hr
      obtain ⟨_, rfl, ho⟩ := hr
      exact ho.toF hk (fun b hb => .inr (.inr ⟨_, hb⟩))
    | f y =>
      simp only at h
      subst h
      unfold Rep at hr
      exact hr.mono hk
    | _ => exact h.elim
theorem viewCs_sound {B : Base} {c : Cx} {w : World} {H : Hp} {n : Nat} (hC : Con B c w H n) {b : Nat} : ∀ (ds : List D) (xs : List F) (vs : List Value) (o : Nat), viewCs ds xs → RepL c w ds vs → (∀ j v, vs[j]? = some v → w.cell? ⟨b, o + j, none⟩ = some v) → RepC (c.look H).imm w xs b o
  | _, [], _, _, _, _, _ => by unfold RepC; trivial
  | [], _ :: _, _, _, h, _, _ => h.elim
  | d :: ds, x :: xs, vs, o, h, hr, hc => by
    unfold viewCs at h
    unfold RepL at hr
    obtain ⟨v, vs', rfl, h1, h2⟩ := hr
    unfold RepC
    exact ⟨⟨v, hc 0 v rfl, viewF_sound hC h.1 h1⟩, viewCs_sound hC ds xs vs' (o + 1) h.2 h2 (fun j u hj => by rw [show o + 1 + j = o + (j + 1) by omega]; exact hc (j + 1) u (by simpa using hj))⟩
mutual
theorem viewD_sound {B : Base} {c : Cx} {w : World} {H : Hp} {n : Nat} (hC : Con B c w H n) : ∀ (d' d : D) (v : Value), viewD H d d' → Rep c w d v → Rep (c.look H) w d' v
  | .junk, d, v, h, hr => by unfold Rep; trivial
  | .f x, d, v, h, hr => by unfold viewD at h; unfold Rep; exact viewF_sound hC h hr
  | .nil, d, v, h, hr => by
    unfold viewD at h
    subst h
    unfold Rep at *
    exact hr
  | .agg ds, d, v, h, hr => by
    unfold viewD at h
    split at h
    · unfold Rep at *
      obtain ⟨vs, e, hl⟩ := hr
      exact ⟨vs, e, viewL_sound hC ds _ vs h hl⟩
    · exact h.elim
  | .tup ds, d, v, h, hr => by
    unfold viewD at h
    split at h
    · unfold Rep at *
      obtain ⟨vs, e, hl⟩ := hr
      exact ⟨vs, e, viewL_sound hC ds _ vs h hl⟩
    · exact h.elim
  | .fn g ds, d, v, h, hr => by
    unfold viewD at h
    split at h
    · obtain ⟨rfl, h⟩ := h
      unfold Rep at *
      obtain ⟨vs, e, hl⟩ := hr
      exact ⟨vs, e, viewL_sound hC ds _ vs h hl⟩
    · exact h.elim
  | .yl _ _ _ _, d, v, h, hr => by
    unfold viewD at h
    exact h.elim
  | .ip fs, d, v, h, hr => by
    unfold viewD at h
    split at h
    · rename_i k o
      cases hg : H.getD k none with
      | none => simp only [hg] at h
      | some cs =>
        simp only [hg, dropL_eq] at h
        have hg' := getD_some hg
        unfold Rep at hr
        obtain ⟨_, rfl⟩ := hr
        obtain ⟨C, T, e, hrC⟩ := hC.objs k cs hg'
        unfold Rep
        refine ⟨c.φ k, o, rfl, .inr (.inl ⟨k, cs, hg', rfl⟩), viewCs_sound hC _ fs _ o h (hrC.drop o) (fun j u hj => ?_)⟩
        rw [cell_of_row w _ _ C T (0, 0) e]
        simpa [List.getElem?_drop] using hj
    · subst h
      unfold Rep at *
      obtain ⟨b, o, e, hi, hr⟩ := hr
      exact ⟨b, o, e, .inl hi, hr.mono (fun b hb => ⟨.inl hb, rfl⟩) _ _ _ rfl⟩
  | .own _ _ _ _, _, _, h, _ => by unfold viewD at h; exact h.elim
  | .optr _ _ _ _ _ _, _, _, h, _ => by unfold viewD at h; exact h.elim
  | .ptr _ _, _, _, h, _ => by unfold viewD at h; exact h.elim
theorem viewL_sound {B : Base} {c : Cx} {w : World} {H : Hp} {n : Nat} (hC : Con B c w H n) : ∀ (ds' ds : List D) (vs : List Value), viewL H ds ds' → RepL c w ds vs → RepL (c.look H) w ds' vs
  | [], ds, vs, h, hr => by
    unfold viewL at h
    subst h
    unfold RepL at *
    exact hr
  | d' :: ds', ds, vs, h, hr => by
    unfold viewL at h
    split at h
    · unfold RepL at *
      obtain ⟨v, vs', e, h1, h2⟩ := hr
      exact ⟨v, vs', e, viewD_sound hC d' _ v h.1 h1, viewL_sound hC ds' _ vs' h.2 h2⟩
    · exact h.elim
end
/-- A call that turns nothing that was there. -/
structure CallB (P : Program) (g : FuncId) (args : List D) (E : List D) (H : Hp) (n : Nat) (K : KD) : Prop where of ::
  out : FnOk P g ∧ ∀ (B : Base) (c : Cx) (w : World) (ts vs : List Value), Con B c w H n → RepL c w E ts → RepL c w args vs →
    Calls P g vs.toArray w (fun e w' => Below w.heap.size w w' ∧ ∃ d v E' H' n' c', K d E' H' n' ∧ e = .returned v ∧ Con B c' w' H' n' ∧ RepL c' w' E' ts ∧ Rep c' w' d v)
theorem CallB.call {g : FuncId} {args E : List D} {H : Hp} {n : Nat} {K : KD} (h : CallB P g args E H n K) : Call P g args E H n K :=
  Call.mk ⟨h.out.1, fun B c w ts vs hC hE ha => (h.out.2 B c w ts vs hC hE ha).mono fun e w' h => h.2⟩
theorem CallB.open {g : FuncId} {args E : List D} {H : Hp} {n : Nat} {K : KD} (h : CallB P g args E H n K) : FnOk P g ∧ ∀ (B : Base) (c : Cx) (w : World) (ts vs : List Value), Con B c w H n → RepL c w E ts → RepL c w args vs →
    Calls P g vs.toArray w (fun e w' => Below w.heap.size w w' ∧ ∃ d v E' H' n' c', K d E' H' n' ∧ e = .returned v ∧ Con B c' w' H' n' ∧ RepL c' w' E' ts ∧ Rep c' w' d v) := h.out
theorem callB_view {g : FuncId} {args «as» E : List D} {H : Hp} {n : Nat} {K : KD} {R : D → Hp → Prop} (hs : Spec P g «as» [] 0 R) (hv : viewL H args «as») (k : ∀ d, R d [] → scalD d ∧ K d E H n) : CallB P g args E H n K := by
  refine ⟨⟨hs.1, fun B c w ts vs hC hE ha => ?_⟩⟩
  have hC1 : Con (base (c.look H) w []) (c.look H) w [] 0 :=
    ⟨rfl, rfl, rfl, Nat.le_refl _, fun _ _ _ => rfl, fun _ h => h, fun b hb => by
      refine ⟨?_, .inl hb⟩
      rcases hb with hb | ⟨k, cs, h1, rfl⟩ | ⟨k, h1⟩
      · exact (hC.immB b hb).1
      · exact hC.objLt h1
      · exact (hC.tags k b h1).1, rfl, rfl, Nat.le_refl _, fun _ _ => rfl, fun k cs h => (by simp at h), fun k cs h => (by simp at h), fun j k cs ds h => (by simp at h), fun k b hb => (by cases hb), fun j k b hb => (by cases hb), fun _ _ => rfl, hC.glob.keep (fun b hb => ⟨.inl hb, rfl⟩)⟩
  refine (hs.2 (c.look H) w vs hC1 (viewL_sound hC «as» args vs hv ha)).mono ?_
  rintro e w' ⟨d, v, H', c2, hR, rfl, hl, hC2, hd⟩
  have hH' : H' = [] := List.eq_nil_of_length_eq_zero hl
  subst hH'
  have hno : ∀ b, ¬ mine (c.look H) [] b := fun b hb => by
    rcases hb with ⟨k, cs, h1, _⟩ | ⟨k, h1⟩
    · simp at h1
    · cases h1
  have hbel : Below w.heap.size w w' := ⟨hC2.os, hC2.tape, hC2.output, hC2.size, fun b hb => hC2.old b hb (hno b)⟩
  obtain ⟨h1, h2⟩ := k d hR
  obtain ⟨h3, h4⟩ := hC.grow hbel
  exact ⟨hbel, d, v, E, H, n, c, h2, rfl, h3, hE.mono h4, Rep.scal d v h1 hd⟩
theorem call_view {g : FuncId} {args «as» E : List D} {H : Hp} {n : Nat} {K : KD} {R : D → Hp → Prop} (hs : Spec P g «as» [] 0 R) (hv : viewL H args «as») (k : ∀ d, R d [] → scalD d ∧ K d E H n) : Call P g args E H n K :=
  (callB_view hs hv k).call

/-! Regions that draw their order. -/
def pureD (T : Tab) (o : Oper) (E : List D) (K : D → Prop) : Prop :=
  match o.op with
  | .move x => evK E x K
  | .assign x => evK E x K
  | .pick c a b => match ev E c with
    | .f (.v (.bool t)) => Case t (evK E a K) (evK E b K)
    | _ => False
  | .nilCheck x => match ev E x with
    | .ptr k o => K (.ptr k o)
    | .ip cs => K (.ip cs)
    | .optr k t s es i o => K (.optr k t s es i o)
    | .fn g cap => K (.fn g cap)
    | _ => False
  | .binOp op t x y _ => match ev E x with
    | .agg cs => eqD T op t (.agg cs) (ev E y) K
    | .f (.v (.bool b)) => tiK T t fun ti => (match ti.desc with
      | .bool => boolD op (.f (.v (.bool b))) (ev E y) K
      | _ => False)
    | dx => binD op dx (ev E y) K
  | .unOp op _ x => unD op (ev E x) K
  | .fieldAddr t x f => fieldAddrD T t (ev E x) f K
  | .field t x f => fieldD T t (ev E x) f K
  | .indexAddr t x i => indexAddrD T t (ev E x) (ev E i) K
  | .index t x i => indexD T t (ev E x) (ev E i) K
  | .extract x i => match ev E x with
    | .tup ds => (match ds[i]? with
      | some d => force d K
      | none => False)
    | _ => False
  | .call c => (match c.callee with
    | .builtin .len => (match c.args.toList, c.argTypes.toList with
      | [x], [t] => lenD T t (ev E x) K
      | _, _ => False)
    | _ => False)
  | _ => False
def memD (T : Tab) (o : Oper) (E : List D) (H : Hp) (K : D → Prop) : Prop :=
  match o.op with
  | .load t a => loadD T t (ev E a) H K
  | _ => False
def growD (P : Program) (T : Tab) (o : Oper) (E : List D) (H : Hp) (n : Nat) (K : KD) : Prop :=
  match o.op with
  | .buildSlice t len parts => buildSliceD T t len parts.toList E H n fun d E H n => numK n fun n => K d E H n
  | .call c => (match c.callee with
    | .value f => (match ev E f with
      | .fn g cap => evs E c.args.toList fun l => appK l cap fun l => CallB P g l E H n K
      | _ => False)
    | _ => False)
  | _ => False
/-- One operation: 0: of its operands alone; 1: a load; 2: it turns nothing that was there; 3: any. -/
def drawOp (P : Program) (T : Tab) (q : Nat) (o : Oper) (E : List D) (H : Hp) (n : Nat) (K : KD) : Prop :=
  bif Nat.beq q 0 then pureD T o E fun d => K d E H n
  else bif Nat.beq q 1 then memD T o E H fun d => K d E H n
  else bif Nat.beq q 2 then growD P T o E H n K
  else opD P T o E H n K
def stepR (P : Program) (T : Tab) (all : List Oper) (i q : Nat) (k : List D → Hp → Nat → Prop) (E : List D) (H : Hp) (n : Nat) : Prop :=
  match all[i]? with
    | none => False
    | some o => match o.guard with
      | none => drawOp P T q o E H n (fun d E H n => putK E o.dst d (fun E => k E H n))
      | some (j, want) =>
        match slotOf all j with
        | some s => match E.getD s .junk with
          | .f (.v (.bool t)) =>
            bif want then Case t (drawOp P T q o E H n (fun d E H n => putK E o.dst d (fun E => k E H n))) (putK E o.dst (.tup []) (fun E => k E H n))
            else Case t (putK E o.dst (.tup []) (fun E => k E H n)) (drawOp P T q o E H n (fun d E H n => putK E o.dst d (fun E => k E H n)))
          | .tup [] => putK E o.dst (.tup []) (fun E => k E H n)
          | _ => False
        | none => False
noncomputable def drawD (P : Program) (T : Tab) (all : List Oper) (l : List (Nat × Nat)) (E : List D) (H : Hp) (n : Nat) (K : List D → Hp → Nat → Prop) : Prop :=
  List.rec (motive := fun _ => List D → Hp → Nat → Prop) K (fun p _ k => stepR P T all p.1 p.2 k) l E H n
theorem drawD_cons {P : Program} {T : Tab} {all : List Oper} {i q : Nat} {rest : List (Nat × Nat)} {E : List D} {H : Hp} {n : Nat} {K : List D → Hp → Nat → Prop} : drawD P T all ((i, q) :: rest) E H n K = stepR P T all i q (fun E H n => drawD P T all rest E H n K) E H n := rfl
/-- Does one operation wait for another, at length? -/
def waits (ops : Array Oper) : Nat → Nat → Nat → Bool
  | 0, _, _ => false
  | f + 1, t, i => match ops[t]? with
    | some o => o.after.any fun e => Region.binds .any e && (e.on == i || waits ops f e.on i)
    | none => false
def loudAt (sched : List (Nat × Nat)) (j : Nat) : Bool := sched.any fun p => p.1 == j && p.2 == 3
def okFrom (ops : Array Oper) (all : List (Nat × Nat)) : List (Nat × Nat) → Array Bool → Bool
  | [], listed => (Region.ready .any ops listed).isEmpty
  | (i, q) :: r, listed =>
    (match q with
      | 0 => (Region.ready .any ops listed).contains i && Region.free .any ops listed i
      | 1 => (Region.ready .any ops listed).contains i && Region.free .any ops listed i && (List.range ops.size).all fun j => listed.getD j true || j == i || !loudAt all j || waits ops ops.size j i
      | 2 => Region.ready .any ops listed == [i]
      | _ => Region.ready .any ops listed == [i] && loudAt all i) && okFrom ops all r (listed.setIfInBounds i true)
def okSched (ops : Array Oper) (sched : List (Nat × Nat)) : Bool := Region.noSelect ops && sched.length == ops.size && (sched.all fun p => decide (p.2 ≤ 3)) && okFrom ops sched sched (Array.replicate ops.size false)

theorem pureD_sound {T : Tab} (hT : TabOk P 0 T) {o : Oper} {c : Cx} {w : World} {a : Act} {E : List D} (hE : RepL c w E a.tmps.toList) {K : D → Prop} (h : pureD T o E K) :
    ∃ d v, K d ∧ (∀ w' : World, (execOp a.eval o).run P w' = .ok (.value v) w') ∧ Rep c w d v := by
  unfold pureD at h
  split at h
  · rename_i x ho
    rw [evK_eq] at h
    exact ⟨_, _, h, fun w' => by simp [execOp, ho], rep_ev hE x⟩
  · rename_i x ho
    rw [evK_eq] at h
    exact ⟨_, _, h, fun w' => by simp [execOp, ho], rep_ev hE x⟩
  · rename_i q x y ho
    split at h
    · rename_i t et
      simp only [evK_eq] at h
      have hq := rep_ev hE q
      rw [et] at hq
      have hq := rep_v hq
      replace h := Case.open h
      rcases h with ⟨rfl, h⟩ | ⟨rfl, h⟩
      · exact ⟨_, _, h, fun w' => by simp [execOp, ho, hq, asBool], rep_ev hE x⟩
      · exact ⟨_, _, h, fun w' => by simp [execOp, ho, hq, asBool], rep_ev hE y⟩
    · exact h.elim
  · rename_i x ho
    have hx := rep_ev hE x
    split at h
    · rename_i k q e
      rw [e] at hx
      have hx' := hx
      unfold Rep at hx
      obtain ⟨_, hv⟩ := hx
      exact ⟨_, a.eval x, h, fun w' => by simp [execOp, ho, hv], hx'⟩
    · rename_i cs e
      rw [e] at hx
      have hx' := hx
      unfold Rep at hx
      obtain ⟨b, q, hv, _⟩ := hx
      exact ⟨_, a.eval x, h, fun w' => by simp [execOp, ho, hv], hx'⟩
    · rename_i k t s es i q e
      rw [e] at hx
      have hx' := hx
      unfold Rep at hx
      obtain ⟨_, _, _, b, oo, m, cap, _, hv⟩ := hx
      exact ⟨_, a.eval x, h, fun w' => by simp [execOp, ho, hv], hx'⟩
    · rename_i g cap e
      rw [e] at hx
      have hx' := hx
      unfold Rep at hx
      obtain ⟨vs, hv, _⟩ := hx
      exact ⟨_, a.eval x, h, fun w' => by simp [execOp, ho, hv], hx'⟩
    · exact h.elim
  · rename_i op t x y yt ho
    have hx := rep_ev hE x
    have hy := rep_ev hE y
    have this : (execOp a.eval o) = (do pure (Next.value (← (do eqGuard op t x y (a.eval x) (a.eval y); binOp op t (a.eval x) (a.eval y)))) : Sem Next) := by simp [execOp, ho]
    split at h
    · rename_i cs e
      rw [e] at hx
      obtain ⟨z, hz, h1, h2⟩ := eqD_sound (P := P) (w := w) (ox := x) (oy := y) hT hx hy h
      exact ⟨_, z, h1, fun w' => by rw [this, Sem.run_bind, h2]; rfl, rep_of _ hz⟩
    · rename_i b e
      rw [e] at hx
      replace h := tiK_open hT h; obtain ⟨ti, L, h⟩ := h
      split at h
      · rename_i hde
        obtain ⟨z, hz, h1, h2⟩ := boolD_sound (P := P) (w := w) (t := t) (ox := x) (oy := y) (by rw [L.und, hde]) hx hy h
        exact ⟨_, z, h1, fun w' => by rw [this, Sem.run_bind, h2]; rfl, rep_of _ hz⟩
      · exact h.elim
    · obtain ⟨z, hz, h1, h2⟩ := binD_sound (P := P) (w := w) (t := t) (ox := x) (oy := y) hx hy h
      exact ⟨_, z, h1, fun w' => by rw [this, Sem.run_bind, h2]; rfl, rep_of _ hz⟩
  · rename_i op t x ho
    obtain ⟨z, hz, h1, h2⟩ := unD_sound (P := P) (w := w) (rep_ev hE x) h
    exact ⟨_, z, h1, fun w' => by simp [execOp, ho, h2], rep_of _ hz⟩
  · rename_i t x f ho
    obtain ⟨d, u, h1, h2, h3⟩ := fieldAddrD_sound (w := w) hT (rep_ev hE x) h
    exact ⟨d, u, h1, fun w' => by simp [execOp, ho, h2], h3⟩
  · rename_i t x f ho
    obtain ⟨d, u, h1, h2, h3⟩ := fieldD_sound (w := w) hT (rep_ev hE x) h
    exact ⟨d, u, h1, fun w' => by simp [execOp, ho, h2], h3⟩
  · rename_i t x i ho
    obtain ⟨d, u, h1, h2, h3⟩ := indexAddrD_sound (w := w) hT (rep_ev hE x) (rep_ev hE i) h
    exact ⟨d, u, h1, fun w' => by simp [execOp, ho, h2], h3⟩
  · rename_i t x i ho
    obtain ⟨d, u, h1, h2, h3⟩ := indexD_sound (w := w) hT (rep_ev hE x) (rep_ev hE i) h
    exact ⟨d, u, h1, fun w' => by simp [execOp, ho, h2], h3⟩
  · rename_i x i ho
    split at h
    · rename_i ds e
      cases hi : ds[i]? with
      | none => simp only [hi] at h
      | some d =>
        simp only [hi, force_eq] at h
        have hx := rep_ev hE x
        rw [e] at hx
        unfold Rep at hx
        obtain ⟨vs, hv, hr⟩ := hx
        obtain ⟨v, h1, h2⟩ := hr.get? i d hi
        have : vs.toArray[i]? = some v := by simpa using h1
        exact ⟨d, v, h, fun w' => by simp [execOp, ho, hv, Instr.extract, this], h2⟩
    · exact h.elim
  · rename_i q ho
    obtain ⟨callee, args, argTypes⟩ := q
    split at h
    · rename_i e
      simp only at e
      subst e
      split at h
      · rename_i x t e1 e2
        obtain ⟨z, hz, h1, h2⟩ := lenD_sound (w := w) (ty := o.type) hT (rep_ev hE x) h
        have a1 : args = #[x] := by apply Array.ext'; simpa using e1
        have a2 : argTypes = #[t] := by apply Array.ext'; simpa using e2
        subst a1 a2
        exact ⟨_, z, h1, fun w' => by simp [execOp, ho, resolve, invoke, builtin, h2], rep_of _ hz⟩
      · exact h.elim
    · exact h.elim
  · exact h.elim
theorem memD_sound {T : Tab} (hT : TabOk P 0 T) {o : Oper} {B : Base} {c : Cx} {w : World} {H : Hp} {n : Nat} (hC : Con B c w H n) {a : Act} {E : List D} (hE : RepL c w E a.tmps.toList) {K : D → Prop} (h : memD T o E H K) :
    ∃ d v, K d ∧ (∀ w' : World, Below w.heap.size w w' → (execOp a.eval o).run P w' = .ok (.value v) w') ∧ Rep c w d v := by
  unfold memD at h
  split at h
  · rename_i t x ho
    obtain ⟨d, v, h1, h2, h3⟩ := loadD_sound hT hC (rep_ev hE x) h
    exact ⟨d, v, h1, fun w' hb => by simp [execOp, ho, h2 w' hb], h3⟩
  · exact h.elim
end
end Go.Proofs.Ytdfiegleaknleaa.Aw
