/- What a text makes of a state, reckoned out; and that the machine does just that. -/
import Derived.Test.YtdfiegleaknleaaAwL
namespace Go.Proofs.Ytdfiegleaknleaa.Aw
open Go Go.RowKit Go.Lib
set_option linter.unusedVariables false
set_option linter.unusedSimpArgs false

def evs (E : List D) : List Operand → (List D → Prop) → Prop
  | [], K => K []
  | x :: xs, K => evK E x fun d => evs E xs fun l => K (d :: l)
theorem evs_eq (E : List D) : ∀ (l : List Operand) (K : List D → Prop), evs E l K = K (l.map (ev E))
  | [], _ => rfl
  | x :: l, K => by unfold evs; rw [evK_eq, evs_eq E l]; rfl
def appK (l : List D) (cap : List D) (K : List D → Prop) : Prop := match cap with
  | [] => K l
  | cap => K (l ++ cap)
theorem appK_eq (l cap : List D) (K : List D → Prop) : appK l cap K = K (l ++ cap) := by unfold appK; split <;> simp
/-- An operation of another kind (shut). -/
structure OpStep (P : Program) (o : Oper) (E : List D) (H : Hp) (n : Nat) (K : KD) : Prop where of ::
  out : OpSem P o E H n K
theorem OpStep.open {P : Program} {o : Oper} {E : List D} {H : Hp} {n : Nat} {K : KD} (h : OpStep P o E H n K) : OpSem P o E H n K := h.out
theorem OpStep.mk {P : Program} {o : Oper} {E : List D} {H : Hp} {n : Nat} {K : KD} (h : OpSem P o E H n K) : OpStep P o E H n K := ⟨h⟩
/-- A call (shut). -/
structure Call (P : Program) (g : FuncId) (args : List D) (E : List D) (H : Hp) (n : Nat) (K : KD) : Prop where of ::
  out : CallStep P g args E H n K
theorem Call.open {P : Program} {g : FuncId} {args E : List D} {H : Hp} {n : Nat} {K : KD} (h : Call P g args E H n K) : CallStep P g args E H n K := h.out
theorem Call.mk {P : Program} {g : FuncId} {args E : List D} {H : Hp} {n : Nat} {K : KD} (h : CallStep P g args E H n K) : Call P g args E H n K := ⟨h⟩
/-- A text of another kind (shut). -/
structure Step (P : Program) (k : Code) (Q : X → List D → Hp → Nat → Prop) (E : List D) (H : Hp) (n : Nat) : Prop where of ::
  out : CSem P k Q E H n
theorem Step.open {P : Program} {k : Code} {Q : X → List D → Hp → Nat → Prop} {E : List D} {H : Hp} {n : Nat} (h : Step P k Q E H n) : CSem P k Q E H n := h.out
theorem Step.mk {P : Program} {k : Code} {Q : X → List D → Hp → Nat → Prop} {E : List D} {H : Hp} {n : Nat} (h : CSem P k Q E H n) : Step P k Q E H n := ⟨h⟩

def opD (P : Program) (T : Tab) (o : Oper) (E : List D) (H : Hp) (n : Nat) (K : KD) : Prop :=
  match o.op with
  | .move x => evK E x fun d => K d E H n
  | .assign x => evK E x fun d => K d E H n
  | .pick c a b => match ev E c with
    | .f (.v (.bool t)) => Case t (evK E a fun d => K d E H n) (evK E b fun d => K d E H n)
    | _ => False
  | .alloc t => tiK T t fun ti => numK H.length fun h => pushHK H (some (ofCs ti.zero)) fun H' => K (.ptr h 0) E H' n
  | .box t x => evK E x fun d => cellsK d fun cs => numK H.length fun h => pushHK H (some cs) fun H' => K (.ptr h 0) E H' n
  | .build t parts => buildD T t parts.toList E fun d => K d E H n
  | .buildSlice t len parts => buildSliceD T t len parts.toList E H n fun d E H n => numK n fun n => K d E H n
  | .load t a => loadD T t (ev E a) H fun d => K d E H n
  | .store t a x => evK E x fun d => storeD T t (ev E a) d E H n K
  | .nilCheck x => match ev E x with
    | .ptr k o => K (.ptr k o) E H n
    | .ip cs => K (.ip cs) E H n
    | .optr k t s es i o => K (.optr k t s es i o) E H n
    | .fn g cap => K (.fn g cap) E H n
    | _ => False
  | .binOp op t x y _ => match ev E x with
    | .agg cs => eqD T op t (.agg cs) (ev E y) fun d => K d E H n
    | .f (.v (.bool b)) => tiK T t fun ti => (match ti.desc with
      | .bool => boolD op (.f (.v (.bool b))) (ev E y) fun d => K d E H n
      | _ => False)
    | .f (.v (.pointer _)) => OpStep P o E H n K
    | .f (.sl _) => OpStep P o E H n K
    | .f (.v .nilIface) => OpStep P o E H n K
    | .f (.v (.iface _ _)) => OpStep P o E H n K
    | .nil => OpStep P o E H n K
    | .own _ _ _ _ => OpStep P o E H n K
    | .optr _ _ _ _ _ _ => OpStep P o E H n K
    | .ptr _ _ => OpStep P o E H n K
    | .ip _ => OpStep P o E H n K
    | .fn _ _ => OpStep P o E H n K
    | dx => binD op dx (ev E y) fun d => K d E H n
  | .unOp op _ x => unD op (ev E x) fun d => K d E H n
  | .convert s t x => match ev E x with
    | .ptr _ _ => OpStep P o E H n K
    | .ip _ => OpStep P o E H n K
    | .f (.v (.pointer _)) => OpStep P o E H n K
    | dx => convertD T s t dx E H n K
  | .makeFunc fn first cap => match fn, first.toList with
    | .func g, [] => evs E cap.toList fun l => K (.fn g l) E H n
    | _, _ => False
  | .slice t x lo hi mx => sliceD T t (ev E x) lo hi mx E H n K
  | .fieldAddr t x f => fieldAddrD T t (ev E x) f fun d => K d E H n
  | .field t x f => fieldD T t (ev E x) f fun d => K d E H n
  | .indexAddr t x i => indexAddrD T t (ev E x) (ev E i) fun d => K d E H n
  | .index t x i => indexD T t (ev E x) (ev E i) fun d => K d E H n
  | .extract x i => match ev E x with
    | .tup ds => (match ds[i]? with
      | some d => force d fun d => K d E H n
      | none => False)
    | _ => False
  | .call c => (match c.callee with
    | .builtin .len => (match c.args.toList, c.argTypes.toList with
      | [x], [t] => lenD T t (ev E x) fun d => K d E H n
      | _, _ => False)
    | .builtin .append => (match c.args.toList with
      | [s, x] => appendD T c.argTypes.toList (ev E s) (ev E x) E H n fun d E H n => numK n fun n => K d E H n
      | _ => False)
    | .builtin .min => evs E c.args.toList fun l => minD false l fun d => K d E H n
    | .builtin .max => evs E c.args.toList fun l => minD true l fun d => K d E H n
    | .value f => (match ev E f with
      | .fn g cap => evs E c.args.toList fun l => appK l cap fun l => Call P g l E H n K
      | _ => OpStep P o E H n K)
    | _ => OpStep P o E H n K)
  | _ => OpStep P o E H n K

section
variable {P : Program}
/-- An operation that hands back a value. -/
theorem opSem_value {o : Oper} {E : List D} {H : Hp} {n : Nat} {K : KD}
    (h : ∀ (B : Base) (c : Cx) (w : World) (a : Act), Con B c w H n → RepL c w E a.tmps.toList → a.defers = [] →
      ∃ d v E' H' n' c' w', K d E' H' n' ∧ (execOp a.eval o).run P w = .ok (.value v) w' ∧ Con B c' w' H' n' ∧ RepL c' w' E' a.tmps.toList ∧ Rep c' w' d v) : OpSem P o E H n K :=
  fun B c w a hC hE hd => by
    obtain ⟨d, v, E', H', n', c', w', h1, h2, h3, h4, h5⟩ := h B c w a hC hE hd
    unfold Oper.wp
    rw [h2]
    exact ⟨d, v, E', H', n', c', h1, rfl, h3, h4, h5⟩
/-- .. that turns nothing. -/
theorem opSem_pure {o : Oper} {E : List D} {H : Hp} {n : Nat} {K : KD}
    (h : ∀ (B : Base) (c : Cx) (w : World) (a : Act), Con B c w H n → RepL c w E a.tmps.toList → a.defers = [] →
      ∃ d v, K d E H n ∧ (execOp a.eval o).run P w = .ok (.value v) w ∧ Rep c w d v) : OpSem P o E H n K :=
  opSem_value fun B c w a hC hE hd => by
    obtain ⟨d, v, h1, h2, h3⟩ := h B c w a hC hE hd
    exact ⟨d, v, E, H, n, c, w, h1, h2, hC, hE, h3⟩
theorem repL_evs {c : Cx} {w : World} {E : List D} {a : Act} (hE : RepL c w E a.tmps.toList) : ∀ (l : List Operand), RepL c w (l.map (ev E)) (l.map a.eval)
  | [] => repL_nil
  | x :: l => repL_cons (rep_ev hE x) (repL_evs hE l)
theorem opD_sound {T : Tab} (hT : TabOk P 0 T) {o : Oper} {E : List D} {H : Hp} {n : Nat} {K : KD} (h : opD P T o E H n K) : OpSem P o E H n K := by
  unfold opD at h
  split at h
  · rename_i x ho
    rw [evK_eq] at h
    exact opSem_pure fun B c w a hC hE hd => ⟨_, _, h, by simp [execOp, ho], rep_ev hE x⟩
  · rename_i x ho
    rw [evK_eq] at h
    exact opSem_pure fun B c w a hC hE hd => ⟨_, _, h, by simp [execOp, ho], rep_ev hE x⟩
  · rename_i q x y ho
    split at h
    · rename_i t et
      simp only [evK_eq] at h
      refine opSem_pure fun B c w a hC hE hd => ?_
      have hq := rep_ev hE q
      rw [et] at hq
      have hq := rep_v hq
      replace h := Case.open h
      rcases h with ⟨rfl, h⟩ | ⟨rfl, h⟩
      · exact ⟨_, _, h, by simp [execOp, ho, hq, asBool], rep_ev hE x⟩
      · exact ⟨_, _, h, by simp [execOp, ho, hq, asBool], rep_ev hE y⟩
    · exact h.elim
  · rename_i t ho
    replace h := tiK_open hT h; obtain ⟨ti, L, h⟩ := h
    rw [numK_eq, pushHK_eq] at h
    refine opSem_value fun B c w a hC hE hd => ?_
    obtain ⟨hC', hk⟩ := hC.push (C := ti.zval.cells) (T := t) (cs := ofCs ti.zero) (by rw [L.zero]; exact repL_ofCs _)
    refine ⟨_, .pointer (some ⟨w.heap.size, 0, none⟩), E, _, n, _, _, h, ?_, hC', hE.mono hk, ?_⟩
    · simp [execOp, ho, Instr.alloc, L.run_zeroValue w, newVar, newRow]
    · unfold Rep
      rw [← hC.hlen]
      refine ⟨Nat.lt_succ_self _, ?_⟩
      show _ = Value.pointer (some ⟨if c.h = c.h then _ else _, _, _⟩)
      rw [if_pos rfl]
  · rename_i t x ho
    rw [evK_eq] at h
    refine opSem_value fun B c w a hC hE hd => ?_
    obtain ⟨cs, h, hr, _⟩ := cellsK_open (rep_ev hE x) h
    rw [numK_eq, pushHK_eq] at h
    obtain ⟨hC', hk⟩ := hC.push (C := (a.eval x).cells) (T := t) (cs := cs) hr
    refine ⟨_, .pointer (some ⟨w.heap.size, 0, none⟩), E, _, n, _, _, h, ?_, hC', hE.mono hk, ?_⟩
    · simp [execOp, ho, Instr.box, newVar, newRow]
    · unfold Rep
      rw [← hC.hlen]
      refine ⟨Nat.lt_succ_self _, ?_⟩
      show _ = Value.pointer (some ⟨if c.h = c.h then _ else _, _, _⟩)
      rw [if_pos rfl]
  · rename_i t parts ho
    refine opSem_pure fun B c w a hC hE hd => ?_
    obtain ⟨d, v, h1, h2, h3⟩ := buildD_sound (w := w) hT hE h
    exact ⟨d, v, h1, by simp [execOp, ho, h2], h3⟩
  · rename_i t len parts ho
    refine opSem_value fun B c w a hC hE hd => ?_
    obtain ⟨d, v, E', H', n', c', w', h1, h2, h3, h4, h5, _⟩ := buildSliceD_sound hT hC hE h
    rw [numK_eq] at h1
    exact ⟨d, v, E', H', n', c', w', h1, by simp [execOp, ho, h2], h3, h4, h5⟩
  · rename_i t x ho
    refine opSem_pure fun B c w a hC hE hd => ?_
    obtain ⟨d, v, h1, h2, h3⟩ := loadD_sound hT hC (rep_ev hE x) h
    exact ⟨d, v, h1, by simp [execOp, ho, h2 w (Below.refl _ _)], h3⟩
  · rename_i t x y ho
    intro B c w a hC hE hd
    rw [evK_eq] at h
    obtain ⟨E', H', c', w', h1, h2, h3, h4⟩ := storeD_sound hT hC hE (rep_ev hE x) (rep_ev hE y) h
    unfold Oper.wp
    have : (execOp a.eval o).run P w = .ok .skip w' := by simp [execOp, ho, h2]
    rw [this]
    exact ⟨_, undef, E', H', n, c', h1, rfl, h3, h4, by unfold Rep; trivial⟩
  · rename_i x ho
    refine opSem_pure fun B c w a hC hE hd => ?_
    have hx := rep_ev hE x
    split at h
    · rename_i k q e
      rw [e] at hx
      have hx' := hx
      unfold Rep at hx
      obtain ⟨_, hv⟩ := hx
      exact ⟨_, a.eval x, h, by simp [execOp, ho, hv], hx'⟩
    · rename_i cs e
      rw [e] at hx
      have hx' := hx
      unfold Rep at hx
      obtain ⟨b, q, hv, _⟩ := hx
      exact ⟨_, a.eval x, h, by simp [execOp, ho, hv], hx'⟩
    · rename_i k t s es i q e
      rw [e] at hx
      have hx' := hx
      unfold Rep at hx
      obtain ⟨_, _, _, b, oo, m, cap, _, hv⟩ := hx
      exact ⟨_, a.eval x, h, by simp [execOp, ho, hv], hx'⟩
    · rename_i g cap e
      rw [e] at hx
      have hx' := hx
      unfold Rep at hx
      obtain ⟨vs, hv, _⟩ := hx
      exact ⟨_, a.eval x, h, by simp [execOp, ho, hv], hx'⟩
    · exact h.elim
  · rename_i op t x y yt ho
    split at h
    · rename_i cs e
      refine opSem_pure fun B c w a hC hE hd => ?_
      have hx := rep_ev hE x
      have hy := rep_ev hE y
      rw [e] at hx
      obtain ⟨z, hz, h1, h2⟩ := eqD_sound (P := P) (w := w) (ox := x) (oy := y) hT hx hy h
      refine ⟨_, z, h1, ?_, rep_of _ hz⟩
      have : (execOp a.eval o) = (do pure (Next.value (← (do eqGuard op t x y (a.eval x) (a.eval y); binOp op t (a.eval x) (a.eval y)))) : Sem Next) := by simp [execOp, ho]
      rw [this, Sem.run_bind, h2]
      rfl
    · rename_i b e
      replace h := tiK_open hT h; obtain ⟨ti, L, h⟩ := h
      refine opSem_pure fun B c w a hC hE hd => ?_
      have hx := rep_ev hE x
      have hy := rep_ev hE y
      rw [e] at hx
      split at h
      · rename_i hde
        obtain ⟨z, hz, h1, h2⟩ := boolD_sound (P := P) (w := w) (t := t) (ox := x) (oy := y) (by rw [L.und, hde]) hx hy h
        refine ⟨_, z, h1, ?_, rep_of _ hz⟩
        have : (execOp a.eval o) = (do pure (Next.value (← (do eqGuard op t x y (a.eval x) (a.eval y); binOp op t (a.eval x) (a.eval y)))) : Sem Next) := by simp [execOp, ho]
        rw [this, Sem.run_bind, h2]
        rfl
      · exact h.elim
    iterate 10
      · exact h.open
    · refine opSem_pure fun B c w a hC hE hd => ?_
      have hx := rep_ev hE x
      have hy := rep_ev hE y
      obtain ⟨z, hz, h1, h2⟩ := binD_sound (P := P) (w := w) (t := t) (ox := x) (oy := y) hx hy h
      refine ⟨_, z, h1, ?_, rep_of _ hz⟩
      have : (execOp a.eval o) = (do pure (Next.value (← (do eqGuard op t x y (a.eval x) (a.eval y); binOp op t (a.eval x) (a.eval y)))) : Sem Next) := by simp [execOp, ho]
      rw [this, Sem.run_bind, h2]
      rfl
  · rename_i op t x ho
    refine opSem_pure fun B c w a hC hE hd => ?_
    obtain ⟨z, hz, h1, h2⟩ := unD_sound (P := P) (w := w) (rep_ev hE x) h
    exact ⟨_, z, h1, by simp [execOp, ho, h2], rep_of _ hz⟩
  · rename_i s t x ho
    split at h
    iterate 3
      · exact h.open
    refine opSem_value fun B c w a hC hE hd => ?_
    obtain ⟨d, u, E', H', n', c', w', h1, h2, h3, h4, h5⟩ := convertD_sound hT hC hE (rep_ev hE x) h
    exact ⟨d, u, E', H', n', c', w', h1, by simp [execOp, ho, h2], h3, h4, h5⟩
  · rename_i fn first cap ho
    split at h
    · rename_i g ef
      rw [evs_eq] at h
      refine opSem_pure fun B c w a hC hE hd => ⟨_, .func (.func g) #[] (cap.map a.eval), h, ?_, ?_⟩
      · have : first = #[] := by apply Array.ext'; simpa using ef
        simp [execOp, ho, Instr.makeFunc, this]
      · unfold Rep
        refine ⟨cap.toList.map a.eval, ?_, repL_evs hE _⟩
        have : cap.map a.eval = (cap.toList.map a.eval).toArray := by apply Array.ext'; simp
        rw [this]
    · exact h.elim
  · rename_i t x lo hi mx ho
    refine opSem_value fun B c w a hC hE hd => ?_
    obtain ⟨d, u, E', H', c', h1, h2, h3, h4, h5⟩ := sliceD_sound hT hC hE (rep_ev hE x) h
    exact ⟨d, u, E', H', n, c', w, h1, by simp [execOp, ho, h2], h3, h4, h5⟩
  · rename_i t x f ho
    refine opSem_pure fun B c w a hC hE hd => ?_
    obtain ⟨d, u, h1, h2, h3⟩ := fieldAddrD_sound (w := w) hT (rep_ev hE x) h
    exact ⟨d, u, h1, by simp [execOp, ho, h2], h3⟩
  · rename_i t x f ho
    refine opSem_pure fun B c w a hC hE hd => ?_
    obtain ⟨d, u, h1, h2, h3⟩ := fieldD_sound (w := w) hT (rep_ev hE x) h
    exact ⟨d, u, h1, by simp [execOp, ho, h2], h3⟩
  · rename_i t x i ho
    refine opSem_pure fun B c w a hC hE hd => ?_
    obtain ⟨d, u, h1, h2, h3⟩ := indexAddrD_sound (w := w) hT (rep_ev hE x) (rep_ev hE i) h
    exact ⟨d, u, h1, by simp [execOp, ho, h2], h3⟩
  · rename_i t x i ho
    refine opSem_pure fun B c w a hC hE hd => ?_
    obtain ⟨d, u, h1, h2, h3⟩ := indexD_sound (w := w) hT (rep_ev hE x) (rep_ev hE i) h
    exact ⟨d, u, h1, by simp [execOp, ho, h2], h3⟩
  · rename_i x i ho
    split at h
    · rename_i ds e
      cases hi : ds[i]? with
      | none => simp only [hi] at h
      | some d =>
        simp only [hi, force_eq] at h
        refine opSem_pure fun B c w a hC hE hd => ?_
        have hx := rep_ev hE x
        rw [e] at hx
        unfold Rep at hx
        obtain ⟨vs, hv, hr⟩ := hx
        obtain ⟨v, h1, h2⟩ := hr.get? i d hi
        have : vs.toArray[i]? = some v := by simpa using h1
        exact ⟨d, v, h, by simp [execOp, ho, hv, Instr.extract, this], h2⟩
    · exact h.elim
  · rename_i q ho
    obtain ⟨callee, args, argTypes⟩ := q
    split at h
    · rename_i e
      simp only at e
      subst e
      split at h
      · rename_i x t e1 e2
        refine opSem_pure fun B c w a hC hE hd => ?_
        obtain ⟨z, hz, h1, h2⟩ := lenD_sound (w := w) (ty := o.type) hT (rep_ev hE x) h
        have a1 : args = #[x] := by apply Array.ext'; simpa using e1
        have a2 : argTypes = #[t] := by apply Array.ext'; simpa using e2
        subst a1 a2
        exact ⟨_, z, h1, by simp [execOp, ho, resolve, invoke, builtin, h2], rep_of _ hz⟩
      · exact h.elim
    · rename_i e
      simp only at e
      subst e
      split at h
      · rename_i s x e1
        refine opSem_value fun B c w a hC hE hd => ?_
        obtain ⟨d, u, E', H', n', c', w', h1, h2, h3, h4, h5⟩ := appendD_sound (ty := o.type) hT hC hE (rep_ev hE s) (rep_ev hE x) h
        have a1 : args = #[s, x] := by apply Array.ext'; simpa using e1
        subst a1
        rw [numK_eq] at h1
        refine ⟨d, u, E', H', n', c', w', h1, ?_, h3, h4, h5⟩
        simp only [Array.toArray_toList] at h2
        simp [execOp, ho, resolve, invoke, builtin, h2]
      · exact h.elim
    · rename_i e
      simp only at e
      subst e
      rw [evs_eq] at h
      refine opSem_pure fun B c w a hC hE hd => ?_
      obtain ⟨z, hz, h1, h2⟩ := minD_sound (P := P) (up := false) (ts := argTypes) (ty := o.type) (repL_evs hE args.toList) h
      refine ⟨_, z, h1, ?_, rep_of _ hz⟩
      have a1 : (args.toList.map a.eval).toArray = args.map a.eval := by apply Array.ext'; simp
      rw [a1] at h2
      simp only [Bool.false_eq_true, if_false] at h2
      simp [execOp, ho, resolve, invoke, builtin, h2]
    · rename_i e
      simp only at e
      subst e
      rw [evs_eq] at h
      refine opSem_pure fun B c w a hC hE hd => ?_
      obtain ⟨z, hz, h1, h2⟩ := minD_sound (P := P) (up := true) (ts := argTypes) (ty := o.type) (repL_evs hE args.toList) h
      refine ⟨_, z, h1, ?_, rep_of _ hz⟩
      have a1 : (args.toList.map a.eval).toArray = args.map a.eval := by apply Array.ext'; simp
      rw [a1] at h2
      simp only [if_true] at h2
      simp [execOp, ho, resolve, invoke, builtin, h2]
    · rename_i f e
      simp only at e
      subst e
      split at h
      · rename_i g cap ef
        rw [evs_eq, appK_eq] at h
        replace h := h.open
        obtain ⟨⟨fn, hf, hnm, hbd⟩, h⟩ := h
        intro B c w a hC hE hd
        have hx := rep_ev hE f
        rw [ef] at hx
        unfold Rep at hx
        obtain ⟨vs, hv, hr⟩ := hx
        have hcall := h B c w a.tmps.toList (args.toList.map a.eval ++ vs) hC hE ((repL_evs hE _).append hr)
        have hrun : (execOp a.eval o).run P w = .ok (.enter g (args.toList.map a.eval ++ vs).toArray) w := by
          have a1 : (args.toList.map a.eval ++ vs).toArray = args.map a.eval ++ vs.toArray := by apply Array.ext'; simp
          rw [a1]
          simp [execOp, ho, resolve, hv, Deferred.ofValue, invoke, callFunc, hf]
          have hn2 : fn.name ≠ "runtime.NumGoroutine" := by simpa using hnm
          have hb2 : ¬ fn.body = none := fun e => by rw [e] at hbd; cases hbd
          simp [hn2, hb2]
        unfold Oper.wp
        rw [hrun]
        refine hcall.mono fun e w' he => ?_
        obtain ⟨d, v, E', H', n', c', h1, rfl, h2, h3, h4⟩ := he
        exact ⟨d, v, E', H', n', c', h1, rfl, h2, h3, h4⟩
      · exact h.open
    · exact h.open
  · exact h.open
end

def slotOf (ops : List Oper) (j : Nat) : Option Nat := match ops[j]? with
  | some o => o.dst
  | none => none
def stepD (P : Program) (T : Tab) (all : List Oper) (o : Oper) (k : List D → Hp → Nat → Prop) (E : List D) (H : Hp) (n : Nat) : Prop :=
  match o.guard with
    | none => opD P T o E H n (fun d E H n => putK E o.dst d (fun E => k E H n))
    | some (j, want) =>
      match slotOf all j with
      | some i => match E.getD i .junk with
        | .f (.v (.bool t)) =>
          bif want then Case t (opD P T o E H n (fun d E H n => putK E o.dst d (fun E => k E H n))) (putK E o.dst (.tup []) (fun E => k E H n))
          else Case t (putK E o.dst (.tup []) (fun E => k E H n)) (opD P T o E H n (fun d E H n => putK E o.dst d (fun E => k E H n)))
        | .tup [] => putK E o.dst (.tup []) (fun E => k E H n)
        | _ => False
      | none => False
noncomputable def opsD (P : Program) (T : Tab) (all : List Oper) (l : List Oper) (E : List D) (H : Hp) (n : Nat) (K : List D → Hp → Nat → Prop) : Prop :=
  List.rec (motive := fun _ => List D → Hp → Nat → Prop) K (fun o _ k => stepD P T all o k) l E H n
theorem opsD_nil {P : Program} {T : Tab} {all : List Oper} {E : List D} {H : Hp} {n : Nat} {K : List D → Hp → Nat → Prop} : opsD P T all [] E H n K = K E H n := rfl
theorem opsD_cons {P : Program} {T : Tab} {all : List Oper} {o : Oper} {rest : List Oper} {E : List D} {H : Hp} {n : Nat} {K : List D → Hp → Nat → Prop} : opsD P T all (o :: rest) E H n K = stepD P T all o (fun E H n => opsD P T all rest E H n K) E H n := rfl
noncomputable def awp (P : Program) (T : Tab) : Code → (X → List D → Hp → Nat → Prop) → List D → Hp → Nat → Prop
  | .skip, Q, E, H, n => Q .normal E H n
  | .region id ops d, Q, E, H, n => bif d then Step P (.region id ops true) Q E H n else opsD P T ops.toList ops.toList E H n (Q .normal)
  | .seq a b, Q, E, H, n => awp P T a (fun e E H n => match e with
      | .normal => awp P T b Q E H n
      | e => Q e E H n) E H n
  | .cond c x y, Q, E, H, n => match ev E c with
      | .f (.v (.bool t)) => Case t (awp P T x Q E H n) (awp P T y Q E H n)
      | _ => False
  | .block id c, Q, E, H, n => awp P T c (fun e E H n => match e with
      | .exit j => bif Nat.beq j id then Q .normal E H n else Q (.exit j) E H n
      | e => Q e E H n) E H n
  | .exit id, Q, E, H, n => Q (.exit id) E H n
  | .ret, Q, E, H, n => Q .ret E H n
  | k, Q, E, H, n => Step P k Q E H n

section
variable {P : Program}
theorem CSem.mono {k : Code} {Q Q' : X → List D → Hp → Nat → Prop} {E : List D} {H : Hp} {n : Nat} (h : CSem P k Q E H n) (hq : ∀ x E H n, Q x E H n → Q' x E H n) : CSem P k Q' E H n :=
  fun B c w a hC hE hd => wp_mono (h B c w a hC hE hd) fun e a' w' ⟨x, E', H', n', c', h1, h2, h3⟩ => ⟨x, E', H', n', c', h1, hq _ _ _ _ h2, h3⟩
theorem Oper.wp_false {o : Oper} {a : Act} {w : World} {K : Act → World → Prop} {Q : Exit → Act → World → Prop} (h : o.wp P a w K (fun _ _ _ => False)) : o.wp P a w K Q := by
  unfold Oper.wp at *
  generalize (execOp a.eval o).run P w = r at *
  cases r with
  | ok n w' =>
    cases n <;> simp only [Oper.upon] at h ⊢ <;>
      first
        | exact h
        | exact Calls.mono h (fun e w'' he => by
            cases e
            · exact he
            · exact he.elim
            · obtain ⟨_, _, h⟩ := he; exact h.elim)
  | halt x w' => cases x <;> simp only [Oper.upon] at h ⊢
theorem put_defers {a : Act} {dst : Option Nat} {v : Value} : (a.put dst v).defers = a.defers := by cases dst <;> rfl
theorem yielded_of {ops : Array Oper} {E : List D} {c : Cx} {w : World} {a : Act} (hE : RepL c w E a.tmps.toList) {i j : Nat} {t : Bool} (hs : slotOf ops.toList j = some i) (he : E.getD i .junk = .f (.v (.bool t))) : yielded ops a.tmps j = some t := by
  unfold slotOf at hs
  unfold yielded
  have hops : ops[j]? = ops.toList[j]? := by simp
  rw [hops]
  cases ho : ops.toList[j]? with
  | none => rw [ho] at hs; cases hs
  | some o =>
    rw [ho] at hs
    simp only at hs
    simp only [Option.bind_some, hs]
    have := hE.get? i (.f (.v (.bool t))) (by
      rw [List.getD_eq_getElem?_getD] at he
      cases hh : E[i]? with
      | none => rw [hh] at he; cases he
      | some d => rw [hh] at he; simp at he; rw [he])
    obtain ⟨v, h1, h2⟩ := this
    have h2 := rep_v h2
    subst h2
    have : a.tmps[i]? = some (.bool t) := by simpa using h1
    rw [this]
theorem rep_undef {c : Cx} {w : World} : Rep c w (.tup []) undef := by
  unfold Rep
  exact ⟨[], rfl, repL_nil⟩
theorem yielded_undef {ops : Array Oper} {E : List D} {c : Cx} {w : World} {a : Act} (hE : RepL c w E a.tmps.toList) {i j : Nat} (hs : slotOf ops.toList j = some i) (he : E.getD i .junk = .tup []) : yielded ops a.tmps j = none := by
  unfold slotOf at hs
  unfold yielded
  have hops : ops[j]? = ops.toList[j]? := by simp
  rw [hops]
  cases ho : ops.toList[j]? with
  | none => rw [ho] at hs; cases hs
  | some o =>
    rw [ho] at hs
    simp only at hs
    simp only [Option.bind_some, hs]
    have := hE.get? i (.tup []) (by
      rw [List.getD_eq_getElem?_getD] at he
      cases hh : E[i]? with
      | none => rw [hh] at he; cases he
      | some d => rw [hh] at he; simp at he; rw [he])
    obtain ⟨v, h1, h2⟩ := this
    unfold Rep at h2
    obtain ⟨vs, rfl, _⟩ := h2
    have : a.tmps[i]? = some (.tuple vs.toArray) := by simpa using h1
    rw [this]
theorem opsD_sound {T : Tab} (hT : TabOk P 0 T) {all : Array Oper} {B : Base} {Q : X → List D → Hp → Nat → Prop} {K : List D → Hp → Nat → Prop} (hK : ∀ E H n, K E H n → Q .normal E H n) : ∀ (l : List Oper) (E : List D) (H : Hp) (n : Nat) (c : Cx) (w : World) (a : Act),
    opsD P T all.toList l E H n K → Con B c w H n → RepL c w E a.tmps.toList → a.defers = [] → wpList P all (Post B Q) l a w
  | [], E, H, n, c, w, a, h, hC, hE, hd => wpList_nil ⟨.normal, E, H, n, c, rfl, hK _ _ _ h, hC, hE, hd⟩
  | o :: rest, E, H, n, c, w, a, h, hC, hE, hd => by
    have go : opD P T o E H n (fun d E H n => putK E o.dst d (fun E => opsD P T all.toList rest E H n K)) → o.wp P a w (wpList P all (Post B Q) rest) (Post B Q) := fun h => by
      have h1 := opD_sound hT h B c w a hC hE hd
      refine Oper.wp_false (Oper.wp_mono ?_ h1)
      rintro a' w' ⟨d, v, E', H', n', c', h2, rfl, h3, h4, h5⟩
      obtain ⟨E2, h6, h7⟩ := repL_put h4 h5 o.dst h2
      exact opsD_sound hT hK rest E2 H' n' c' w' _ h6 h3 h7 (by rw [put_defers]; exact hd)
    have skip : putK E o.dst (.tup []) (fun E => opsD P T all.toList rest E H n K) → wpList P all (Post B Q) rest (a.put o.dst undef) w := fun h => by
      obtain ⟨E2, h6, h7⟩ := repL_put hE rep_undef o.dst h
      exact opsD_sound hT hK rest E2 H n c w _ h6 hC h7 (by rw [put_defers]; exact hd)
    rw [opsD_cons] at h
    unfold stepD at h
    unfold wpList
    split at h
    · rename_i hg
      rw [if_pos (by simp [Region.wanted, hg])]
      exact .inl (go h)
    · rename_i j want hg
      split at h
      · rename_i i hs
        split at h
        · rename_i t he
          have hy := yielded_of hE hs he
          cases want with
          | true =>
            simp only [cond_true] at h
            replace h := Case.open h
            rcases h with ⟨rfl, h⟩ | ⟨rfl, h⟩
            · rw [if_pos (by simp [Region.wanted, hg, hy])]
              exact .inl (go h)
            · rw [if_neg (by simp [Region.wanted, hg, hy])]
              exact skip h
          | false =>
            simp only [cond_false] at h
            replace h := Case.open h
            rcases h with ⟨rfl, h⟩ | ⟨rfl, h⟩
            · rw [if_neg (by simp [Region.wanted, hg, hy])]
              exact skip h
            · rw [if_pos (by simp [Region.wanted, hg, hy])]
              exact .inl (go h)
        · rename_i he
          have hy := yielded_undef hE hs he
          rw [if_neg (by simp [Region.wanted, hg, hy])]
          exact skip h
        · exact h.elim
      · exact h.elim
theorem awp_sound {T : Tab} (hT : TabOk P 0 T) : ∀ (k : Code) {Q : X → List D → Hp → Nat → Prop} {E : List D} {H : Hp} {n : Nat}, awp P T k Q E H n → CSem P k Q E H n := by
  intro k
  induction k with
  | skip => intro Q E H n h B c w a hC hE hd; exact wp_skip ⟨.normal, E, H, n, c, rfl, h, hC, hE, hd⟩
  | region id ops d =>
    intro Q E H n h
    unfold awp at h
    cases d with
    | true => exact h.open
    | false =>
      intro B c w a hC hE hd
      exact wp_region_list (opsD_sound hT (fun _ _ _ h => h) _ E H n c w a h hC hE hd)
  | seq x y ihx ihy =>
    intro Q E H n h B c w a hC hE hd
    unfold awp at h
    refine wp_seq (wp_mono (ihx h B c w a hC hE hd) ?_)
    rintro e a' w' ⟨x', E', H', n', c', rfl, h1, h2, h3, h4⟩
    cases x' with
    | normal => exact ihy h1 B c' w' a' h2 h3 h4
    | exit id => exact ⟨.exit id, E', H', n', c', rfl, h1, h2, h3, h4⟩
    | ret => exact ⟨.ret, E', H', n', c', rfl, h1, h2, h3, h4⟩
  | cond q x y ihx ihy =>
    intro Q E H n h B c w a hC hE hd
    unfold awp at h
    split at h
    · rename_i t et
      have hq := rep_ev hE q
      rw [et] at hq
      have hq := rep_v hq
      replace h := Case.open h
      rcases h with ⟨rfl, h⟩ | ⟨rfl, h⟩
      · exact wp_cond_true hq (ihx h B c w a hC hE hd)
      · exact wp_cond_false hq (ihy h B c w a hC hE hd)
    · exact h.elim
  | block id k ih =>
    intro Q E H n h B c w a hC hE hd
    unfold awp at h
    refine wp_block (wp_mono (ih h B c w a hC hE hd) ?_)
    rintro e a' w' ⟨x', E', H', n', c', rfl, h1, h2, h3, h4⟩
    cases x' with
    | normal => exact ⟨.normal, E', H', n', c', rfl, h1, h2, h3, h4⟩
    | exit j =>
      simp only at h1
      show (if j = id then _ else _)
      cases hb : Nat.beq j id with
      | true =>
        rw [hb] at h1
        rw [if_pos (beq_eq hb)]
        exact ⟨.normal, E', H', n', c', rfl, h1, h2, h3, h4⟩
      | false =>
        rw [hb] at h1
        rw [if_neg (fun e => by subst e; have : Nat.beq j j = true := by simp
                                rw [this] at hb; cases hb)]
        exact ⟨.exit j, E', H', n', c', rfl, h1, h2, h3, h4⟩
    | ret => exact ⟨.ret, E', H', n', c', rfl, h1, h2, h3, h4⟩
  | exit id => intro Q E H n h B c w a hC hE hd; exact wp_exit ⟨.exit id, E, H, n, c, rfl, h, hC, hE, hd⟩
  | ret => intro Q E H n h B c w a hC hE hd; exact wp_ret ⟨.ret, E, H, n, c, rfl, h, hC, hE, hd⟩
  | _ => intro Q E H n h; exact Step.open h
end
end Go.Proofs.Ytdfiegleaknleaa.Aw
