/- Ranges over functions: the statement, and the function that it stands in. -/
import Derived.Test.YtlhegfkpgchaeaaGreatDoorAwVD
import Derived.RangeFuncFrom
import Derived.RangeFuncLeaves
import Derived.RangeFuncCalls
import Derived.TacticsIn
import Derived.OrdersIn
namespace Go.Proofs.YtlhegfkpgchaeaaGreatDoor.Aw
open Go Go.RowKit Go.Lib
set_option linter.unusedVariables false
set_option linter.unusedSimpArgs false
section
variable {P : Program}
def Fw (r : Option Nat) : Fence := { Fence.wide with round := r }
def PostY (ds : List Deferred) (B : Base) (Q : X → List D → Hp → Nat → Prop) (e : Exit) (a : Act) (w : World) : Prop :=
  ∃ x E H n c, e = conv x ∧ Q x E H n ∧ Con B c w H n ∧ RepL c w E a.tmps.toList ∧ a.defers = ds
def CSemY (r : Option Nat) (ds : List Deferred) (P : Program) (k : Code) (Q : X → List D → Hp → Nat → Prop) (E : List D) (H : Hp) (n : Nat) : Prop :=
  ∀ (B : Base) (c : Cx) (w : World) (a : Act), Con B c w H n → RepL c w E a.tmps.toList → a.defers = ds → k.wpIn (Fw r) 0 P (PostY ds B Q) a w
structure StepY (r : Option Nat) (ds : List Deferred) (P : Program) (k : Code) (Q : X → List D → Hp → Nat → Prop) (E : List D) (H : Hp) (n : Nat) : Prop where of ::
  out : CSemY r ds P k Q E H n
structure YStep (P : Program) (lb : Nat) (ps : List Nat) (x y : Code) (cap args : List D) (E : List D) (H : Hp) (n : Nat) (K : KD) : Prop where of ::
  out : ∀ (r : Option Nat) (B : Base) (c : Cx) (w : World) (ts vs : List Value) (u : Value), Con B c w H n → RepL c w E ts → Rep c w (.yl lb ps x y cap) u → RepL c w args vs →
    u = .func (.yield lb) #[] #[] ∧ YieldAt (Fw r) 0 P lb vs.toArray w (fun e w' => ∃ d v E' H' n' c', K d E' H' n' ∧ e = .returned v ∧ Con B c' w' H' n' ∧ RepL c' w' E' ts ∧ Rep c' w' d v)
def opY (P : Program) (T : Tab) (o : Oper) (E : List D) (H : Hp) (n : Nat) (K : KD) : Prop :=
  match o.op with
  | .call c => (match c.callee with
    | .value f => (match ev E f with
      | .yl lb ps x y cap => evs E c.args.toList fun l => YStep P lb ps x y cap l E H n K
      | _ => opD P T o E H n K)
    | _ => opD P T o E H n K)
  | _ => opD P T o E H n K
def stepDY (P : Program) (T : Tab) (all : List Oper) (o : Oper) (k : List D → Hp → Nat → Prop) (E : List D) (H : Hp) (n : Nat) : Prop :=
  match o.guard with
    | none => opY P T o E H n (fun d E H n => putK E o.dst d (fun E => k E H n))
    | some (j, want) =>
      match slotOf all j with
      | some i => match E.getD i .junk with
        | .f (.v (.bool t)) =>
          bif want then Case t (opY P T o E H n (fun d E H n => putK E o.dst d (fun E => k E H n))) (putK E o.dst (.tup []) (fun E => k E H n))
          else Case t (putK E o.dst (.tup []) (fun E => k E H n)) (opY P T o E H n (fun d E H n => putK E o.dst d (fun E => k E H n)))
        | .tup [] => putK E o.dst (.tup []) (fun E => k E H n)
        | _ => False
      | none => False
noncomputable def opsDY (P : Program) (T : Tab) (all : List Oper) (l : List Oper) (E : List D) (H : Hp) (n : Nat) (K : List D → Hp → Nat → Prop) : Prop :=
  List.rec (motive := fun _ => List D → Hp → Nat → Prop) K (fun o _ k => stepDY P T all o k) l E H n
theorem opsDY_cons {P : Program} {T : Tab} {all : List Oper} {o : Oper} {rest : List Oper} {E : List D} {H : Hp} {n : Nat} {K : List D → Hp → Nat → Prop} : opsDY P T all (o :: rest) E H n K = stepDY P T all o (fun E H n => opsDY P T all rest E H n K) E H n := rfl
noncomputable def awpY (r : Option Nat) (ds : List Deferred) (P : Program) (T : Tab) : Code → (X → List D → Hp → Nat → Prop) → List D → Hp → Nat → Prop
  | .skip, Q, E, H, n => Q .normal E H n
  | .region id ops d, Q, E, H, n => bif d then StepY r ds P (.region id ops true) Q E H n else opsDY P T ops.toList ops.toList E H n (Q .normal)
  | .seq a b, Q, E, H, n => awpY r ds P T a (fun e E H n => match e with
      | .normal => awpY r ds P T b Q E H n
      | e => Q e E H n) E H n
  | .cond c x y, Q, E, H, n => match ev E c with
      | .f (.v (.bool t)) => Case t (awpY r ds P T x Q E H n) (awpY r ds P T y Q E H n)
      | _ => False
  | .block id c, Q, E, H, n => awpY r ds P T c (fun e E H n => match e with
      | .exit j => bif Nat.beq j id then Q .normal E H n else Q (.exit j) E H n
      | e => Q e E H n) E H n
  | .exit id, Q, E, H, n => Q (.exit id) E H n
  | .ret, Q, E, H, n => Q .ret E H n
  | k, Q, E, H, n => StepY r ds P k Q E H n
theorem callsFw {r : Option Nat} {m : Nat} {f : FuncId} {args : Array Value} {w : World} {R : Ending → World → Prop} (h : Calls P f args w R) : CallsIn (Fw r) m P f args w R := by
  cases r with
  | none => exact callsIn_wide.2 h
  | some l => exact CallsIn.inRound l (callsIn_wide.2 h)
theorem rowsFw {r : Option Nat} {m : Nat} {row : String} {args : Array Value} {w : World} {R : Value → World → Prop} (h : Rows P row args w R) : RowsIn (Fw r) m P row args w R := by
  have h1 : RowsIn Fence.wide m P row args w R := fun c cs _ => let ⟨v, w', r, s⟩ := h c cs; ⟨v, w', r, stepsIn_wide.2 s⟩
  cases r with
  | none => exact h1
  | some l => exact h1
theorem put_with {a : Act} {dst : Option Nat} {v : Value} {ds : List Deferred} : a.put dst v = { ({ a with defers := ds } : Act).put dst v with defers := a.defers } := by cases dst <;> rfl
theorem wpIn_of_op {r : Option Nat} {o : Oper} {a : Act} {w : World} {Z : Value → World → Prop} {Q : Exit → Act → World → Prop}
    (h : o.wp P { a with defers := [] } w (fun a' w' => ∃ v, a' = ({ a with defers := [] } : Act).put o.dst v ∧ Z v w') (fun _ _ _ => False)) :
    o.wpIn (Fw r) 0 P a w (fun a' w' => ∃ v, a' = a.put o.dst v ∧ Z v w') Q := by
  have hev : ({ a with defers := [] } : Act).eval = a.eval := by funext x; cases x <;> rfl
  unfold Oper.wp at h
  rw [hev] at h
  refine ⟨fun _ _ => trivial, ?_⟩
  have move : ∀ {v : Value} {w' : World}, (∃ v', ({ a with defers := [] } : Act).put o.dst v = ({ a with defers := [] } : Act).put o.dst v' ∧ Z v' w') → ∃ v', a.put o.dst v = a.put o.dst v' ∧ Z v' w' := by
    rintro v w' ⟨v', e, hz⟩
    exact ⟨v', by rw [put_with (a := a) (ds := []), e, ← put_with], hz⟩
  have hs : (o.semAt (Fw r).round a.eval).run P w = (execOp a.eval o).run P w := by
    by_cases hd : ∃ c, o.op = .defer c
    · exfalso
      obtain ⟨c, hc⟩ := hd
      simp only [execOp, hc, Sem.run_bind] at h
      generalize (resolve a.eval c o.type).run P w = z at h
      cases z with
      | ok d w' =>
        simp only [Result.andThen, Sem.run_pure, Oper.upon] at h
        obtain ⟨v, e, _⟩ := h
        have := congrArg Act.defers e
        rw [put_defers, put_defers] at this
        cases this
      | halt x w' => cases x <;> simp [Result.andThen, Oper.upon] at h
    · rw [Oper.semAt_eq _ _ _ (fun c hc => hd ⟨c, hc⟩)]
  rw [hs]
  generalize (execOp a.eval o).run P w = z at h
  cases z with
  | ok nx w' =>
    cases nx with
    | value v => exact move h
    | skip => exact move h
    | defer d =>
      obtain ⟨v, e, _⟩ := h
      have := congrArg Act.defers e
      rw [put_defers, put_defers] at this
      cases this
    | enter f args =>
      refine ⟨fun h => (by cases h), callsFw (Calls.mono h fun e w'' he => ?_)⟩
      cases e with
      | returned v => exact move he
      | panicked c => exact he.elim
      | outgrown => obtain ⟨_, _, he⟩ := he; exact he.elim
    | row rw args => exact ⟨fun h => (by cases h), rowsFw (Rows.mono h fun v w'' he => move he)⟩
    | _ => exact h.elim
  | halt x w' => cases x <;> first | exact h.elim | (simp only [Oper.upon] at h)
theorem opY_sound {T : Tab} (hT : TabOk P 0 T) {o : Oper} {E : List D} {H : Hp} {n : Nat} {K : KD} (h : opY P T o E H n K) {r : Option Nat} {B : Base} {c : Cx} {w : World} {a : Act} (hC : Con B c w H n) (hE : RepL c w E a.tmps.toList) {Q : Exit → Act → World → Prop} :
    o.wpIn (Fw r) 0 P a w (fun a' w' => ∃ v, a' = a.put o.dst v ∧ ∃ d E' H' n' c', K d E' H' n' ∧ Con B c' w' H' n' ∧ RepL c' w' E' a.tmps.toList ∧ Rep c' w' d v) Q := by
  have old : opD P T o E H n K → o.wpIn (Fw r) 0 P a w (fun a' w' => ∃ v, a' = a.put o.dst v ∧ ∃ d E' H' n' c', K d E' H' n' ∧ Con B c' w' H' n' ∧ RepL c' w' E' a.tmps.toList ∧ Rep c' w' d v) Q := fun h => by
    refine wpIn_of_op ?_
    refine Oper.wp_mono ?_ (opD_sound hT h B c w { a with defers := [] } hC hE rfl)
    rintro a' w' ⟨d, v, E', H', n', c', h2, rfl, h3, h4, h5⟩
    exact ⟨v, rfl, d, E', H', n', c', h2, h3, h4, h5⟩
  unfold opY at h
  split at h
  · rename_i q ho
    split at h
    · rename_i f hf
      split at h
      · rename_i l ps x y cap ef
        rw [evs_eq] at h
        have hx := rep_ev hE f
        rw [ef] at hx
        obtain ⟨hu, fn, tmps, asg, bd, hy, hR⟩ := h.out r B c w a.tmps.toList (q.args.toList.map a.eval) (a.eval f) hC hE hx (repL_evs hE _)
        refine ⟨fun _ _ => trivial, ?_⟩
        have hs : (o.semAt (Fw r).round a.eval).run P w = .ok (.round l fn tmps asg bd) w := by
          rw [Oper.semAt_eq _ _ _ (fun c hc => by rw [ho] at hc; cases hc)]
          have e1 : (q.args.toList.map a.eval).toArray = q.args.map a.eval := by apply Array.ext'; simp
          rw [e1] at hy
          obtain ⟨callee, args, argTypes⟩ := q
          simp only at hf hy
          subst hf
          simp [execOp, ho, resolve, hu, Deferred.ofValue, invoke, hy]
        rw [hs]
        refine ⟨fun h => (by cases h), RoundIn.mono hR fun e w' he => ?_⟩
        obtain ⟨d, v, E', H', n', c', h1, rfl, h2, h3, h4⟩ := he
        exact ⟨v, rfl, d, E', H', n', c', h1, h2, h3, h4⟩
      · exact old h
    · exact old h
  · exact old h
theorem opsDY_sound {T : Tab} (hT : TabOk P 0 T) {r : Option Nat} {ds : List Deferred} {all : Array Oper} {B : Base} {Q : X → List D → Hp → Nat → Prop} {K : List D → Hp → Nat → Prop} (hK : ∀ E H n, K E H n → Q .normal E H n) : ∀ (l : List Oper) (E : List D) (H : Hp) (n : Nat) (c : Cx) (w : World) (a : Act),
    opsDY P T all.toList l E H n K → Con B c w H n → RepL c w E a.tmps.toList → a.defers = ds → wpListIn (Fw r) 0 P all (PostY ds B Q) l a w
  | [], E, H, n, c, w, a, h, hC, hE, hd => wpListIn_nil ⟨.normal, E, H, n, c, rfl, hK _ _ _ h, hC, hE, hd⟩
  | o :: rest, E, H, n, c, w, a, h, hC, hE, hd => by
    have go : opY P T o E H n (fun d E H n => putK E o.dst d (fun E => opsDY P T all.toList rest E H n K)) → o.wpIn (Fw r) 0 P a w (wpListIn (Fw r) 0 P all (PostY ds B Q) rest) (PostY ds B Q) := fun h => by
      refine Oper.wpIn_mono ?_ (opY_sound hT h hC hE)
      rintro a' w' ⟨v, rfl, d, E', H', n', c', h2, h3, h4, h5⟩
      obtain ⟨E2, h6, h7⟩ := repL_put h4 h5 o.dst h2
      exact opsDY_sound hT hK rest E2 H' n' c' w' _ h6 h3 h7 (by rw [put_defers]; exact hd)
    have skip : putK E o.dst (.tup []) (fun E => opsDY P T all.toList rest E H n K) → wpListIn (Fw r) 0 P all (PostY ds B Q) rest (a.put o.dst undef) w := fun h => by
      obtain ⟨E2, h6, h7⟩ := repL_put hE rep_undef o.dst h
      exact opsDY_sound hT hK rest E2 H n c w _ h6 hC h7 (by rw [put_defers]; exact hd)
    rw [opsDY_cons] at h
    unfold stepDY at h
    unfold wpListIn
    split at h
    · rename_i hg
      rw [if_pos (by simp [Region.wanted, hg])]
      exact go h
    · rename_i j want hg
      split at h
      · rename_i i hs
        split at h
        · rename_i t he
          have hy := yielded_of hE hs he
          cases want with
          | true =>
            simp only [cond_true] at h
            replace h := Case.open h
            rcases h with ⟨rfl, h⟩ | ⟨rfl, h⟩
            · rw [if_pos (by simp [Region.wanted, hg, hy])]
              exact go h
            · rw [if_neg (by simp [Region.wanted, hg, hy])]
              exact ⟨fun _ _ => trivial, skip h⟩
          | false =>
            simp only [cond_false] at h
            replace h := Case.open h
            rcases h with ⟨rfl, h⟩ | ⟨rfl, h⟩
            · rw [if_neg (by simp [Region.wanted, hg, hy])]
              exact ⟨fun _ _ => trivial, skip h⟩
            · rw [if_pos (by simp [Region.wanted, hg, hy])]
              exact go h
        · rename_i he
          have hy := yielded_undef hE hs he
          rw [if_neg (by simp [Region.wanted, hg, hy])]
          exact ⟨fun _ _ => trivial, skip h⟩
        · exact h.elim
      · exact h.elim
theorem awpY_sound {T : Tab} (hT : TabOk P 0 T) {r : Option Nat} {ds : List Deferred} : ∀ (k : Code) {Q : X → List D → Hp → Nat → Prop} {E : List D} {H : Hp} {n : Nat}, awpY r ds P T k Q E H n → CSemY r ds P k Q E H n := by
  intro k
  induction k with
  | skip => intro Q E H n h B c w a hC hE hd; exact wpIn_skip ⟨.normal, E, H, n, c, rfl, h, hC, hE, hd⟩
  | region id ops d =>
    intro Q E H n h
    unfold awpY at h
    cases d with
    | true => exact h.out
    | false =>
      intro B c w a hC hE hd
      exact wpIn_region_list (opsDY_sound hT (fun _ _ _ h => h) _ E H n c w a h hC hE hd)
  | seq x y ihx ihy =>
    intro Q E H n h B c w a hC hE hd
    unfold awpY at h
    refine wpIn_seq (wpIn_mono (ihx h B c w a hC hE hd) ?_)
    rintro e a' w' ⟨x', E', H', n', c', rfl, h1, h2, h3, h4⟩
    cases x' with
    | normal => exact ihy h1 B c' w' a' h2 h3 h4
    | exit id => exact ⟨.exit id, E', H', n', c', rfl, h1, h2, h3, h4⟩
    | ret => exact ⟨.ret, E', H', n', c', rfl, h1, h2, h3, h4⟩
  | cond q x y ihx ihy =>
    intro Q E H n h B c w a hC hE hd
    unfold awpY at h
    split at h
    · rename_i t et
      have hq := rep_ev hE q
      rw [et] at hq
      have hq := rep_v hq
      replace h := Case.open h
      rcases h with ⟨rfl, h⟩ | ⟨rfl, h⟩
      · exact wpIn_cond_true hq (ihx h B c w a hC hE hd)
      · exact wpIn_cond_false hq (ihy h B c w a hC hE hd)
    · exact h.elim
  | block id k ih =>
    intro Q E H n h B c w a hC hE hd
    unfold awpY at h
    refine wpIn_block (wpIn_mono (ih h B c w a hC hE hd) ?_)
    rintro e a' w' ⟨x', E', H', n', c', rfl, h1, h2, h3, h4⟩
    cases x' with
    | normal => exact ⟨.normal, E', H', n', c', rfl, h1, h2, h3, h4⟩
    | exit j =>
      simp only at h1
      show (if j = id then _ else _)
      cases hb : Nat.beq j id with
      | true =>
        rw [hb] at h1
        rw [if_pos (beq_eq hb)]
        exact ⟨.normal, E', H', n', c', rfl, h1, h2, h3, h4⟩
      | false =>
        rw [hb] at h1
        rw [if_neg (fun e => by subst e; have : Nat.beq j j = true := by simp
                                rw [this] at hb; cases hb)]
        exact ⟨.exit j, E', H', n', c', rfl, h1, h2, h3, h4⟩
    | ret => exact ⟨.ret, E', H', n', c', rfl, h1, h2, h3, h4⟩
  | exit id => intro Q E H n h B c w a hC hE hd; exact wpIn_exit ⟨.exit id, E, H, n, c, rfl, h, hC, hE, hd⟩
  | ret => intro Q E H n h B c w a hC hE hd; exact wpIn_ret ⟨.ret, E, H, n, c, rfl, h, hC, hE, hd⟩
  | _ => intro Q E H n h; exact h.out
theorem wpIn_loop_ghost {F : Fence} {m : Nat} {c : Code} {Q : Exit → Act → World → Prop} (G : Nat → Act → World → Prop) (i : Nat) {a : Act} {w : World} (h₀ : G i a w)
    (round : ∀ i a w, G i a w → c.wpIn F m P (Exit.then (fun a' w' => ∃ j, j < i ∧ G j a' w') Q) a w) : (Code.loop c).wpIn F m P Q a w := by
  intro b k cs hro hb hr
  have key : ∀ j a w, G j a w →
      ∃ e a' w', Q e a' w' ∧ ArrivesIn (Machine.fenced P F) P (lone (b.atR a (.code c :: .inLoop c :: k)) cs w) b k cs e a' w' := by
    intro j
    induction j using Nat.strongRecOn with
    | _ j ih =>
      intro a w hI
      obtain ⟨e, a₁, w₁, hq, harr⟩ := round j a w hI b (.inLoop c :: k) cs hro hb hr
      cases e with
      | normal =>
        obtain ⟨j', hlt, hI₁⟩ := hq
        obtain ⟨e₂, a₂, w₂, hq₂, harr₂⟩ := ih j' hlt a₁ w₁ hI₁
        exact ⟨e₂, a₂, w₂, hq₂, .of_steps (StepsIn.trans harr (.one (fenced_calm hb hr rfl) stepR_inLoop)) harr₂⟩
      | exit id => exact ⟨_, a₁, w₁, hq, .pass (x := .inLoop c) rfl (fun _ _ => .inl (by simp)) harr⟩
      | goto l => exact ⟨_, a₁, w₁, hq, .pass (x := .inLoop c) rfl (fun _ _ => .inl (by simp)) harr⟩
      | ret => exact ⟨_, a₁, w₁, hq, .pass (x := .inLoop c) rfl (fun _ _ => .inl (by simp)) harr⟩
      | panic ch => exact ⟨_, a₁, w₁, hq, .pass (x := .inLoop c) rfl (fun _ _ => .inl (by simp)) harr⟩
      | outgrown => exact ⟨_, a₁, w₁, hq, .pass (x := .inLoop c) rfl (fun _ _ => .inl (by simp)) harr⟩
  obtain ⟨e, a', w', hq, harr⟩ := key i a w h₀
  exact ⟨e, a', w', hq, .of_steps (.one (fenced_calm hb hr rfl) stepR_loop) harr⟩
theorem step_loopY {T : Tab} (hT : TabOk P 0 T) {r : Option Nat} {ds : List Deferred} {k : Code} {Q : X → List D → Hp → Nat → Prop} {E : List D} {H : Hp} {n : Nat} {α : Type} (pat : α → List D) (hp : α → Hp) (n1 : Nat) (I : α → Prop) (μ : α → Nat) (a0 : α)
    (h0 : I a0) (hlen : ∀ a, (hp a).length = H.length) (hinto : Into E H n (pat a0) (hp a0) n1)
    (round : ∀ a, I a → layK (pat a) fun E => awpY r ds P T k (fun x E' H' n' => match x with
      | .normal => ∃ a', I a' ∧ μ a' < μ a ∧ Into E' H' n' (pat a') (hp a') n1
      | x => Q x E' H' n') E (hp a) n1) : StepY r ds P (.loop k) Q E H n := by
  refine ⟨fun B c w a hC hE hd => ?_⟩
  have hB : B.h0 ≤ H.length := by rw [← hC.hlen]; exact hC.hh
  obtain ⟨hC1, hE1⟩ := hC.into (by rw [hlen]; exact hB) hinto hE
  refine wpIn_loop_ghost (fun m a w => ∃ x c, μ x = m ∧ I x ∧ Con B c w (hp x) n1 ∧ RepL c w (pat x) a.tmps.toList ∧ a.defers = ds) (μ a0) ⟨a0, _, rfl, h0, hC1, hE1, hd⟩ ?_
  rintro m a w ⟨x, c, rfl, hI, hC, hE, hd⟩
  have hr := round x hI
  rw [layK_eq] at hr
  refine wpIn_mono (awpY_sound hT k hr B c w a hC hE hd) ?_
  rintro e a' w' ⟨x', E', H', n', c', rfl, h1, h2, h3, h4⟩
  cases x' with
  | normal =>
    obtain ⟨a2, g1, g2, g3⟩ := h1
    obtain ⟨hC2, hE2⟩ := h2.into (by rw [hlen]; exact hB) g3 h3
    exact ⟨_, g2, a2, _, rfl, g1, hC2, hE2, h4⟩
  | exit id => exact ⟨.exit id, E', H', n', c', rfl, h1, h2, h3, h4⟩
  | ret => exact ⟨.ret, E', H', n', c', rfl, h1, h2, h3, h4⟩
theorem StepY.plain {k : Code} {Q : X → List D → Hp → Nat → Prop} {E : List D} {H : Hp} {n : Nat} (h : Step P k Q E H n) : StepY none [] P k Q E H n :=
  ⟨fun B c w a hC hE hd => wpIn_wide.2 (wp_mono (h.open B c w a hC hE hd) fun e a' w' h => h)⟩
end
section
variable {P : Program}
theorem Con.self {B : Base} {c : Cx} {w : World} {H : Hp} {n : Nat} (h : Con B c w H n) : Con (base c w H) c w H n :=
 ⟨rfl, rfl, rfl, Nat.le_refl _, fun _ _ _ => rfl, fun b hb => hb, fun b hb => ⟨(h.immB b hb).1, .inl hb⟩, h.hlen, h.nlen, by show H.length ≤ c.h; rw [h.hlen]; exact Nat.le_refl _, fun _ _ => rfl, h.objs,
  fun k cs hk => ⟨.inl (.inl ⟨k, cs, hk, rfl⟩), (h.objM k cs hk).2⟩, h.inj, fun k b hb => ⟨(h.tags k b hb).1, (h.tags k b hb).2.1, .inl (.inr ⟨k, hb⟩), (h.tags k b hb).2.2.2⟩, h.tagInj, h.high, h.glob⟩
theorem Con.mineB {B : Base} {c : Cx} {w : World} {H : Hp} {n : Nat} (h : Con B c w H n) {b : Nat} (hb : mine c H b) : (B.m0 b ∨ B.w0.heap.size ≤ b) ∧ b < w.heap.size ∧ ¬ c.imm b := by
 rcases hb with ⟨k, cs, hk, rfl⟩ | ⟨k, hk⟩
 ·exact ⟨(h.objM k cs hk).1, h.objLt hk, (h.objM k cs hk).2⟩
 ·exact ⟨(h.tags k b hk).2.2.1, (h.tags k b hk).1, (h.tags k b hk).2.1⟩
theorem Con.trans {B : Base} {c c' : Cx} {w w' : World} {H H' : Hp} {n n' : Nat} (h1 : Con B c w H n) (h2 : Con (base c w H) c' w' H' n') : Con B c' w' H' n' := by
 have far : ∀ b, (mine c H b ∨ w.heap.size ≤ b) → B.m0 b ∨ B.w0.heap.size ≤ b := fun b hb => by
  rcases hb with hb | hb
  ·exact (h1.mineB hb).1
  ·exact .inr (Nat.le_trans h1.size hb)
 refine ⟨h2.os.trans h1.os, h2.tape.trans h1.tape, h2.output.trans h1.output, Nat.le_trans h1.size h2.size, fun b hb hm => ?_, fun b hb => h2.imm0 b (h1.imm0 b hb), fun b hb => ?_, h2.hlen, h2.nlen, ?_, fun k hk => ?_, h2.objs, fun k cs hk => ⟨far _ (h2.objM k cs hk).1, (h2.objM k cs hk).2⟩, h2.inj, fun k b hb => ⟨(h2.tags k b hb).1, (h2.tags k b hb).2.1, far b (h2.tags k b hb).2.2.1, (h2.tags k b hb).2.2.2⟩, h2.tagInj, h2.high, h2.glob⟩
 ·refine (h2.old b (Nat.lt_of_lt_of_le hb h1.size) (fun hm2 => ?_)).trans (h1.old b hb hm)
  rcases (h1.mineB hm2).1 with h3 | h3
  ·exact hm h3
  ·omega
 ·obtain ⟨h3, h4⟩ := h2.immB b hb
  refine ⟨h3, ?_⟩
  rcases h4 with h4 | h4 | h4
  ·exact (h1.immB b h4).2
  ·exact .inr (far b (.inl h4))
  ·exact .inr (far b (.inr h4))
 ·have h3 : H.length ≤ c'.h := h2.hh
  have h4 := h1.hh
  rw [h1.hlen] at h4
  exact Nat.le_trans h4 h3
 ·have h4 := h1.hh
  rw [h1.hlen] at h4
  exact (h2.phi k (Nat.lt_of_lt_of_le hk h4)).trans (h1.phi k hk)
mutual
def noYD : D → Bool
 | .yl _ _ _ _ _ => false
 | .agg cs => noYL cs
 | .tup cs => noYL cs
 | .fn _ cs => noYL cs
 | _ => true
def noYL : List D → Bool
 | [] => true
 | d :: ds => noYD d && noYL ds
end
def noYH : Hp → Bool
 | [] => true
 | none :: h => noYH h
 | some cs :: h => noYL cs && noYH h
structure Off (w w' : World) (l : Nat) : Prop where
 bare : ∀ C T z, w.heap[l]? ≠ some (.cells C T z)
 same : ∀ b, b ≠ l → w'.heap[b]? = w.heap[b]?
theorem Off.cell {w w' : World} {l : Nat} (h : Off w w' l) {b o : Nat} {v : Value} (hv : w.cell? ⟨b, o, none⟩ = some v) : w'.cell? ⟨b, o, none⟩ = some v := by
 have hb : b ≠ l := fun e => by
  subst e
  unfold World.cell? at hv
  split at hv
  ·rename_i C T z hr
   exact h.bare C T z hr
  ·cases hv
 rw [cell_of_heap (h.same b hb)]
 exact hv
theorem Off.cells {w w' : World} {l b : Nat} {C : Array Value} {T : TypeId} {z : Nat × Nat} (h : Off w w' l) (hb : w.heap[b]? = some (.cells C T z)) : w'.heap[b]? = some (.cells C T z) := by
 rw [h.same b (fun e => by subst e; exact h.bare C T z hb)]
 exact hb
mutual
theorem RepF.off {imm : Nat → Prop} {w w' : World} {l : Nat} (ho : Off w w' l) : ∀ (x : F) (y : Value), RepF imm w x y → RepF imm w' x y
 | .v x, y, h => by unfold RepF at *; exact h
 | .sl es, y, h => by
  unfold RepF at *
  rcases h with h | ⟨b, o, cap, e, hc, hi, hr⟩
  ·exact .inl h
  ·exact .inr ⟨b, o, cap, e, hc, hi, RepR.off ho es b o hr⟩
theorem RepR.off {imm : Nat → Prop} {w w' : World} {l : Nat} (ho : Off w w' l) : ∀ (es : List (List F)) (b o : Nat), RepR imm w es b o → RepR imm w' es b o
 | [], _, _, _ => by unfold RepR; trivial
 | e :: es, b, o, h => by
  unfold RepR at *
  exact ⟨RepC.off ho e b o h.1, RepR.off ho es b (o + e.length) h.2⟩
theorem RepC.off {imm : Nat → Prop} {w w' : World} {l : Nat} (ho : Off w w' l) : ∀ (xs : List F) (b o : Nat), RepC imm w xs b o → RepC imm w' xs b o
 | [], _, _, _ => by unfold RepC; trivial
 | x :: xs, b, o, h => by
  unfold RepC at *
  obtain ⟨⟨y, hy, hx⟩, h2⟩ := h
  exact ⟨⟨y, ho.cell hy, RepF.off ho x y hx⟩, RepC.off ho xs b (o + 1) h2⟩
end
theorem RepFs.off {imm : Nat → Prop} {w w' : World} {l : Nat} (ho : Off w w' l) : ∀ (xs : List F) (vs : List Value), RepFs imm w xs vs → RepFs imm w' xs vs
 | [], vs, h => by unfold RepFs at *; exact h
 | x :: xs, vs, h => by
  unfold RepFs at *
  obtain ⟨v, vs', e, h1, h2⟩ := h
  exact ⟨v, vs', e, RepF.off ho x v h1, RepFs.off ho xs vs' h2⟩
theorem RepRows.off {imm : Nat → Prop} {w w' : World} {l s : Nat} (ho : Off w w' l) : ∀ (es : List (List F)) (vs : List Value), RepRows imm w s es vs → RepRows imm w' s es vs
 | [], vs, h => by unfold RepRows at *; exact h
 | e :: es, vs, h => by
  unfold RepRows at *
  obtain ⟨ys, zs, h1, h2, h3, h4⟩ := h
  exact ⟨ys, zs, h1, h2, RepFs.off ho e ys h3, RepRows.off ho es zs h4⟩
theorem OwnOk.off {imm : Nat → Prop} {w w' : World} {l t s : Nat} {v : Value} {es : List (List F)} (ho : Off w w' l) (h : OwnOk imm w v t s es) : OwnOk imm w' v t s es := by
 obtain ⟨hs, xs, how, hr⟩ := h
 refine ⟨hs, xs, ⟨how.1, ?_⟩, RepRows.off ho es xs hr⟩
 rcases how.2 with h | ⟨g, cap, cur, e, hb, ⟨fz, hf, hh⟩, hrest⟩
 ·exact .inl h
 ·exact .inr ⟨g, cap, cur, e, hb, ⟨fz, hf, ho.cells hh⟩, hrest⟩
mutual
theorem Rep.off {c : Cx} {w w' : World} {l : Nat} (ho : Off w w' l) : ∀ (d : D) (y : Value), noYD d = true → Rep c w d y → Rep c w' d y
 | .junk, y, hn, h => by unfold Rep; trivial
 | .f x, y, hn, h => by unfold Rep at *; exact RepF.off ho x y h
 | .nil, y, hn, h => by unfold Rep at *; exact h
 | .agg cs, y, hn, h => by
  unfold noYD at hn; unfold Rep at *
  obtain ⟨vs, e, hl⟩ := h
  exact ⟨vs, e, RepL.off ho cs vs hn hl⟩
 | .tup cs, y, hn, h => by
  unfold noYD at hn; unfold Rep at *
  obtain ⟨vs, e, hl⟩ := h
  exact ⟨vs, e, RepL.off ho cs vs hn hl⟩
 | .own k t s es, y, hn, h => by
  unfold Rep at *
  exact ⟨h.1, h.2.1, h.2.2.off ho⟩
 | .optr k t s es i o, y, hn, h => by
  unfold Rep at *
  exact ⟨h.1, h.2.1.off ho, h.2.2⟩
 | .ptr j o, y, hn, h => by unfold Rep at *; exact h
 | .ip cs, y, hn, h => by
  unfold Rep at *
  obtain ⟨b, o, e, hi, hc⟩ := h
  exact ⟨b, o, e, hi, RepC.off ho cs b o hc⟩
 | .fn g cs, y, hn, h => by
  unfold noYD at hn; unfold Rep at *
  obtain ⟨vs, e, hl⟩ := h
  exact ⟨vs, e, RepL.off ho cs vs hn hl⟩
 | .yl _ _ _ _ _, _, hn, _ => by unfold noYD at hn; cases hn
theorem RepL.off {c : Cx} {w w' : World} {l : Nat} (ho : Off w w' l) : ∀ (ds : List D) (ys : List Value), noYL ds = true → RepL c w ds ys → RepL c w' ds ys
 | [], ys, hn, h => by unfold RepL at *; exact h
 | d :: ds, ys, hn, h => by
  unfold noYL at hn; unfold RepL at *
  rw [Bool.and_eq_true] at hn
  obtain ⟨v, vs', e, h1, h2⟩ := h
  exact ⟨v, vs', e, Rep.off ho d v hn.1 h1, RepL.off ho ds vs' hn.2 h2⟩
end
theorem noYH_get : ∀ {H : Hp} {k : Nat} {cs : Cells}, noYH H = true → H[k]? = some (some cs) → noYL cs = true
 | [], k, cs, _, h => by simp at h
 | none :: H, k, cs, hn, h => by
  cases k with
  | zero => simp at h
  | succ k => exact noYH_get (H := H) (k := k) (by simpa [noYH] using hn) (by simpa using h)
 | some ds :: H, k, cs, hn, h => by
  unfold noYH at hn
  rw [Bool.and_eq_true] at hn
  cases k with
  | zero => simp at h; subst h; exact hn.1
  | succ k => exact noYH_get (H := H) (k := k) hn.2 (by simpa using h)
theorem Off.putObj {w : World} {l : Nat} {r : Loop} (h : w.heap[l]? = some (.loop r)) (o : Obj) : Off w (w.putObj l o) l := ⟨fun C T z e => (by rw [h] at e; cases e), fun b hb => World.putObj_heap_other hb⟩
theorem putObj_size (w : World) (l : Nat) (o : Obj) : (w.putObj l o).heap.size = w.heap.size := by simp [World.putObj]
theorem Con.offG {B : Base} {c : Cx} {w : World} {H : Hp} {n : Nat} {l : Nat} {o : Obj} (h : Con B c w H n) (ho : Off w (w.putObj l o) l) (hg : tabP (w.putObj l o)) (hn : noYH H = true) {B' : Base} (hos : B'.w0.os = B.w0.os ∧ B'.w0.tape = B.w0.tape ∧ B'.w0.output = B.w0.output ∧ B'.w0.heap.size = B.w0.heap.size)
  (hsm : B'.m0 = B.m0 ∧ B'.i0 = B.i0 ∧ B'.φ0 = B.φ0 ∧ B'.h0 = B.h0) (hold : ∀ b, b < B.w0.heap.size → ¬ B.m0 b → (w.putObj l o).heap[b]? = B'.w0.heap[b]?) : Con B' c (w.putObj l o) H n := by
 obtain ⟨o1, o2, o3, o4⟩ := hos
 obtain ⟨m1, m2, m3, m4⟩ := hsm
 refine ⟨h.os.trans o1.symm, h.tape.trans o2.symm, h.output.trans o3.symm, by rw [putObj_size, o4]; exact h.size, fun b hb hm => hold b (by rw [← o4]; exact hb) (by rw [← m1]; exact hm), by rw [m2]; exact h.imm0, fun b hb => ?_, h.hlen, h.nlen, by rw [m4]; exact h.hh, by rw [m3, m4]; exact h.phi, fun k cs hk => ?_, fun k cs hk => by rw [m1, o4]; exact h.objM k cs hk, h.inj, fun k b hb => by rw [m1, o4, putObj_size]; exact h.tags k b hb, h.tagInj, h.high, ⟨h.glob.imm, hg⟩⟩
 ·rw [m1, m2, o4, putObj_size]; exact h.immB b hb
 ·obtain ⟨C, T, e, hr⟩ := h.objs k cs hk
  exact ⟨C, T, ho.cells e, RepL.off ho cs _ (noYH_get hn hk) hr⟩
theorem Con.off {B : Base} {c : Cx} {w : World} {H : Hp} {n : Nat} {l : Nat} {r : Loop} {o : Obj} (h : Con B c w H n) (hl : w.heap[l]? = some (.loop r)) (hn : noYH H = true) {B' : Base} (hos : B'.w0.os = B.w0.os ∧ B'.w0.tape = B.w0.tape ∧ B'.w0.output = B.w0.output ∧ B'.w0.heap.size = B.w0.heap.size)
  (hsm : B'.m0 = B.m0 ∧ B'.i0 = B.i0 ∧ B'.φ0 = B.φ0 ∧ B'.h0 = B.h0) (hold : ∀ b, b < B.w0.heap.size → ¬ B.m0 b → (w.putObj l o).heap[b]? = B'.w0.heap[b]?) : Con B' c (w.putObj l o) H n :=
 h.offG (Off.putObj hl o) (tabP_off hl (fun b hb => World.putObj_heap_other hb) h.glob.tab) hn hos hsm hold
end
section
variable {P : Program}
theorem core_gen {«as» : List D} {Hs : Hp} {E : List D} {H : Hp} {n : Nat} (ρ σ : List Nat)
  (hρ : ρ.Nodup) (hσ : σ.Nodup) (hρb : ∀ r ∈ ρ, r < H.length) (hσb : ∀ k ∈ σ, k < n) (hfit : fitH ρ σ Hs.length σ.length ρ Hs H) (href : refL Hs.length σ.length «as»)
  {B : Base} {c : Cx} {w : World} {ts vs : List Value} (hC : Con B c w H n) (hE : RepL c w E ts) (ha : RepL c w (renL ρ σ «as») vs) :
  ∃ c1, Con (base c1 w Hs) c1 w Hs σ.length ∧ RepL c1 w «as» vs ∧ ∀ (w' : World) (d : D) (v : Value) (Hs' : Hp) (c2 : Cx), Hs'.length = Hs.length → Con (base c1 w Hs) c2 w' Hs' σ.length → Rep c2 w' d v →
   ∃ c', Con B c' w' (putH ρ σ ρ Hs' (killsH σ H)) n ∧ RepL c' w' (killsL σ E) ts ∧ Rep c' w' (d.ren ρ σ) v := by
 have hlen := fitH_length hfit
 have hget := fitH_get hfit
 have hρm : ∀ j, j < Hs.length → ρ.getD j 0 ∈ ρ := fun j hj => getD_mem (by omega)
 let c1 : Cx := ⟨fun j => c.φ (ρ.getD j 0), fun j => if j < σ.length then c.τ (σ.getD j 0) else nilS, c.imm, Hs.length, σ.length⟩
 have hτ1 : ∀ j, j < σ.length → c1.τ j = c.τ (σ.getD j 0) := fun j hj => by show (if j < σ.length then _ else _) = _; rw [if_pos hj]
 have hτ0 : ∀ j, ¬ j < σ.length → c1.τ j = nilS := fun j hj => by show (if j < σ.length then _ else _) = _; rw [if_neg hj]
 have hτb : ∀ j b, blk (c1.τ j) = some b → j < σ.length ∧ blk (c.τ (σ.getD j 0)) = some b := fun j b hb => by
  by_cases hj : j < σ.length
  ·rw [hτ1 j hj] at hb; exact ⟨hj, hb⟩
  ·rw [hτ0 j hj] at hb; cases hb
 have ht : Thru c c1 ρ σ Hs.length σ.length := ⟨rfl, fun _ _ => rfl, hτ1, rfl, rfl, fun j hj => by rw [hC.hlen]; exact hρb _ (hρm j hj), fun j hj => by rw [hC.nlen]; exact hσb _ (getD_mem hj)⟩
 have hC1 : Con (base c1 w Hs) c1 w Hs σ.length := by
  refine ⟨rfl, rfl, rfl, Nat.le_refl _, fun b _ _ => rfl, fun b hb => hb, fun b hb => ⟨(hC.immB b hb).1, .inl hb⟩, rfl, rfl, Nat.le_refl _, fun _ _ => rfl, fun j cs hj => ?_, fun j cs hj => ?_, fun i j cs ds hi hj e => ?_, fun j b hb => ?_, fun i j b hi hj => ?_, fun j hj => hτ0 j (by omega), hC.glob⟩
  ·obtain ⟨h1, h2⟩ := hget j cs hj
   obtain ⟨C, T, e, hr⟩ := hC.objs _ _ h1
   exact ⟨C, T, e, RepL.thru ht cs _ h2 hr⟩
  ·obtain ⟨h1, h2⟩ := hget j cs hj
   exact ⟨.inl (.inl ⟨j, cs, hj, rfl⟩), (hC.objM _ _ h1).2⟩
  ·obtain ⟨h1, _⟩ := hget i cs hi
   obtain ⟨h2, _⟩ := hget j ds hj
   have := hC.inj _ _ _ _ h1 h2 e
   exact getD_inj hρ (by rw [hlen]; exact (List.getElem?_eq_some_iff.1 hi).1) (by rw [hlen]; exact (List.getElem?_eq_some_iff.1 hj).1) this
  ·obtain ⟨hj, hb'⟩ := hτb j b hb
   obtain ⟨a1, a2, a3, a4⟩ := hC.tags _ b hb'
   exact ⟨a1, a2, .inl (.inr ⟨j, hb⟩), fun i cs hi => a4 _ _ (hget i cs hi).1⟩
  ·obtain ⟨h1, hb1⟩ := hτb i b hi
   obtain ⟨h2, hb2⟩ := hτb j b hj
   exact getD_inj hσ h1 h2 (hC.tagInj _ _ b hb1 hb2)
 refine ⟨c1, hC1, RepL.thru ht «as» vs href ha, ?_⟩
 intro w' d v Hs' c2 hl' hC2 hv
 -- what the callee may have turned
 have hmine : ∀ b, mine c1 Hs b → (∃ j cs, Hs[j]? = some (some cs) ∧ c.φ (ρ.getD j 0) = b) ∨ ∃ j, j < σ.length ∧ blk (c.τ (σ.getD j 0)) = some b := fun b hb => by
  rcases hb with ⟨j, cs, h1, h2⟩ | ⟨j, hb⟩
  ·exact .inl ⟨j, cs, h1, h2⟩
  ·exact .inr ⟨j, hτb j b hb⟩
 have hsame : ∀ b, b < w.heap.size → ¬ mine c1 Hs b → w'.heap[b]? = w.heap[b]? := hC2.old
 have himm : ImmKeep c.imm c2.imm w w' := fun b hb => ⟨hC2.imm0 b hb, hsame b (hC.immB b hb).1 (fun hm => by
  rcases hmine b hm with ⟨j, cs, h1, h2⟩ | ⟨j, _, h2⟩
  ·exact (hC.objM _ _ (hget j cs h1).1).2 (h2 ▸ hb)
  ·exact (hC.tags _ b h2).2.1 hb)⟩
 have htag : ∀ j b, j ∉ σ → blk (c.τ j) = some b → w'.heap[b]? = w.heap[b]? := fun j b hj hb => hsame b (hC.tags j b hb).1 (fun hm => by
  rcases hmine b hm with ⟨i, cs, h1, h2⟩ | ⟨i, h1, h2⟩
  ·exact (hC.tags j b hb).2.2.2 _ _ (hget i cs h1).1 h2
  ·exact hj (by rw [hC.tagInj j _ b hb h2]; exact getD_mem h1))
 let c' := c.merge c2 σ
 have hks : KeepS c c' w w' σ := ⟨himm, Nat.le_refl _, Nat.le_refl _, fun _ _ => rfl, fun j _ hj => ⟨merge_other hj, fun b hb => htag j b hj hb⟩⟩
 have hphi : ∀ j, j < Hs.length → c2.φ j = c.φ (ρ.getD j 0) := fun j hj => hC2.phi j hj
 have ht2 : Thru c' c2 ρ σ Hs.length σ.length := ⟨rfl, hphi, fun j hj => (merge_at hσ hj).symm, by rw [hC2.hlen, hl'], hC2.nlen, fun j hj => by rw [show c'.h = H.length from hC.hlen]; exact hρb _ (hρm j hj), fun j hj => by rw [show c'.n = n from hC.nlen]; exact hσb _ (getD_mem hj)⟩
 have hwsize : w.heap.size ≤ w'.heap.size := hC2.size
 -- the objects behind
 have hobj : ∀ q cs, (putH ρ σ ρ Hs' (killsH σ H))[q]? = some (some cs) → (∃ j ds, q = ρ.getD j 0 ∧ j < Hs.length ∧ Hs'[j]? = some (some ds) ∧ cs = renL ρ σ ds) ∨ (q ∉ ρ ∧ ∃ ds, H[q]? = some (some ds) ∧ cs = killsL σ ds) := fun q cs hq => by
  by_cases hqρ : q ∈ ρ
  ·left
   obtain ⟨j, hj, rfl⟩ := List.getElem_of_mem hqρ
   have hj2 : j < Hs'.length := by omega
   have e1 : ρ[j] = ρ.getD j 0 := by rw [List.getD_eq_getElem?_getD, List.getElem?_eq_getElem hj]; simp
   rw [e1] at hq
   rw [putH_at ρ Hs' (killsH σ H) hρ (fun r hr => by rw [killsH_length]; exact hρb r hr) j hj hj2] at hq
   cases ho : Hs'[j] with
   | none => rw [ho] at hq; simp at hq
   | some ds =>
    rw [ho] at hq
    simp at hq
    exact ⟨j, ds, e1, by omega, by rw [List.getElem?_eq_getElem hj2, ho], hq.symm⟩
  ·right
   rw [putH_other ρ Hs' _ q hqρ] at hq
   obtain ⟨ds, h1, h2⟩ := killsH_get hq
   exact ⟨hqρ, ds, h1, h2⟩
 have hlive : ∀ q cs, (putH ρ σ ρ Hs' (killsH σ H))[q]? = some (some cs) → (∃ j ds, q = ρ.getD j 0 ∧ j < Hs.length ∧ Hs'[j]? = some (some ds) ∧ c.φ q = c2.φ j) ∨ (q ∉ ρ ∧ ∃ ds, H[q]? = some (some ds)) := fun q cs hq => by
  rcases hobj q cs hq with ⟨j, ds, h1, h2, h3, _⟩ | ⟨h1, ds, h2, _⟩
  ·exact .inl ⟨j, ds, h1, h2, h3, by rw [hphi j h2, h1]⟩
  ·exact .inr ⟨h1, ds, h2⟩
 have hτc : ∀ q b, blk (c'.τ q) = some b → (∃ j, j < σ.length ∧ q = σ.getD j 0 ∧ blk (c2.τ j) = some b) ∨ (q ∉ σ ∧ blk (c.τ q) = some b) := fun q b hb => by
  by_cases hq : q ∈ σ
  ·left
   obtain ⟨j, hj, rfl⟩ := List.getElem_of_mem hq
   have e1 : σ[j] = σ.getD j 0 := by rw [List.getD_eq_getElem?_getD, List.getElem?_eq_getElem hj]; simp
   rw [e1] at hb
   exact ⟨j, hj, e1, by rw [← merge_at hσ hj]; exact hb⟩
  ·right
   rw [show c'.τ q = c.τ q from merge_other hq] at hb
   exact ⟨hq, hb⟩
 -- a block of the caller's that was not handed over is none of the callee's
 have hmineB : ∀ b, mine c1 Hs b → (B.m0 b ∨ B.w0.heap.size ≤ b) ∧ b < w.heap.size := fun b hb => by
  rcases hmine b hb with ⟨j, cs, h1, h2⟩ | ⟨j, h1, h2⟩
  ·exact ⟨h2 ▸ (hC.objM _ _ (hget j cs h1).1).1, h2 ▸ hC.objLt (hget j cs h1).1⟩
  ·exact ⟨(hC.tags _ b h2).2.2.1, (hC.tags _ b h2).1⟩
 have hcalleeB : ∀ b, (mine c1 Hs b ∨ w.heap.size ≤ b) → B.m0 b ∨ B.w0.heap.size ≤ b := fun b hb => by
  rcases hb with hb | hb
  ·exact (hmineB b hb).1
  ·exact .inr (Nat.le_trans hC.size hb)
 have hnotObj : ∀ q ds, q ∉ ρ → H[q]? = some (some ds) → ¬ mine c1 Hs (c.φ q) := fun q ds hq h1 hm => by
  rcases hmine _ hm with ⟨j, cs, h2, h3⟩ | ⟨j, h2, h3⟩
  ·have := hC.inj _ _ _ _ (hget j cs h2).1 h1 h3
   exact hq (this ▸ hρm j (List.getElem?_eq_some_iff.1 h2).1)
  ·exact (hC.tags _ _ h3).2.2.2 _ _ h1 rfl
 have hnotTag : ∀ q b, q ∉ σ → blk (c.τ q) = some b → ¬ mine c1 Hs b := fun q b hq h1 hm => by
  rcases hmine _ hm with ⟨j, cs, h2, h3⟩ | ⟨j, h2, h3⟩
  ·exact (hC.tags _ b h1).2.2.2 _ _ (hget j cs h2).1 h3
  ·exact hq (by rw [hC.tagInj q _ b h1 h3]; exact getD_mem h2)
 refine ⟨c', ?_, RepL.kills hks _ _ hE, Rep.back ht2 d v hv⟩
 refine ⟨hC2.os.trans hC.os, hC2.tape.trans hC.tape, hC2.output.trans hC.output, Nat.le_trans hC.size hwsize, fun b hb hm => ?_, fun b hb => (himm b (hC.imm0 b hb)).1, fun b hb => ?_, by rw [putH_length, killsH_length]; exact hC.hlen, hC.nlen, hC.hh, hC.phi, fun q cs hq => ?_, fun q cs hq => ?_, fun p q cs ds hp hq e => ?_, fun q b hb => ?_, fun p q b hp hq => ?_, fun q hq => ?_, hC2.glob⟩
 ·rw [hsame b (Nat.lt_of_lt_of_le hb hC.size) (fun hm2 => ?_)]
  ·exact hC.old b hb hm
  ·rcases (hmineB b hm2).1 with h1 | h1
   ·exact hm h1
   ·omega
 ·obtain ⟨h1, h2⟩ := hC2.immB b hb
  refine ⟨h1, ?_⟩
  rcases h2 with h2 | h2 | h2
  ·exact (hC.immB b h2).2
  ·rcases (hmineB b h2).1 with h3 | h3
   ·exact .inr (.inl h3)
   ·exact .inr (.inr h3)
  ·exact .inr (.inr (Nat.le_trans hC.size h2))
 ·rcases hobj q cs hq with ⟨j, ds, rfl, h2, h3, rfl⟩ | ⟨h1, ds, h2, rfl⟩
  ·obtain ⟨C, T, e, hr⟩ := hC2.objs j ds h3
   rw [hphi j h2] at e
   exact ⟨C, T, e, RepL.back ht2 ds _ hr⟩
  ·obtain ⟨C, T, e, hr⟩ := hC.objs q ds h2
   exact ⟨C, T, by
    show w'.heap[c.φ q]? = _
    rw [hsame _ (hC.objLt h2) (hnotObj q ds h1 h2)]; exact e, RepL.kills hks ds _ hr⟩
 ·rcases hlive q cs hq with ⟨j, ds, h1, h2, h3, h4⟩ | ⟨h1, ds, h2⟩
  ·obtain ⟨a1, a2⟩ := hC2.objM j ds h3
   show (_ ∨ _) ∧ ¬ c2.imm (c.φ q)
   rw [show (c'.φ q) = c2.φ j from h4, h4]
   exact ⟨hcalleeB _ a1, a2⟩
  ·refine ⟨(hC.objM q ds h2).1, fun hi => ?_⟩
   rcases (hC2.immB _ hi).2 with h3 | h3 | h3
   ·exact (hC.objM q ds h2).2 h3
   ·exact hnotObj q ds h1 h2 h3
   ·have := hC.objLt h2
    have h3' : w.heap.size ≤ c.φ q := h3
    omega
 ·have e' : c.φ p = c.φ q := e
  rcases hlive p cs hp with ⟨j, xs, h1, h2, h3, h4⟩ | ⟨h1, xs, h2⟩ <;> rcases hlive q ds hq with ⟨i, ys, g1, g2, g3, g4⟩ | ⟨g1, ys, g2⟩
  ·rw [h4, g4] at e'
   have := hC2.inj _ _ _ _ h3 g3 e'
   rw [h1, g1, this]
  ·exfalso
   have h5 := (hC2.objM j xs h3).1
   rw [← h4, e'] at h5
   rcases h5 with h5 | h5
   ·exact hnotObj q ys g1 g2 h5
   ·have := hC.objLt g2
    have h5' : w.heap.size ≤ c.φ q := h5
    omega
  ·exfalso
   have h5 := (hC2.objM i ys g3).1
   rw [← g4, ← e'] at h5
   rcases h5 with h5 | h5
   ·exact hnotObj p xs h1 h2 h5
   ·have := hC.objLt h2
    have h5' : w.heap.size ≤ c.φ p := h5
    omega
  ·exact hC.inj p q xs ys h2 g2 e'
 ·rcases hτc q b hb with ⟨j, h1, h2, h3⟩ | ⟨h1, h2⟩
  ·obtain ⟨a1, a2, a3, a4⟩ := hC2.tags j b h3
   refine ⟨a1, a2, hcalleeB b a3, fun p cs hp e => ?_⟩
   have e' : c.φ p = b := e
   rcases hlive p cs hp with ⟨i, xs, g1, g2, g3, g4⟩ | ⟨g1, xs, g2⟩
   ·exact a4 i xs g3 (by rw [← g4]; exact e')
   ·rcases a3 with a3 | a3
    ·exact hnotObj p xs g1 g2 (e' ▸ a3)
    ·have := hC.objLt g2
     have a3' : w.heap.size ≤ b := a3
     omega
  ·obtain ⟨a1, a2, a3, a4⟩ := hC.tags q b h2
   refine ⟨Nat.lt_of_lt_of_le a1 hwsize, fun hi => ?_, a3, fun p cs hp e => ?_⟩
   ·rcases (hC2.immB _ hi).2 with h3 | h3 | h3
    ·exact a2 h3
    ·exact hnotTag q b h1 h2 h3
    ·have h3' : w.heap.size ≤ b := h3
     omega
   ·have e' : c.φ p = b := e
    rcases hlive p cs hp with ⟨i, xs, g1, g2, g3, g4⟩ | ⟨g1, xs, g2⟩
    ·have h5 := (hC2.objM i xs g3).1
     rw [← g4, e'] at h5
     rcases h5 with h5 | h5
     ·exact hnotTag q b h1 h2 h5
     ·have h5' : w.heap.size ≤ b := h5
      omega
    ·exact a4 p xs g2 e'
 ·rcases hτc p b hp with ⟨j, h1, h2, h3⟩ | ⟨h1, h2⟩ <;> rcases hτc q b hq with ⟨i, g1, g2, g3⟩ | ⟨g1, g2⟩
  ·rw [h2, g2, hC2.tagInj _ _ b h3 g3]
  ·exfalso
   rcases (hC2.tags j b h3).2.2.1 with h5 | h5
   ·exact hnotTag q b g1 g2 h5
   ·have := (hC.tags q b g2).1
    have h5' : w.heap.size ≤ b := h5
    omega
  ·exfalso
   rcases (hC2.tags i b g3).2.2.1 with h5 | h5
   ·exact hnotTag p b h1 h2 h5
   ·have := (hC.tags p b h2).1
    have h5' : w.heap.size ≤ b := h5
    omega
  ·exact hC.tagInj p q b h2 g2
 ·have hq' : q ∉ σ := fun h => by have := hσb q h; omega
  rw [show c'.τ q = c.τ q from merge_other hq']
  exact hC.high q hq
end
section
variable {P : Program}
def YSpec (P : Program) (lb : Nat) (ps : List Nat) (x y : Code) (cap args : List D) (H : Hp) (n : Nat) (R : D → Hp → Prop) : Prop :=
 ∀ (r : Option Nat) (c : Cx) (w : World) (vs : List Value) (u : Value), Con (base c w H) c w H n → Rep c w (.yl lb ps x y cap) u → RepL c w args vs →
  u = .func (.yield lb) #[] #[] ∧ YieldAt (Fw r) 0 P lb vs.toArray w (fun e w' => ∃ d v H' c', R d H' ∧ e = .returned v ∧ H'.length = H.length ∧ Con (base c w H) c' w' H' n ∧ Rep c' w' d v)
def setPs : List Nat → List D → List D → List D
 | p :: ps, d :: ds, E => setPs ps ds (E.set p d)
 | _, _, E => E
theorem RepL.setAt {c : Cx} {w : World} : ∀ {E : List D} {ts : List Value} (i : Nat) {d : D} {v : Value}, RepL c w E ts → Rep c w d v → RepL c w (E.set i d) (ts.set i v)
 | [], ts, i, d, v, h, hd => by unfold RepL at *; subst h; simp
 | e :: E, ts, i, d, v, h, hd => by
  unfold RepL at h
  obtain ⟨u, us, rfl, h1, h2⟩ := h
  cases i with
  | zero => exact repL_cons hd h2
  | succ i => exact repL_cons h1 (RepL.setAt i h2 hd)
theorem setPs_rep {c : Cx} {w : World} : ∀ (ps : List Nat) (ds E : List D) (vs ts : List Value), RepL c w ds vs → RepL c w E ts → RepL c w (setPs ps ds E) ((ps.zip vs).foldl (fun (t : List Value) (q : Nat × Value) => t.set q.1 q.2) ts)
 | [], ds, E, vs, ts, hd, hE => by simpa [setPs] using hE
 | p :: ps, [], E, vs, ts, hd, hE => by
  unfold RepL at hd
  subst hd
  simpa [setPs] using hE
 | p :: ps, d :: ds, E, vs, ts, hd, hE => by
  unfold RepL at hd
  obtain ⟨v, vs', rfl, h1, h2⟩ := hd
  simp only [setPs, List.zip_cons_cons, List.foldl_cons]
  exact setPs_rep ps ds _ vs' _ h2 (hE.setAt p h1)
theorem foldl_sets : ∀ (l : List (Nat × Value)) (t : Array Value), (l.foldl (fun (t : Array Value) (q : Nat × Value) => t.setIfInBounds q.1 q.2) t).toList = l.foldl (fun (t : List Value) (q : Nat × Value) => t.set q.1 q.2) t.toList
 | [], t => rfl
 | q :: l, t => by
  rw [List.foldl_cons, List.foldl_cons, foldl_sets l]
  simp
theorem yspec_mk {T : Tab} (hT : TabOk P 0 T) {l : Nat} {ps : List Nat} {x y : Code} {cap args : List D} {H : Hp} {n : Nat} {R : D → Hp → Prop} (hps : args.length = ps.length)
  (h : layK (setPs ps args cap) fun E => awpY (some l) [] P T x (fun e E1 H1 n1 => match e with
   | .normal => noYL E1 = true ∧ noYH H1 = true ∧ awpY (some l) [] P T y (fun e E2 H2 n2 => match e with
    | .normal => noYH H2 = true ∧ Fin (.f (.v (.bool true))) H2 n2 H.length n R
    | _ => False) E1 H1 n1
   | _ => False) E H n) : YSpec P l ps x y cap args H n R := by
 intro r c w vs u hC hu ha
 unfold Rep at hu
 obtain ⟨fn, df, ts, rfl, hi, hw, hcap⟩ := hu
 refine ⟨rfl, ?_⟩
 have hlw : l < w.heap.size := (Array.getElem?_eq_some_iff.1 hw).1
 have hsz : vs.toArray.size = ps.toArray.size := by simp [ha.length, hps]
 have hy := run_yield (P := P) (args := vs.toArray) hw hsz
 refine ⟨fn, _, x, y, hy, roundIn_of_wpIn (F := Fw r) trivial ?_⟩
 have hE0 : RepL c w (setPs ps args cap) (((ps.toArray.zip vs.toArray).foldl (fun (t : Array Value) (q : Nat × Value) => t.setIfInBounds q.1 q.2) ts.toArray).toList) := by
  have e : (ps.toArray.zip vs.toArray).foldl (fun (t : Array Value) (q : Nat × Value) => t.setIfInBounds q.1 q.2) ts.toArray = (ps.zip vs).foldl (fun (t : Array Value) (q : Nat × Value) => t.setIfInBounds q.1 q.2) ts.toArray := by simp
  rw [e, foldl_sets]
  exact setPs_rep ps args cap vs ts ha hcap
 have h1 := h
 rw [layK_eq] at h1
 refine wpIn_mono (awpY_sound hT x h1 (base c w H) c w { tmps := _, defers := [] } hC hE0 rfl) ?_
 rintro e a1 w1 ⟨x', E1, H1, n1, c1, rfl, hq, hC1, hE1, hd1⟩
 cases x' with
 | exit id => exact hq.elim
 | ret => exact hq.elim
 | normal =>
  obtain ⟨hy1, hy2, hq⟩ := hq
  have hnm : ¬ mine c H l := fun hm => (hC.mineB hm).2.2 hi
  have hl1 := (hC1.old l hlw hnm).trans hw
  have hi1 : c1.imm l := hC1.imm0 l hi
  have hlw1 : l < w1.heap.size := (Array.getElem?_eq_some_iff.1 hl1).1
  refine ⟨_, run_beginRound hl1 rfl, ?_⟩
  have hC2 := hC1.self.off (o := .loop { state := .busy, pending := none, fn := fn, tmps := ts.toArray, params := ps.toArray, assign := x, body := y, defers := df }) hl1 hy2 (B' := base c1 (w1.putObj l (.loop { state := .busy, pending := none, fn := fn, tmps := ts.toArray, params := ps.toArray, assign := x, body := y, defers := df })) H1) ⟨rfl, rfl, rfl, putObj_size _ _ _⟩ ⟨rfl, rfl, rfl, rfl⟩ (fun b hb hm => rfl)
  have hE2 := RepL.off (Off.putObj hl1 (.loop { state := .busy, pending := none, fn := fn, tmps := ts.toArray, params := ps.toArray, assign := x, body := y, defers := df })) E1 _ hy1 hE1
  refine wpIn_mono (awpY_sound hT y hq _ c1 _ a1 hC2 hE2 hd1) ?_
  rintro e a2 w3 ⟨x2, E2, H2, n2, c2, rfl, hq2, hC3, hE3, hd3⟩
  cases x2 with
  | exit id => exact hq2.elim
  | ret => exact hq2.elim
  | normal =>
   obtain ⟨hy3, hfin⟩ := hq2
   have hnm1 : ¬ mine c1 H1 l := fun hm => (hC1.mineB hm).2.2 hi1
   have hl3 := (hC3.old l (by show l < (w1.putObj l _).heap.size; rw [putObj_size]; exact hlw1) hnm1).trans (World.putObj_heap_same hlw1)
   refine ⟨_, _, run_endRound none hl3, ?_⟩
   have hC4 := hC1.trans (hC3.off (o := .loop { state := .ready, pending := none, fn := fn, tmps := ts.toArray, params := ps.toArray, assign := x, body := y, defers := df }) hl3 hy3 (B' := base c1 w1 H1) ⟨rfl, rfl, rfl, (putObj_size _ _ _).symm⟩ ⟨rfl, rfl, rfl, rfl⟩ (fun b hb hm => by
    have hb2 : b < w1.heap.size := by rw [← putObj_size w1 l]; exact hb
    by_cases e : b = l
    ·subst e
     rw [World.putObj_heap_same (Array.getElem?_eq_some_iff.1 hl3).1]
     exact hl1.symm
    ·rw [World.putObj_heap_other e]
     refine (hC3.old b hb hm).trans ?_
     exact World.putObj_heap_other e))
   obtain ⟨d', H', c', g1, g2, g3, g4⟩ := hfin.out _ c2 _ (.bool true) rfl hC4 (rep_of _ rfl)
   exact ⟨d', .bool true, H', c', g1, rfl, g2, g3, g4⟩
theorem YSpec.step {lb : Nat} {ps : List Nat} {x y : Code} {cap «as» : List D} {Hs : Hp} {R : D → Hp → Prop} {E : List D} {H : Hp} {n : Nat} {K : KD} (ρ σ : List Nat) (hs : YSpec P lb ps x y cap «as» Hs σ.length R)
  (hρ : ρ.Nodup) (hσ : σ.Nodup) (hρb : ∀ r ∈ ρ, r < H.length) (hσb : ∀ k ∈ σ, k < n) (hfit : fitH ρ σ Hs.length σ.length ρ Hs H) (href : refL Hs.length σ.length (.yl lb ps x y cap :: «as»))
  (k : ∀ d Hs', R d Hs' → Hs'.length = Hs.length → K (d.ren ρ σ) (killsL σ E) (putH ρ σ ρ Hs' (killsH σ H)) n) : YStep P lb ps x y (renL ρ σ cap) (renL ρ σ «as») E H n K := by
 refine ⟨fun r B c w ts vs u hC hE hu ha => ?_⟩
 have hall : RepL c w (renL ρ σ (.yl lb ps x y cap :: «as»)) (u :: vs) := by
  unfold renL D.ren
  exact repL_cons hu ha
 obtain ⟨c1, hC1, hr1, hback⟩ := core_gen ρ σ hρ hσ hρb hσb hfit href hC hE hall
 obtain ⟨hl, fn, tmps, asg, bd, hy, hR⟩ := hs r c1 w vs u hC1 (repL_cons_iff.1 hr1).1 (repL_cons_iff.1 hr1).2
 refine ⟨hl, fn, tmps, asg, bd, hy, RoundIn.mono hR fun e w' ⟨d, v, H', c2, h1, h2, h3, h4, h5⟩ => ?_⟩
 obtain ⟨c', g1, g2, g3⟩ := hback w' d v H' c2 h3 h4 h5
 exact ⟨_, v, _, _, n, c', k d H' h1 h3, h2, g1, g2, g3⟩
end
section
variable {P : Program}
def Cx.addImm (c : Cx) (b : Nat) : Cx := { c with imm := fun x => c.imm x ∨ x = b }
theorem Con.addImm {B : Base} {c : Cx} {w : World} {H : Hp} {n b : Nat} (h : Con B c w H n) (hb : b < w.heap.size) (hB : B.w0.heap.size ≤ b) (hm : ¬ mine c H b) : Con B (c.addImm b) w H n ∧ Keep c (c.addImm b) w w none := by
 have hk : Keep c (c.addImm b) w w none := ⟨fun x hx => ⟨.inl hx, rfl⟩, Nat.le_refl _, Nat.le_refl _, fun _ _ => rfl, fun _ _ _ => ⟨rfl, fun _ _ => rfl⟩⟩
 refine ⟨⟨h.os, h.tape, h.output, h.size, h.old, fun x hx => .inl (h.imm0 x hx), fun x hx => ?_, h.hlen, h.nlen, h.hh, h.phi, fun k cs hk2 => ?_, fun k cs hk2 => ⟨(h.objM k cs hk2).1, fun hx => ?_⟩, h.inj, fun k x hx => ⟨(h.tags k x hx).1, fun hi => ?_, (h.tags k x hx).2.2⟩, h.tagInj, h.high, h.glob.keep hk.imm⟩, hk⟩
 ·rcases hx with hx | rfl
  ·exact h.immB x hx
  ·exact ⟨hb, .inr (.inr hB)⟩
 ·obtain ⟨C, T, e, hr⟩ := h.objs k cs hk2
  exact ⟨C, T, e, hr.mono hk⟩
 ·rcases hx with hx | hx
  ·exact (h.objM k cs hk2).2 hx
  ·exact hm (.inl ⟨k, cs, hk2, hx⟩)
 ·rcases hi with hi | rfl
  ·exact (h.tags k x hx).2.1 hi
  ·exact hm (.inr ⟨k, hx⟩)
structure Left (B : Base) (c : Cx) (w : World) (H : Hp) (D : Nat) : Prop where
 lt : D < w.heap.size
 new : B.w0.heap.size ≤ D
 here : w.heap[D]? = some (.deferred (some []))
 free : ¬ mine c H D
 turns : ¬ c.imm D
abbrev markOf (D : Nat) : Deferred := { target := .collected D, args := #[] }
structure RangeK (P : Program) (g : Operand) (ps : Array Tmp) (x y : Code) (E : List D) (H : Hp) (n : Nat) (K : List D → Hp → Nat → Prop) : Prop where of ::
 out : ∀ (B : Base) (c : Cx) (w : World) (a : Act), Con B c w H n → RepL c w E a.tmps.toList → a.defers = [] →
  (Code.rangeFunc g ps x y).wpIn (Fw none) 0 P (fun e a' w' => e = .normal ∧ ∃ D E' H' n' c', K E' H' n' ∧ Con B c' w' H' n' ∧ RepL c' w' E' a'.tmps.toList ∧ a'.defers = [markOf D] ∧ Left B c' w' H' D) a w
theorem range_mk {g : Operand} {ps : Array Tmp} {x y : Code} {E : List D} {H : Hp} {n : Nat} {K : List D → Hp → Nat → Prop} {gf : FuncId} {capg : List D} {«as» : Nat → List D} {Hs : Hp} {R : D → Hp → Prop} (ρ σ : List Nat) (hg : ev E g = .fn gf capg)
  (hs : ∀ l, Spec P gf («as» l) Hs σ.length R) (has : ∀ l, renL ρ σ («as» l) = .yl l ps.toList x y E :: capg)
  (hρ : ρ.Nodup) (hσ : σ.Nodup) (hρb : ∀ r ∈ ρ, r < H.length) (hσb : ∀ k ∈ σ, k < n) (hfit : fitH ρ σ Hs.length σ.length ρ Hs H) (href : ∀ l, refL Hs.length σ.length («as» l))
  (k : ∀ d Hs', R d Hs' → Hs'.length = Hs.length → noYH (putH ρ σ ρ Hs' (killsH σ H)) = true ∧ noYL (killsL σ E) = true ∧ K (killsL σ E) (putH ρ σ ρ Hs' (killsH σ H)) n) : RangeK P g ps x y E H n K := by
 refine ⟨fun B c w a hC hE hd => wpIn_rangeFunc (fun fn hfn => ?_)⟩
 have hx := rep_ev hE g
 rw [hg] at hx
 unfold Rep at hx
 obtain ⟨lb, hgv, hlb⟩ := hx
 have hb1 : Below w.heap.size w (w.alloc (.deferred (some []))) := (Below.refl _ _).alloc (Nat.le_refl _) _
 obtain ⟨rc, hrc⟩ : ∃ rc : Loop, rc = { state := .ready, pending := none, fn := fn, tmps := a.tmps, params := ps, assign := x, body := y, defers := w.heap.size } := ⟨_, rfl⟩
 obtain ⟨W1, hW1⟩ : ∃ W1, (w.alloc (.deferred (some []))).alloc (.loop rc) = W1 := ⟨_, rfl⟩
 have hb2 : Below w.heap.size w W1 := by rw [← hW1]; exact hb1.alloc (by simp) _
 have hL1 : W1.heap[w.heap.size + 1]? = some (.loop rc) := by
  rw [← hW1]
  have := World.alloc_heap_new (w.alloc (.deferred (some []))) (.loop rc)
  rwa [World.size_alloc] at this
 have hK1 : W1.heap[w.heap.size]? = some (.deferred (some [])) := by
  rw [← hW1]; exact (Below.heap_alloc _ _ _ (by simp)).trans (World.alloc_heap_new w _)
 have hsz : W1.heap.size = w.heap.size + 2 := by rw [← hW1, World.size_alloc, World.size_alloc]
 obtain ⟨hC1, hk1⟩ := hC.grow hb2
 have hnm : ∀ b, w.heap.size ≤ b → ¬ mine c H b := fun b hb hm => by
  have := (hC.mineB hm).2.1
  omega
 obtain ⟨hC2, hk2⟩ := hC1.addImm (b := w.heap.size + 1) (by omega) (by have := hC.size; omega) (hnm _ (by omega))
 have hE2 : RepL (c.addImm (w.heap.size + 1)) W1 E a.tmps.toList := (hE.mono hk1).mono hk2
 have hlb2 : RepL (c.addImm (w.heap.size + 1)) W1 capg lb := (hlb.mono hk1).mono hk2
 have hyl : Rep (c.addImm (w.heap.size + 1)) W1 (.yl (w.heap.size + 1) ps.toList x y E) (.func (.yield (w.heap.size + 1)) #[] #[]) := by
  unfold Rep
  refine ⟨fn, w.heap.size, a.tmps.toList, rfl, .inr rfl, ?_, hE2⟩
  rw [hL1, hrc]
 have hall : RepL (c.addImm (w.heap.size + 1)) W1 (renL ρ σ («as» (w.heap.size + 1))) (.func (.yield (w.heap.size + 1)) #[] #[] :: lb) := by
  rw [has]
  exact repL_cons hyl hlb2
 obtain ⟨c1, hCc, hrc1, hback⟩ := core_gen ρ σ hρ hσ hρb hσb hfit (href _) hC2.self hE2 hall
 obtain ⟨fg, hf, hnm2, hbd⟩ := (hs 0).1
 have eg : ∀ args w, (callFunc gf args).run P w = .ok (.enter gf args) w := fun args w => by
  have hn2 : fg.name ≠ "runtime.NumGoroutine" := by simpa using hnm2
  have hb2 : ¬ fg.body = none := fun e => by rw [e] at hbd; cases hbd
  simp [callFunc, hf, hn2, hb2]
 refine ⟨w.heap.size + 1, [markOf w.heap.size], W1, { target := .fn (.func gf) lb.toArray, args := #[.func (.yield (w.heap.size + 1)) #[] #[]] }, W1, gf, #[.func (.yield (w.heap.size + 1)) #[] #[]] ++ lb.toArray, W1, ?_, ?_, fun _ _ => trivial, ?_, fun h => (by cases h), ?_⟩
 ·rw [← hW1, hrc]; exact run_enterLoop_outer _ _ _ _ _
 ·simp only [resolve, hgv]
  simp [go_sem]
 ·simp [invoke, go_sem, eg]
 ·have hargs : (#[.func (.yield (w.heap.size + 1)) #[] #[]] ++ lb.toArray : Array Value) = (Value.func (.yield (w.heap.size + 1)) #[] #[] :: lb).toArray := by simp
  rw [hargs]
  refine callsFw (Calls.mono ((hs _).2 c1 W1 _ hCc hrc1) ?_)
  rintro e w3 ⟨d, v, Hs', c2, hR, rfl, hl', hCr, hv⟩
  obtain ⟨c', hC3, hE3, _⟩ := hback w3 d v Hs' c2 hl' hCr hv
  obtain ⟨n1, n2, hK⟩ := k d Hs' hR hl'
  have hC4 := hC2.trans hC3
  have hmm : ∀ b, w.heap.size ≤ b → ¬ mine (c.addImm (w.heap.size + 1)) H b := fun b hb hm => hnm b hb hm
  have hl3 : w3.heap[w.heap.size + 1]? = some (.loop rc) := (hC3.old _ (by show _ < W1.heap.size; omega) (hmm _ (by omega))).trans hL1
  have hD3 : w3.heap[w.heap.size]? = some (.deferred (some [])) := (hC3.old _ (by show _ < W1.heap.size; omega) (hmm _ (by omega))).trans hK1
  refine ⟨none, _, by have := run_endLoop (P := P) hl3 (by rw [hrc]; simp); rw [hrc] at this; exact this, rfl, w.heap.size, _, _, n, c', hK, ?_, ?_, ?_, ?_⟩
  ·refine hC4.off hl3 n1 ⟨rfl, rfl, rfl, rfl⟩ ⟨rfl, rfl, rfl, rfl⟩ (fun b hb hm => ?_)
   rw [World.putObj_heap_other (by have := hC.size; omega)]
   exact hC4.old b hb hm
  ·exact RepL.off (Off.putObj hl3 _) _ _ n2 hE3
  ·show [markOf w.heap.size] ++ a.defers = _
   rw [hd]; rfl
  ·have hsz3 : W1.heap.size ≤ w3.heap.size := hC3.size
   refine ⟨by rw [putObj_size]; omega, hC.size, by rw [World.putObj_heap_other (by omega)]; exact hD3, fun hm => ?_, fun hi => ?_⟩
   ·rcases (hC3.mineB hm).1 with h1 | h1
    ·exact hmm _ (Nat.le_refl _) h1
    ·have h1' : W1.heap.size ≤ w.heap.size := h1
     omega
   ·rcases (hC3.immB _ hi).2 with h1 | h1 | h1
    ·rcases h1 with h1 | h1
     ·have := (hC.immB _ h1).1
      omega
     ·omega
    ·exact hmm _ (Nat.le_refl _) h1
    ·have h1' : W1.heap.size ≤ w.heap.size := h1
     omega
theorem Left.run {B : Base} {c c' : Cx} {w w' : World} {H H' : Hp} {n' D : Nat} (h : Left B c w H D) (h2 : Con (base c w H) c' w' H' n') : Left B c' w' H' D := by
 refine ⟨Nat.lt_of_lt_of_le h.lt h2.size, h.new, (h2.old D h.lt h.free).trans h.here, fun hm => ?_, fun hi => ?_⟩
 ·rcases (h2.mineB hm).1 with h3 | h3
  ·exact h.free h3
  ·have h3' : w.heap.size ≤ D := h3
   have := h.lt
   omega
 ·rcases (h2.immB D hi).2 with h3 | h3 | h3
  ·exact h.turns h3
  ·exact h.free h3
  ·have h3' : w.heap.size ≤ D := h3
   have := h.lt
   omega
def rangeOf : Code → Option (Code × Nat × Operand × Array Tmp × Code × Code)
 | .seq a (.block id (.rangeFunc g ps x y)) => some (a, id, g, ps, x, y)
 | _ => none
noncomputable def awpM (P : Program) (T : Tab) : Code → (X → List D → Hp → Nat → Prop) → List D → Hp → Nat → Prop
 | .seq a b, Q, E, H, n => match rangeOf a with
  | some (a', id, g, ps, x, y) => awpY none [] P T a' (fun e E H n => match e with
   | .normal => RangeK P g ps x y E H n (fun E' H' n' => ∀ D, awpY none [markOf D] P T b (fun x E H n => noYL E = true ∧ noYH H = true ∧ Q x E H n) E' H' n')
   | _ => False) E H n
  | none => awpY none [] P T a (fun e E H n => match e with
   | .normal => awpM P T b Q E H n
   | _ => False) E H n
 | _, _, _, _, _ => False
theorem rangeOf_is {a a' : Code} {id : Nat} {g : Operand} {ps : Array Tmp} {x y : Code} (h : rangeOf a = some (a', id, g, ps, x, y)) : a = .seq a' (.block id (.rangeFunc g ps x y)) := by
 unfold rangeOf at h
 split at h
 ·cases h; rfl
 ·cases h
def PostM (B : Base) (Q : X → List D → Hp → Nat → Prop) (e : Exit) (a : Act) (w : World) : Prop :=
 ∃ x E H n c D, e = conv x ∧ Q x E H n ∧ noYL E = true ∧ noYH H = true ∧ Con B c w H n ∧ RepL c w E a.tmps.toList ∧ a.defers = [markOf D] ∧ Left B c w H D
theorem awpM_sound {T : Tab} (hT : TabOk P 0 T) : ∀ (k : Code) {Q : X → List D → Hp → Nat → Prop} {E : List D} {H : Hp} {n : Nat}, awpM P T k Q E H n → ∀ (B : Base) (c : Cx) (w : World) (a : Act), Con B c w H n → RepL c w E a.tmps.toList → a.defers = [] → k.wpIn (Fw none) 0 P (PostM B Q) a w := by
 intro k
 induction k with
 | seq p q ihp ihq =>
  intro Q E H n h B c w a hC hE hd
  unfold awpM at h
  split at h
  ·rename_i a' id g ps x y hr
   rw [rangeOf_is hr]
   refine wpIn_seq (wpIn_seq (wpIn_mono (awpY_sound hT a' h B c w a hC hE hd) ?_))
   rintro e a1 w1 ⟨x1, E1, H1, n1, c1, rfl, h1, hC1, hE1, hd1⟩
   cases x1 with
   | exit id => exact h1.elim
   | ret => exact h1.elim
   | normal =>
    refine wpIn_block (wpIn_mono (h1.out B c1 w1 a1 hC1 hE1 hd1) ?_)
    rintro e a2 w2 ⟨rfl, D, E2, H2, n2, c2, h2, hC2, hE2, hd2, hL⟩
    refine wpIn_mono (awpY_sound hT q (h2 D) _ c2 w2 a2 hC2.self hE2 hd2) ?_
    rintro e a3 w3 ⟨x3, E3, H3, n3, c3, rfl, ⟨h3, h4, h5⟩, hC3, hE3, hd3⟩
    exact ⟨x3, E3, H3, n3, c3, D, rfl, h5, h3, h4, hC2.trans hC3, hE3, hd3, hL.run hC3⟩
  ·refine wpIn_seq (wpIn_mono (awpY_sound hT p h B c w a hC hE hd) ?_)
   rintro e a1 w1 ⟨x1, E1, H1, n1, c1, rfl, h1, hC1, hE1, hd1⟩
   cases x1 with
   | exit id => exact h1.elim
   | ret => exact h1.elim
   | normal => exact ihq h1 B c1 w1 a1 hC1 hE1 hd1
 | _ => intro Q E H n h; unfold awpM at h; exact h.elim
theorem ends_fin {T : Tab} (hT : TabOk P 0 T) {fn : Func} {B : Base} {c : Cx} {w : World} {H : Hp} {n h0 n0 : Nat} {E : List D} {ts : Array Value} {R : D → Hp → Prop} (h1 : retK T fn.results.toList E H fun ds => oneK ds fun d => Fin d H n h0 n0 R) (h2 : Con B c w H n) (hB : B.h0 = h0) (h3 : RepL c w E ts.toList) :
  ∃ v, (results fn ts).run P w = .ok v w ∧ ∃ d' H'' c'', R d' H'' ∧ H''.length = h0 ∧ Con B c'' w H'' n0 ∧ Rep c'' w d' v := by
 obtain ⟨ds, us, h5, h6, h7⟩ := retK_sound hT h2 h3 _ _ h1
 have hres : (results fn ts).run P w = .ok (if h : us.toArray.size = 1 then us.toArray[0] else .tuple us.toArray) w := by
  rw [results_eq, Sem.run_bind, Array.mapM_eq_mapM_toList]
  simp only [Sem.run_map, h7, Result.andThen_ok, Sem.run_pure]
 have hrep : ∃ d, Fin d H n h0 n0 R ∧ Rep c w d (if h : us.toArray.size = 1 then us.toArray[0] else .tuple us.toArray) := by
  by_cases h1 : ∃ d, ds = [d]
  ·obtain ⟨d, rfl⟩ := h1
   unfold RepL at h6
   obtain ⟨v, vs', rfl, h8, h9⟩ := h6
   unfold RepL at h9
   subst h9
   exact ⟨d, h5, by simpa using h8⟩
  ·have hl := h6.length
   have h5' : Fin (.tup ds) H n h0 n0 R := by
    unfold oneK at h5
    split at h5
    ·exact absurd ⟨_, rfl⟩ h1
    ·exact h5
   rw [dif_neg]
   ·exact ⟨_, h5', by unfold Rep; exact ⟨us, rfl, h6⟩⟩
   ·intro h2
    have : us.length = 1 := by simpa using h2
    rw [hl] at this
    obtain ⟨d, rfl⟩ : ∃ d, ds = [d] := by
     cases ds with
     | nil => simp at this
     | cons d r => cases r with
      | nil => exact ⟨d, rfl⟩
      | cons _ _ => simp at this
    exact h1 ⟨d, rfl⟩
 obtain ⟨d, hF, hd⟩ := hrep
 obtain ⟨d', H'', c'', g1, g2, g3, g4⟩ := hF.out _ c w _ hB h2 hd
 exact ⟨_, hres, d', H'', c'', g1, g2, g3, g4⟩
theorem spec_mkM {T : Tab} (hT : TabOk P 0 T) {g : FuncId} {fn : Func} {k : Code} {args : List D} {H : Hp} {n : Nat} {R : D → Hp → Prop} (hf : P.funcs[g]? = some fn) (hnm : (fn.name == "runtime.NumGoroutine") = false) (hb : fn.body = some k)
  (h : layK (padK args fn.ntmps) fun E => awpM P T k (Ends T fn.results.toList H.length n R) E H n) : Spec P g args H n R := by
 rw [layK_eq] at h
 refine ⟨⟨fn, hf, hnm, by rw [hb]; rfl⟩, fun c w vs hC hr => ?_⟩
 refine callsIn_wide.1 (callsIn_of_wp_marks (F := Fence.wide) (n := 0) hf hb trivial ?_)
 have hE : RepL c w (padK args fn.ntmps) (vs.toArray ++ Array.replicate (fn.ntmps - vs.toArray.size) undef).toList := by
  rw [padK_eq]
  simp only [Array.toList_append, Array.toList_replicate, List.size_toArray]
  rw [hr.length]
  refine hr.append ?_
  have := repL_junk (c := c) (w := w) (List.replicate (fn.ntmps - args.length) undef)
  simpa using this
 refine wpIn_mono (awpM_sound hT k h _ c w _ hC hE rfl) ?_
 rintro e a w' ⟨x, E', H', n', c', D, rfl, h1, hy1, hy2, hC', hE', hd, hL⟩
 have hof : Off w' (w'.putObj D (.deferred none)) D := ⟨fun C T z e => (by rw [hL.here] at e; cases e), fun b hb => World.putObj_heap_other hb⟩
 have hC2 : Con (base c w H) c' (w'.putObj D (.deferred none)) H' n' := hC'.offG hof (tabP_mono (fun b hb => World.putObj_heap_other (fun e => hL.turns (e ▸ hC'.glob.imm b hb))) hC'.glob.tab) hy2 ⟨rfl, rfl, rfl, rfl⟩ ⟨rfl, rfl, rfl, rfl⟩ (fun b hb hm => by
  have hn : w.heap.size ≤ D := hL.new
  have hb' : b < w.heap.size := hb
  rw [World.putObj_heap_other (by omega)]
  exact hC'.old b hb hm)
 have hE2 := RepL.off hof E' _ hy1 hE'
 have fin : (retK T fn.results.toList E' H' fun ds => oneK ds fun d => Fin d H' n' H.length n R) → LeavesInM Fence.wide 0 P fn a.tmps (fun e w' => ∃ d v H' c', R d H' ∧ e = .returned v ∧ H'.length = H.length ∧ Con (base c w H) c' w' H' n ∧ Rep c' w' d v) a.defers .returning w' := fun h1 => by
  obtain ⟨v, g1, d', H'', c'', g2, g3, g4, g5⟩ := ends_fin hT h1 hC2 rfl hE2
  rw [hd]
  exact ⟨by simp, .inl ⟨D, _, rfl, run_takeDeferred hL.here, v, g1, d', v, H'', c'', g2, rfl, g3, g4, g5⟩⟩
 cases x with
 | normal => exact fin h1
 | exit id => exact h1.elim
 | ret => exact fin h1
theorem spec_mkY {T : Tab} (hT : TabOk P 0 T) {g : FuncId} {fn : Func} {k : Code} {args : List D} {H : Hp} {n : Nat} {R : D → Hp → Prop} (hf : P.funcs[g]? = some fn) (hnm : (fn.name == "runtime.NumGoroutine") = false) (hb : fn.body = some k)
  (h : layK (padK args fn.ntmps) fun E => awpY none [] P T k (Ends T fn.results.toList H.length n R) E H n) : Spec P g args H n R := by
 rw [layK_eq] at h
 exact spec_sem hT hf hnm hb fun B c w a hC hE hd => wpIn_wide.1 (wpIn_mono (awpY_sound hT k h B c w a hC hE hd) fun e a w h => h)
end
end Go.Proofs.YtlhegfkpgchaeaaGreatDoor.Aw
