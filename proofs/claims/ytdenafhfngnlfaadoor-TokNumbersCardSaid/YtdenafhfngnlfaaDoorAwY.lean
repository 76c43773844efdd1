/- Ranges over functions: walks in a round, and calls of yield. -/
import Derived.Test.YtdenafhfngnlfaaDoorAwT
import Derived.RangeFuncFrom
import Derived.RangeFuncLeaves
import Derived.RangeFuncCalls
import Derived.TacticsIn
import Derived.OrdersIn
namespace Go.Proofs.YtdenafhfngnlfaaDoor.Aw
open Go Go.RowKit Go.Lib
set_option linter.unusedVariables false
set_option linter.unusedSimpArgs false
section
variable {P : Program}
/-- Every function, any depth; in a round, or in none. -/
def Fw (r : Option Nat) : Fence := { Fence.wide with round := r }
def PostY (ds : List Deferred) (B : Base) (Q : X → List D → Hp → Nat → Prop) (e : Exit) (a : Act) (w : World) : Prop :=
  ∃ x E H n c, e = conv x ∧ Q x E H n ∧ Con B c w H n ∧ RepL c w E a.tmps.toList ∧ a.defers = ds
def CSemY (r : Option Nat) (ds : List Deferred) (P : Program) (k : Code) (Q : X → List D → Hp → Nat → Prop) (E : List D) (H : Hp) (n : Nat) : Prop :=
  ∀ (B : Base) (c : Cx) (w : World) (a : Act), Con B c w H n → RepL c w E a.tmps.toList → a.defers = ds → k.wpIn (Fw r) 0 P (PostY ds B Q) a w
structure StepY (r : Option Nat) (ds : List Deferred) (P : Program) (k : Code) (Q : X → List D → Hp → Nat → Prop) (E : List D) (H : Hp) (n : Nat) : Prop where of ::
  out : CSemY r ds P k Q E H n
/-- A call of yield: the state that it is made in, what is said behind it. -/
structure YStep (P : Program) (ps : List Nat) (x y : Code) (cap args : List D) (E : List D) (H : Hp) (n : Nat) (K : KD) : Prop where of ::
  out : ∀ (r : Option Nat) (B : Base) (c : Cx) (w : World) (ts vs : List Value) (u : Value), Con B c w H n → RepL c w E ts → Rep c w (.yl ps x y cap) u → RepL c w args vs →
    ∃ l, u = .func (.yield l) #[] #[] ∧ YieldAt (Fw r) 0 P l vs.toArray w (fun e w' => ∃ d v E' H' n' c', K d E' H' n' ∧ e = .returned v ∧ Con B c' w' H' n' ∧ RepL c' w' E' ts ∧ Rep c' w' d v)
def opY (P : Program) (T : Tab) (o : Oper) (E : List D) (H : Hp) (n : Nat) (K : KD) : Prop :=
  match o.op with
  | .call c => (match c.callee with
    | .value f => (match ev E f with
      | .yl ps x y cap => evs E c.args.toList fun l => YStep P ps x y cap l E H n K
      | _ => opD P T o E H n K)
    | _ => opD P T o E H n K)
  | _ => opD P T o E H n K
def stepDY (P : Program) (T : Tab) (all : List Oper) (o : Oper) (k : List D → Hp → Nat → Prop) (E : List D) (H : Hp) (n : Nat) : Prop :=
  match o.guard with
    | none => opY P T o E H n (fun d E H n => putK E o.dst d (fun E => k E H n))
    | some (j, want) =>
      match slotOf all j with
      | some i => match E.getD i .junk with
        | .f (.v (.bool t)) =>
          bif want then Case t (opY P T o E H n (fun d E H n => putK E o.dst d (fun E => k E H n))) (putK E o.dst (.tup []) (fun E => k E H n))
          else Case t (putK E o.dst (.tup []) (fun E => k E H n)) (opY P T o E H n (fun d E H n => putK E o.dst d (fun E => k E H n)))
        | .tup [] => putK E o.dst (.tup []) (fun E => k E H n)
        | _ => False
      | none => False
noncomputable def opsDY (P : Program) (T : Tab) (all : List Oper) (l : List Oper) (E : List D) (H : Hp) (n : Nat) (K : List D → Hp → Nat → Prop) : Prop :=
  List.rec (motive := fun _ => List D → Hp → Nat → Prop) K (fun o _ k => stepDY P T all o k) l E H n
theorem opsDY_cons {P : Program} {T : Tab} {all : List Oper} {o : Oper} {rest : List Oper} {E : List D} {H : Hp} {n : Nat} {K : List D → Hp → Nat → Prop} : opsDY P T all (o :: rest) E H n K = stepDY P T all o (fun E H n => opsDY P T all rest E H n K) E H n := rfl
noncomputable def awpY (r : Option Nat) (ds : List Deferred) (P : Program) (T : Tab) : Code → (X → List D → Hp → Nat → Prop) → List D → Hp → Nat → Prop
  | .skip, Q, E, H, n => Q .normal E H n
  | .region id ops d, Q, E, H, n => bif d then StepY r ds P (.region id ops true) Q E H n else opsDY P T ops.toList ops.toList E H n (Q .normal)
  | .seq a b, Q, E, H, n => awpY r ds P T a (fun e E H n => match e with
      | .normal => awpY r ds P T b Q E H n
      | e => Q e E H n) E H n
  | .cond c x y, Q, E, H, n => match ev E c with
      | .f (.v (.bool t)) => Case t (awpY r ds P T x Q E H n) (awpY r ds P T y Q E H n)
      | _ => False
  | .block id c, Q, E, H, n => awpY r ds P T c (fun e E H n => match e with
      | .exit j => bif Nat.beq j id then Q .normal E H n else Q (.exit j) E H n
      | e => Q e E H n) E H n
  | .exit id, Q, E, H, n => Q (.exit id) E H n
  | .ret, Q, E, H, n => Q .ret E H n
  | k, Q, E, H, n => StepY r ds P k Q E H n
theorem callsFw {r : Option Nat} {m : Nat} {f : FuncId} {args : Array Value} {w : World} {R : Ending → World → Prop} (h : Calls P f args w R) : CallsIn (Fw r) m P f args w R := by
  cases r with
  | none => exact callsIn_wide.2 h
  | some l => exact CallsIn.inRound l (callsIn_wide.2 h)
theorem rowsFw {r : Option Nat} {m : Nat} {row : String} {args : Array Value} {w : World} {R : Value → World → Prop} (h : Rows P row args w R) : RowsIn (Fw r) m P row args w R := by
  have h1 : RowsIn Fence.wide m P row args w R := fun c cs _ => let ⟨v, w', r, s⟩ := h c cs; ⟨v, w', r, stepsIn_wide.2 s⟩
  cases r with
  | none => exact h1
  | some l => exact h1
theorem put_with {a : Act} {dst : Option Nat} {v : Value} {ds : List Deferred} : a.put dst v = { ({ a with defers := ds } : Act).put dst v with defers := a.defers } := by cases dst <;> rfl
/-- What an operation does, in a round too, and whatever stands to be done at the end. -/
theorem wpIn_of_op {r : Option Nat} {o : Oper} {a : Act} {w : World} {Z : Value → World → Prop} {Q : Exit → Act → World → Prop}
    (h : o.wp P { a with defers := [] } w (fun a' w' => ∃ v, a' = ({ a with defers := [] } : Act).put o.dst v ∧ Z v w') (fun _ _ _ => False)) :
    o.wpIn (Fw r) 0 P a w (fun a' w' => ∃ v, a' = a.put o.dst v ∧ Z v w') Q := by
  have hev : ({ a with defers := [] } : Act).eval = a.eval := by funext x; cases x <;> rfl
  unfold Oper.wp at h
  rw [hev] at h
  refine ⟨fun _ _ => trivial, ?_⟩
  have move : ∀ {v : Value} {w' : World}, (∃ v', ({ a with defers := [] } : Act).put o.dst v = ({ a with defers := [] } : Act).put o.dst v' ∧ Z v' w') → ∃ v', a.put o.dst v = a.put o.dst v' ∧ Z v' w' := by
    rintro v w' ⟨v', e, hz⟩
    exact ⟨v', by rw [put_with (a := a) (ds := []), e, ← put_with], hz⟩
  have hs : (o.semAt (Fw r).round a.eval).run P w = (execOp a.eval o).run P w := by
    by_cases hd : ∃ c, o.op = .defer c
    · exfalso
      obtain ⟨c, hc⟩ := hd
      simp only [execOp, hc, Sem.run_bind] at h
      generalize (resolve a.eval c o.type).run P w = z at h
      cases z with
      | ok d w' =>
        simp only [Result.andThen, Sem.run_pure, Oper.upon] at h
        obtain ⟨v, e, _⟩ := h
        have := congrArg Act.defers e
        rw [put_defers, put_defers] at this
        cases this
      | halt x w' => cases x <;> simp [Result.andThen, Oper.upon] at h
    · rw [Oper.semAt_eq _ _ _ (fun c hc => hd ⟨c, hc⟩)]
  rw [hs]
  generalize (execOp a.eval o).run P w = z at h
  cases z with
  | ok nx w' =>
    cases nx with
    | value v => exact move h
    | skip => exact move h
    | defer d =>
      obtain ⟨v, e, _⟩ := h
      have := congrArg Act.defers e
      rw [put_defers, put_defers] at this
      cases this
    | enter f args =>
      refine ⟨fun h => (by cases h), callsFw (Calls.mono h fun e w'' he => ?_)⟩
      cases e with
      | returned v => exact move he
      | panicked c => exact he.elim
      | outgrown => obtain ⟨_, _, he⟩ := he; exact he.elim
    | row rw args => exact ⟨fun h => (by cases h), rowsFw (Rows.mono h fun v w'' he => move he)⟩
    | _ => exact h.elim
  | halt x w' => cases x <;> first | exact h.elim | (simp only [Oper.upon] at h)
theorem opY_sound {T : Tab} (hT : TabOk P 0 T) {o : Oper} {E : List D} {H : Hp} {n : Nat} {K : KD} (h : opY P T o E H n K) {r : Option Nat} {B : Base} {c : Cx} {w : World} {a : Act} (hC : Con B c w H n) (hE : RepL c w E a.tmps.toList) {Q : Exit → Act → World → Prop} :
    o.wpIn (Fw r) 0 P a w (fun a' w' => ∃ v, a' = a.put o.dst v ∧ ∃ d E' H' n' c', K d E' H' n' ∧ Con B c' w' H' n' ∧ RepL c' w' E' a.tmps.toList ∧ Rep c' w' d v) Q := by
  have old : opD P T o E H n K → o.wpIn (Fw r) 0 P a w (fun a' w' => ∃ v, a' = a.put o.dst v ∧ ∃ d E' H' n' c', K d E' H' n' ∧ Con B c' w' H' n' ∧ RepL c' w' E' a.tmps.toList ∧ Rep c' w' d v) Q := fun h => by
    refine wpIn_of_op ?_
    refine Oper.wp_mono ?_ (opD_sound hT h B c w { a with defers := [] } hC hE rfl)
    rintro a' w' ⟨d, v, E', H', n', c', h2, rfl, h3, h4, h5⟩
    exact ⟨v, rfl, d, E', H', n', c', h2, h3, h4, h5⟩
  unfold opY at h
  split at h
  · rename_i q ho
    split at h
    · rename_i f hf
      split at h
      · rename_i ps x y cap ef
        rw [evs_eq] at h
        have hx := rep_ev hE f
        rw [ef] at hx
        obtain ⟨l, hu, fn, tmps, asg, bd, hy, hR⟩ := h.out r B c w a.tmps.toList (q.args.toList.map a.eval) (a.eval f) hC hE hx (repL_evs hE _)
        refine ⟨fun _ _ => trivial, ?_⟩
        have hs : (o.semAt (Fw r).round a.eval).run P w = .ok (.round l fn tmps asg bd) w := by
          rw [Oper.semAt_eq _ _ _ (fun c hc => by rw [ho] at hc; cases hc)]
          have e1 : (q.args.toList.map a.eval).toArray = q.args.map a.eval := by apply Array.ext'; simp
          rw [e1] at hy
          obtain ⟨callee, args, argTypes⟩ := q
          simp only at hf hy
          subst hf
          simp [execOp, ho, resolve, hu, Deferred.ofValue, invoke, hy]
        rw [hs]
        refine ⟨fun h => (by cases h), RoundIn.mono hR fun e w' he => ?_⟩
        obtain ⟨d, v, E', H', n', c', h1, rfl, h2, h3, h4⟩ := he
        exact ⟨v, rfl, d, E', H', n', c', h1, h2, h3, h4⟩
      · exact old h
    · exact old h
  · exact old h
theorem opsDY_sound {T : Tab} (hT : TabOk P 0 T) {r : Option Nat} {ds : List Deferred} {all : Array Oper} {B : Base} {Q : X → List D → Hp → Nat → Prop} {K : List D → Hp → Nat → Prop} (hK : ∀ E H n, K E H n → Q .normal E H n) : ∀ (l : List Oper) (E : List D) (H : Hp) (n : Nat) (c : Cx) (w : World) (a : Act),
    opsDY P T all.toList l E H n K → Con B c w H n → RepL c w E a.tmps.toList → a.defers = ds → wpListIn (Fw r) 0 P all (PostY ds B Q) l a w
  | [], E, H, n, c, w, a, h, hC, hE, hd => wpListIn_nil ⟨.normal, E, H, n, c, rfl, hK _ _ _ h, hC, hE, hd⟩
  | o :: rest, E, H, n, c, w, a, h, hC, hE, hd => by
    have go : opY P T o E H n (fun d E H n => putK E o.dst d (fun E => opsDY P T all.toList rest E H n K)) → o.wpIn (Fw r) 0 P a w (wpListIn (Fw r) 0 P all (PostY ds B Q) rest) (PostY ds B Q) := fun h => by
      refine Oper.wpIn_mono ?_ (opY_sound hT h hC hE)
      rintro a' w' ⟨v, rfl, d, E', H', n', c', h2, h3, h4, h5⟩
      obtain ⟨E2, h6, h7⟩ := repL_put h4 h5 o.dst h2
      exact opsDY_sound hT hK rest E2 H' n' c' w' _ h6 h3 h7 (by rw [put_defers]; exact hd)
    have skip : putK E o.dst (.tup []) (fun E => opsDY P T all.toList rest E H n K) → wpListIn (Fw r) 0 P all (PostY ds B Q) rest (a.put o.dst undef) w := fun h => by
      obtain ⟨E2, h6, h7⟩ := repL_put hE rep_undef o.dst h
      exact opsDY_sound hT hK rest E2 H n c w _ h6 hC h7 (by rw [put_defers]; exact hd)
    rw [opsDY_cons] at h
    unfold stepDY at h
    unfold wpListIn
    split at h
    · rename_i hg
      rw [if_pos (by simp [Region.wanted, hg])]
      exact go h
    · rename_i j want hg
      split at h
      · rename_i i hs
        split at h
        · rename_i t he
          have hy := yielded_of hE hs he
          cases want with
          | true =>
            simp only [cond_true] at h
            replace h := Case.open h
            rcases h with ⟨rfl, h⟩ | ⟨rfl, h⟩
            · rw [if_pos (by simp [Region.wanted, hg, hy])]
              exact go h
            · rw [if_neg (by simp [Region.wanted, hg, hy])]
              exact ⟨fun _ _ => trivial, skip h⟩
          | false =>
            simp only [cond_false] at h
            replace h := Case.open h
            rcases h with ⟨rfl, h⟩ | ⟨rfl, h⟩
            · rw [if_neg (by simp [Region.wanted, hg, hy])]
              exact ⟨fun _ _ => trivial, skip h⟩
            · rw [if_pos (by simp [Region.wanted, hg, hy])]
              exact go h
        · rename_i he
          have hy := yielded_undef hE hs he
          rw [if_neg (by simp [Region.wanted, hg, hy])]
          exact ⟨fun _ _ => trivial, skip h⟩
        · exact h.elim
      · exact h.elim
theorem awpY_sound {T : Tab} (hT : TabOk P 0 T) {r : Option Nat} {ds : List Deferred} : ∀ (k : Code) {Q : X → List D → Hp → Nat → Prop} {E : List D} {H : Hp} {n : Nat}, awpY r ds P T k Q E H n → CSemY r ds P k Q E H n := by
  intro k
  induction k with
  | skip => intro Q E H n h B c w a hC hE hd; exact wpIn_skip ⟨.normal, E, H, n, c, rfl, h, hC, hE, hd⟩
  | region id ops d =>
    intro Q E H n h
    unfold awpY at h
    cases d with
    | true => exact h.out
    | false =>
      intro B c w a hC hE hd
      exact wpIn_region_list (opsDY_sound hT (fun _ _ _ h => h) _ E H n c w a h hC hE hd)
  | seq x y ihx ihy =>
    intro Q E H n h B c w a hC hE hd
    unfold awpY at h
    refine wpIn_seq (wpIn_mono (ihx h B c w a hC hE hd) ?_)
    rintro e a' w' ⟨x', E', H', n', c', rfl, h1, h2, h3, h4⟩
    cases x' with
    | normal => exact ihy h1 B c' w' a' h2 h3 h4
    | exit id => exact ⟨.exit id, E', H', n', c', rfl, h1, h2, h3, h4⟩
    | ret => exact ⟨.ret, E', H', n', c', rfl, h1, h2, h3, h4⟩
  | cond q x y ihx ihy =>
    intro Q E H n h B c w a hC hE hd
    unfold awpY at h
    split at h
    · rename_i t et
      have hq := rep_ev hE q
      rw [et] at hq
      have hq := rep_v hq
      replace h := Case.open h
      rcases h with ⟨rfl, h⟩ | ⟨rfl, h⟩
      · exact wpIn_cond_true hq (ihx h B c w a hC hE hd)
      · exact wpIn_cond_false hq (ihy h B c w a hC hE hd)
    · exact h.elim
  | block id k ih =>
    intro Q E H n h B c w a hC hE hd
    unfold awpY at h
    refine wpIn_block (wpIn_mono (ih h B c w a hC hE hd) ?_)
    rintro e a' w' ⟨x', E', H', n', c', rfl, h1, h2, h3, h4⟩
    cases x' with
    | normal => exact ⟨.normal, E', H', n', c', rfl, h1, h2, h3, h4⟩
    | exit j =>
      simp only at h1
      show (if j = id then _ else _)
      cases hb : Nat.beq j id with
      | true =>
        rw [hb] at h1
        rw [if_pos (beq_eq hb)]
        exact ⟨.normal, E', H', n', c', rfl, h1, h2, h3, h4⟩
      | false =>
        rw [hb] at h1
        rw [if_neg (fun e => by subst e; have : Nat.beq j j = true := by simp
                                rw [this] at hb; cases hb)]
        exact ⟨.exit j, E', H', n', c', rfl, h1, h2, h3, h4⟩
    | ret => exact ⟨.ret, E', H', n', c', rfl, h1, h2, h3, h4⟩
  | exit id => intro Q E H n h B c w a hC hE hd; exact wpIn_exit ⟨.exit id, E, H, n, c, rfl, h, hC, hE, hd⟩
  | ret => intro Q E H n h B c w a hC hE hd; exact wpIn_ret ⟨.ret, E, H, n, c, rfl, h, hC, hE, hd⟩
  | _ => intro Q E H n h; exact h.out
theorem wpIn_loop_ghost {F : Fence} {m : Nat} {c : Code} {Q : Exit → Act → World → Prop} (G : Nat → Act → World → Prop) (i : Nat) {a : Act} {w : World} (h₀ : G i a w)
    (round : ∀ i a w, G i a w → c.wpIn F m P (Exit.then (fun a' w' => ∃ j, j < i ∧ G j a' w') Q) a w) : (Code.loop c).wpIn F m P Q a w := by
  intro b k cs hro hb hr
  have key : ∀ j a w, G j a w →
      ∃ e a' w', Q e a' w' ∧ ArrivesIn (Machine.fenced P F) P (lone (b.atR a (.code c :: .inLoop c :: k)) cs w) b k cs e a' w' := by
    intro j
    induction j using Nat.strongRecOn with
    | _ j ih =>
      intro a w hI
      obtain ⟨e, a₁, w₁, hq, harr⟩ := round j a w hI b (.inLoop c :: k) cs hro hb hr
      cases e with
      | normal =>
        obtain ⟨j', hlt, hI₁⟩ := hq
        obtain ⟨e₂, a₂, w₂, hq₂, harr₂⟩ := ih j' hlt a₁ w₁ hI₁
        exact ⟨e₂, a₂, w₂, hq₂, .of_steps (StepsIn.trans harr (.one (fenced_calm hb hr rfl) stepR_inLoop)) harr₂⟩
      | exit id => exact ⟨_, a₁, w₁, hq, .pass (x := .inLoop c) rfl (fun _ _ => .inl (by simp)) harr⟩
      | goto l => exact ⟨_, a₁, w₁, hq, .pass (x := .inLoop c) rfl (fun _ _ => .inl (by simp)) harr⟩
      | ret => exact ⟨_, a₁, w₁, hq, .pass (x := .inLoop c) rfl (fun _ _ => .inl (by simp)) harr⟩
      | panic ch => exact ⟨_, a₁, w₁, hq, .pass (x := .inLoop c) rfl (fun _ _ => .inl (by simp)) harr⟩
      | outgrown => exact ⟨_, a₁, w₁, hq, .pass (x := .inLoop c) rfl (fun _ _ => .inl (by simp)) harr⟩
  obtain ⟨e, a', w', hq, harr⟩ := key i a w h₀
  exact ⟨e, a', w', hq, .of_steps (.one (fenced_calm hb hr rfl) stepR_loop) harr⟩
theorem step_loopY {T : Tab} (hT : TabOk P 0 T) {r : Option Nat} {ds : List Deferred} {k : Code} {Q : X → List D → Hp → Nat → Prop} {E : List D} {H : Hp} {n : Nat} {α : Type} (pat : α → List D) (hp : α → Hp) (n1 : Nat) (I : α → Prop) (μ : α → Nat) (a0 : α)
    (h0 : I a0) (hlen : ∀ a, (hp a).length = H.length) (hinto : Into E H n (pat a0) (hp a0) n1)
    (round : ∀ a, I a → layK (pat a) fun E => awpY r ds P T k (fun x E' H' n' => match x with
      | .normal => ∃ a', I a' ∧ μ a' < μ a ∧ Into E' H' n' (pat a') (hp a') n1
      | x => Q x E' H' n') E (hp a) n1) : StepY r ds P (.loop k) Q E H n := by
  refine ⟨fun B c w a hC hE hd => ?_⟩
  have hB : B.h0 ≤ H.length := by rw [← hC.hlen]; exact hC.hh
  obtain ⟨hC1, hE1⟩ := hC.into (by rw [hlen]; exact hB) hinto hE
  refine wpIn_loop_ghost (fun m a w => ∃ x c, μ x = m ∧ I x ∧ Con B c w (hp x) n1 ∧ RepL c w (pat x) a.tmps.toList ∧ a.defers = ds) (μ a0) ⟨a0, _, rfl, h0, hC1, hE1, hd⟩ ?_
  rintro m a w ⟨x, c, rfl, hI, hC, hE, hd⟩
  have hr := round x hI
  rw [layK_eq] at hr
  refine wpIn_mono (awpY_sound hT k hr B c w a hC hE hd) ?_
  rintro e a' w' ⟨x', E', H', n', c', rfl, h1, h2, h3, h4⟩
  cases x' with
  | normal =>
    obtain ⟨a2, g1, g2, g3⟩ := h1
    obtain ⟨hC2, hE2⟩ := h2.into (by rw [hlen]; exact hB) g3 h3
    exact ⟨_, g2, a2, _, rfl, g1, hC2, hE2, h4⟩
  | exit id => exact ⟨.exit id, E', H', n', c', rfl, h1, h2, h3, h4⟩
  | ret => exact ⟨.ret, E', H', n', c', rfl, h1, h2, h3, h4⟩
/-- What is walked as it always was, outside of rounds. -/
theorem StepY.plain {k : Code} {Q : X → List D → Hp → Nat → Prop} {E : List D} {H : Hp} {n : Nat} (h : Step P k Q E H n) : StepY none [] P k Q E H n :=
  ⟨fun B c w a hC hE hd => wpIn_wide.2 (wp_mono (h.open B c w a hC hE hd) fun e a' w' h => h)⟩
end
end Go.Proofs.YtdenafhfngnlfaaDoor.Aw
