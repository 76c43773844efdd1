/- Regions that draw their order: the law. -/
/- Texts cut in two; a function's contract from a shut text. -/
import Derived.Test.YtdfiegleaknleaaAwQ
namespace Go.Proofs.Ytdfiegleaknleaa.Aw
open Go Go.RowKit Go.Lib
set_option linter.unusedVariables false
set_option linter.unusedSimpArgs false
section
variable {P : Program}
theorem growD_sound {T : Tab} (hT : TabOk P 0 T) {o : Oper} {E : List D} {H : Hp} {n : Nat} {K : KD} (h : growD P T o E H n K) {B : Base} {c : Cx} {w : World} {a : Act} (hC : Con B c w H n) (hE : RepL c w E a.tmps.toList) (hd : a.defers = []) :
    o.wp P a w (fun a' w' => Below w.heap.size w w' ∧ ∃ d v E' H' n' c', K d E' H' n' ∧ a' = a.put o.dst v ∧ Con B c' w' H' n' ∧ RepL c' w' E' a.tmps.toList ∧ Rep c' w' d v) (fun _ _ _ => False) := by
  unfold growD at h
  split at h
  · rename_i t len parts ho
    obtain ⟨d, v, E', H', n', c', w', h1, h2, h3, h4, h5, h6⟩ := buildSliceD_sound hT hC hE h
    rw [numK_eq] at h1
    have : (execOp a.eval o).run P w = .ok (.value v) w' := by simp [execOp, ho, h2]
    unfold Oper.wp
    rw [this]
    exact ⟨h6, d, v, E', H', n', c', h1, rfl, h3, h4, h5⟩
  · rename_i q ho
    obtain ⟨callee, args, argTypes⟩ := q
    split at h
    · rename_i f e
      simp only at e
      subst e
      split at h
      · rename_i g cap ef
        rw [evs_eq, appK_eq] at h
        replace h := h.open
        obtain ⟨⟨fn, hf, hnm, hbd⟩, h⟩ := h
        have hx := rep_ev hE f
        rw [ef] at hx
        unfold Rep at hx
        obtain ⟨vs, hv, hr⟩ := hx
        have hcall := h B c w a.tmps.toList (args.toList.map a.eval ++ vs) hC hE ((repL_evs hE _).append hr)
        have hrun : (execOp a.eval o).run P w = .ok (.enter g (args.toList.map a.eval ++ vs).toArray) w := by
          have a1 : (args.toList.map a.eval ++ vs).toArray = args.map a.eval ++ vs.toArray := by apply Array.ext'; simp
          rw [a1]
          simp [execOp, ho, resolve, hv, Deferred.ofValue, invoke, callFunc, hf]
          have hn2 : fn.name ≠ "runtime.NumGoroutine" := by simpa using hnm
          have hb2 : ¬ fn.body = none := fun e => by rw [e] at hbd; cases hbd
          simp [hn2, hb2]
        unfold Oper.wp
        rw [hrun]
        refine hcall.mono fun e w' he => ?_
        obtain ⟨h0, d, v, E', H', n', c', h1, rfl, h2, h3, h4⟩ := he
        exact ⟨h0, d, v, E', H', n', c', h1, rfl, h2, h3, h4⟩
      · exact h.elim
    · exact h.elim
  · exact h.elim

/-- Whatever order is picked; what is not loud turns nothing that was there. -/
def wpAnyB (P : Program) (ops : Array Oper) (loud : Nat → Bool) (Q : Exit → Act → World → Prop) : Nat → Array Bool → Act → World → Prop
  | 0, listed, a, w => Region.ready .any ops listed = [] ∧ Q .normal a w
  | f + 1, listed, a, w => (Region.ready .any ops listed = [] → Q .normal a w) ∧
    ∀ i ∈ Region.ready .any ops listed, wpOp P ops Q i (fun a' w' => (loud i = false → Below w.heap.size w w') ∧ wpAnyB P ops loud Q f (listed.setIfInBounds i true) a' w') a w
section
variable {ops : Array Oper} {loud : Nat → Bool} {Q : Exit → Act → World → Prop}
theorem wpAny_of_B : ∀ (f : Nat) (listed : Array Bool) (a : Act) (w : World), wpAnyB P ops loud Q f listed a w → wpAny P .any ops Q f listed a w
  | 0, _, _, _, h => h
  | f + 1, _, _, _, h => ⟨h.1, fun i hi => wpOp_mono (fun a' w' h' => wpAny_of_B f _ a' w' h'.2) (h.2 i hi)⟩
def Closed (ops : Array Oper) (listed : Array Bool) : Prop := ∀ (j : Nat) (o : Oper), ops[j]? = some o → listed.getD j false = true → ∀ e ∈ o.after, Region.binds .any e = true → listed.getD e.on false = true
theorem getD_none {listed : Array Bool} {j : Nat} (h : listed.getD j true = false) : listed.getD j false = false := by
  rcases Nat.lt_or_ge j listed.size with h' | h'
  · simpa [h'] using h
  · simp [Array.getElem?_eq_none h'] at h
theorem getD_of_false {listed : Array Bool} {j : Nat} (h : listed.getD j false = true) : listed.getD j true = true := by
  rcases Nat.lt_or_ge j listed.size with h' | h'
  · simpa [h'] using h
  · simp [Array.getElem?_eq_none h'] at h
theorem Closed.set {listed : Array Bool} (h : Closed ops listed) {i : Nat} (hi : i ∈ Region.ready .any ops listed) : Closed ops (listed.setIfInBounds i true) := by
  intro j o hj hl e he hb
  by_cases hij : i = j
  · subst hij
    obtain ⟨_, o', ho', hall⟩ := mem_ready.1 hi
    rw [hj] at ho'
    cases ho'
    exact getD_set_true (hall e he hb)
  · rw [getD_set_ne false hij] at hl
    exact getD_set_true (h j o hj hl e he hb)
theorem waits_sound {listed : Array Bool} (hc : Closed ops listed) {i : Nat} : ∀ (f j : Nat), waits ops f j i = true → (∀ o, ops[j]? = some o → ∀ e ∈ o.after, Region.binds .any e = true → listed.getD e.on false = true) → listed.getD i false = true
  | 0, j, h, _ => by simp [waits] at h
  | f + 1, j, h, hall => by
    unfold waits at h
    split at h
    · rename_i o ho
      rw [Array.any_eq_true'] at h
      obtain ⟨e, he, hx⟩ := h
      simp only [Bool.and_eq_true, Bool.or_eq_true, beq_iff_eq] at hx
      have h1 := hall o ho e he hx.1
      rcases hx.2 with h2 | h2
      · rw [← h2]; exact h1
      · exact waits_sound hc f e.on h2 (fun o' ho' => hc e.on o' ho' h1)
    · cases h
theorem wpAnyB_first {i : Nat} {oi : Oper} {v : Value} {S : World → Prop} {m : Nat} (hi : ops[i]? = some oi) (hsel : ∀ (j : Nat) (o : Oper) cs b, ops[j]? = some o → o.op ≠ .select cs b)
    (hQ : ∀ c a w, Q (.panic c) (a.put oi.dst v) w → Q (.panic c) a w) (hS : ∀ w w', S w → Below w.heap.size w w' → S w') :
    ∀ (fuel : Nat) (listed : Array Bool) (a : Act) (w : World), Closed ops listed →
      (∀ j oj, ops[j]? = some oj → j ≠ i → listed.getD j true = false → (∀ e ∈ oj.after, Region.binds .any e = true → e.on ≠ i) → oi.apart ops oj = true) →
      (∀ j oj, ops[j]? = some oj → listed.getD j true = false → j ≠ i → loud j = true → (∀ w, S w) ∨ waits ops m j i = true) →
      i ∈ Region.ready .any ops listed → YieldsIf P ops S oi v a → S w →
      wpAnyB P ops loud Q fuel (listed.setIfInBounds i true) (a.put oi.dst v) w → wpAnyB P ops loud Q (fuel + 1) listed a w := by
  intro fuel
  induction fuel with
  | zero =>
    intro listed a w _ _ _ hr hy hw H
    refine ⟨fun h => (by rw [h] at hr; cases hr), fun j hj => ?_⟩
    by_cases hji : j = i
    · subst hji; exact hy.wpOp hi hw ⟨fun _ => Below.refl _ _, H⟩
    · have := ready_mono hj hji
      rw [H.1] at this
      cases this
  | succ fuel ih =>
    intro listed a w hcl hfree hq hr hy hw H
    refine ⟨fun h => (by rw [h] at hr; cases hr), fun j hj => ?_⟩
    by_cases hji : j = i
    · subst hji; exact hy.wpOp hi hw ⟨fun _ => Below.refl _ _, H⟩
    · have h1 := H.2 j (ready_mono hj hji)
      obtain ⟨hjun, oj, hoj, hall⟩ := mem_ready.1 hj
      have hnot : ∀ e ∈ oj.after, Region.binds .any e = true → e.on ≠ i := fun e he hb heq => by
        have h1 := hall e he hb
        rw [heq, getD_none (mem_ready.1 hr).1] at h1
        cases h1
      have h2 := wpOp_putIf hoj (hfree j oj hoj hji hjun hnot) (fun cs b => hsel i oi cs b hi) (fun cs b => hsel j oj cs b hoj) hQ hy h1
      have hun' : ∀ k, (listed.setIfInBounds j true).getD k true = false → listed.getD k true = false := fun k hun => by
        by_cases hjk : j = k
        · subst hjk; exact hjun
        · rw [getD_set_ne true hjk] at hun; exact hun
      refine wpOp_mono (fun a' w' h3 => ?_) h2
      obtain ⟨hy', hb, h4⟩ := h3
      have hw' : S w' := by
        cases hl : loud j with
        | false => exact hS w w' hw (hb hl)
        | true =>
          rcases hq j oj hoj hjun hji hl with h5 | h5
          · exact h5 w'
          · have := waits_sound hcl m j h5 (fun o ho e he hb => by
              rw [hoj] at ho
              cases ho
              exact hall e he hb)
            rw [getD_none (mem_ready.1 hr).1] at this
            cases this
      refine ⟨hb, ih (listed.setIfInBounds j true) a' w' (hcl.set hj) (fun k ok hk hki hun => hfree k ok hk hki (hun' k hun)) (fun k ok hk hun => hq k ok hk (hun' k hun)) (ready_mono hr (Ne.symm hji)) hy' hw' ?_⟩
      rw [Array.setIfInBounds_comm _ _ hji]
      exact h4
theorem wpAnyB_only {i : Nat} {listed : Array Bool} {f : Nat} {a : Act} {w : World} (hr : Region.ready .any ops listed = [i]) (h : wpOp P ops Q i (fun a' w' => (loud i = false → Below w.heap.size w w') ∧ wpAnyB P ops loud Q f (listed.setIfInBounds i true) a' w') a w) : wpAnyB P ops loud Q (f + 1) listed a w :=
  ⟨fun h0 => (by rw [hr] at h0; cases h0), fun j hj => by
    rw [hr] at hj
    have : j = i := by simpa using hj
    subst this
    exact h⟩
end
theorem post_panic {B : Base} {Q : X → List D → Hp → Nat → Prop} {c} {a : Act} {w : World} (h : Post B Q (.panic c) a w) : False := by
  obtain ⟨x, _, _, _, _, e, _⟩ := h
  cases x <;> cases e
theorem drawD_sound {T : Tab} (hT : TabOk P 0 T) {all : Array Oper} {sched : List (Nat × Nat)} (hno : Region.noSelect all = true) {B : Base} {Q : X → List D → Hp → Nat → Prop} : ∀ (l : List (Nat × Nat)) (listed : Array Bool) (E : List D) (H : Hp) (n : Nat) (c : Cx) (w : World) (a : Act),
    okFrom all sched l listed = true → Closed all listed → drawD P T all.toList l E H n (Q .normal) → Con B c w H n → RepL c w E a.tmps.toList → a.defers = [] → wpAnyB P all (loudAt sched) (Post B Q) l.length listed a w
  | [], listed, E, H, n, c, w, a, ho, hcl, h, hC, hE, hd => by
    unfold okFrom at ho
    exact ⟨by simpa using ho, .normal, E, H, n, c, rfl, h, hC, hE, hd⟩
  | (i, q) :: r, listed, E, H, n, c, w, a, ho, hcl, h, hC, hE, hd => by
    have ih := fun listed E H n c w a => drawD_sound hT (B := B) (Q := Q) hno (sched := sched) r listed E H n c w a
    rw [drawD_cons] at h
    unfold stepR at h
    have hops : all[i]? = all.toList[i]? := by simp
    rw [← hops] at h
    cases hoi : all[i]? with
    | none => rw [hoi] at h; exact h.elim
    | some o =>
      rw [hoi] at h
      simp only at h
      unfold okFrom at ho
      rw [Bool.and_eq_true] at ho
      obtain ⟨ho1, ho2⟩ := ho
      have hmem : i ∈ Region.ready .any all listed := by
        revert ho1
        match q with
        | 0 => intro h; simp only [Bool.and_eq_true] at h; simpa using h.1
        | 1 => intro h; simp only [Bool.and_eq_true] at h; simpa using h.1.1
        | 2 => intro h; have := eq_of_beq h; simp [this]
        | k + 3 => intro h; simp only [Bool.and_eq_true] at h; have := eq_of_beq h.1; simp [this]
      -- what is taken first
      have first : ∀ (S : World → Prop) (v : Value) (d : D), q ≤ 1 → YieldsIf P all S o v a → (∀ w w', S w → Below w.heap.size w w' → S w') → S w → ((∀ w, S w) ∨ q = 1) → Rep c w d v →
          putK E o.dst d (fun E => drawD P T all.toList r E H n (Q .normal)) → wpAnyB P all (loudAt sched) (Post B Q) (r.length + 1) listed a w := fun S v d hq hy hS hw hor hr hp => by
        obtain ⟨E2, h6, h7⟩ := repL_put hE hr o.dst hp
        have hfree : Region.free .any all listed i = true := by
          match q, hq, ho1 with
          | 0, _, h => simp only [Bool.and_eq_true] at h; exact h.2
          | 1, _, h => simp only [Bool.and_eq_true] at h; exact h.1.2
        refine wpAnyB_first (S := S) (m := all.size) hoi (Region.noSelect_spec hno) (fun c a w h => (post_panic h).elim) hS r.length listed a w hcl (Region.free_spec hoi hfree) (fun j oj hj hun hne hl => ?_) hmem hy hw (ih _ E2 H n c w _ ho2 (hcl.set hmem) h6 hC h7 (by rw [put_defers]; exact hd))
        rcases hor with h8 | rfl
        · exact .inl h8
        · right
          simp only [Bool.and_eq_true, List.all_eq_true, List.mem_range] at ho1
          have := ho1.2 j (Array.getElem?_eq_some_iff.1 hj).1
          simpa [hun, hne, hl] using this
      -- one that comes up alone
      have alone : 2 ≤ q → Region.ready .any all listed = [i] ∧ (3 ≤ q → loudAt sched i = true) := fun hq => by
        match q, hq, ho1 with
        | 2, _, h => exact ⟨eq_of_beq h, fun h => by omega⟩
        | k + 3, _, h => simp only [Bool.and_eq_true] at h; exact ⟨eq_of_beq h.1, fun _ => h.2⟩
      have go : Region.wanted o (yielded all a.tmps) = true → drawOp P T q o E H n (fun d E H n => putK E o.dst d (fun E => drawD P T all.toList r E H n (Q .normal))) → wpAnyB P all (loudAt sched) (Post B Q) (r.length + 1) listed a w := fun hwa h => by
        match q, h, first, alone with
        | 0, h, first, _ =>
          obtain ⟨d, v, h1, h2, h3⟩ := pureD_sound (w := w) hT hE h
          exact first (fun _ => True) _ _ (Nat.zero_le _) (.inl ⟨hwa, fun w' _ => h2 w'⟩) (fun _ _ _ _ => trivial) trivial (.inl fun _ => trivial) h3 h1
        | 1, h, first, _ =>
          obtain ⟨d, v, h1, h2, h3⟩ := memD_sound hT hC hE h
          exact first (fun w' => Below w.heap.size w w') _ _ (Nat.le_refl _) (.inl ⟨hwa, h2⟩) (fun w1 w2 hb hb2 => hb.trans (hb2.mono hb.size)) (Below.refl _ _) (.inr rfl) h3 h1
        | 2, h, _, alone =>
          refine wpAnyB_only (alone (Nat.le_refl _)).1 ?_
          unfold wpOp
          rw [hoi]
          simp only [hwa, if_true]
          refine .inl (Oper.wp_false (Oper.wp_mono ?_ (growD_sound hT h hC hE hd)))
          rintro a' w' ⟨hb, d, v, E', H', n', c', h2, rfl, h3, h4, h5⟩
          obtain ⟨E2, h6, h7⟩ := repL_put h4 h5 o.dst h2
          exact ⟨fun _ => hb, ih _ E2 H' n' c' w' _ ho2 (hcl.set hmem) h6 h3 h7 (by rw [put_defers]; exact hd)⟩
        | k + 3, h, _, alone =>
          obtain ⟨al, lo⟩ := alone (by omega)
          have h : opD P T o E H n (fun d E H n => putK E o.dst d (fun E => drawD P T all.toList r E H n (Q .normal))) := h
          refine wpAnyB_only al ?_
          unfold wpOp
          rw [hoi]
          simp only [hwa, if_true]
          refine .inl (Oper.wp_false (Oper.wp_mono ?_ (opD_sound hT h B c w a hC hE hd)))
          rintro a' w' ⟨d, v, E', H', n', c', h2, rfl, h3, h4, h5⟩
          obtain ⟨E2, h6, h7⟩ := repL_put h4 h5 o.dst h2
          exact ⟨fun hf => (by rw [lo (by omega)] at hf; cases hf), ih _ E2 H' n' c' w' _ ho2 (hcl.set hmem) h6 h3 h7 (by rw [put_defers]; exact hd)⟩
      have skip : Region.wanted o (yielded all a.tmps) = false → putK E o.dst (.tup []) (fun E => drawD P T all.toList r E H n (Q .normal)) → wpAnyB P all (loudAt sched) (Post B Q) (r.length + 1) listed a w := fun hwa h => by
        rcases Nat.lt_or_ge q 2 with hq | hq
        · exact first (fun _ => True) _ _ (by omega) (.inr ⟨hwa, rfl⟩) (fun _ _ _ _ => trivial) trivial (.inl fun _ => trivial) rep_undef h
        · refine wpAnyB_only (alone hq).1 ?_
          unfold wpOp
          rw [hoi]
          simp only [hwa, Bool.false_eq_true, if_false]
          obtain ⟨E2, h6, h7⟩ := repL_put hE rep_undef o.dst h
          exact ⟨fun _ => Below.refl _ _, ih _ E2 H n c w _ ho2 (hcl.set hmem) h6 hC h7 (by rw [put_defers]; exact hd)⟩
      split at h
      · rename_i hg
        exact go (by simp [Region.wanted, hg]) h
      · rename_i j want hg
        split at h
        · rename_i i' hs
          split at h
          · rename_i t he
            have hy := yielded_of hE hs he
            cases want with
            | true =>
              simp only [cond_true] at h
              replace h := Case.open h
              rcases h with ⟨rfl, h⟩ | ⟨rfl, h⟩
              · exact go (by simp [Region.wanted, hg, hy]) h
              · exact skip (by simp [Region.wanted, hg, hy]) h
            | false =>
              simp only [cond_false] at h
              replace h := Case.open h
              rcases h with ⟨rfl, h⟩ | ⟨rfl, h⟩
              · exact skip (by simp [Region.wanted, hg, hy]) h
              · exact go (by simp [Region.wanted, hg, hy]) h
          · rename_i he
            exact skip (by simp [Region.wanted, hg, yielded_undef hE hs he]) h
          · exact h.elim
        · exact h.elim
/-- **A region that draws its order**, along one list of its operations. -/
theorem step_draw {T : Tab} (hT : TabOk P 0 T) (hm : P.follows .mixedOrders = true) {id : Nat} {ops : Array Oper} (sched : List (Nat × Nat)) {Q : X → List D → Hp → Nat → Prop} {E : List D} {H : Hp} {n : Nat} (hs : okSched ops sched = true) (h : drawD P T ops.toList sched E H n (Q .normal)) : Step P (.region id ops true) Q E H n := by
  refine Step.mk fun B c w a hC hE hd => ?_
  unfold okSched at hs
  simp only [Bool.and_eq_true] at hs
  obtain ⟨⟨⟨h1, h2⟩, _⟩, h4⟩ := hs
  obtain ⟨hC2, hk2⟩ := hC.grow (w' := w.drew) (Below.refl _ _).drew
  have h5 := drawD_sound hT (B := B) (Q := Q) h1 sched (Array.replicate ops.size false) E H n c w.drew a h4 (fun j o hj hl => by
    exfalso
    rcases Nat.lt_or_ge j ops.size with h' | h'
    · simp [h'] at hl
    · simp [Array.getElem?_eq_none, h'] at hl) h hC2 (hE.mono hk2) hd
  rw [eq_of_beq h2] at h5
  exact wp_region_any hm (wpAny_of_B _ _ _ _ h5)
end
end Go.Proofs.Ytdfiegleaknleaa.Aw

namespace Go.Proofs.Ytdfiegleaknleaa.Aw
open Go Go.RowKit Go.Lib
set_option linter.unusedVariables false
set_option linter.unusedSimpArgs false
section
variable {P : Program}
theorem step_of {T : Tab} (hT : TabOk P 0 T) {k : Code} {Q : X → List D → Hp → Nat → Prop} {E : List D} {H : Hp} {n : Nat} (h : awp P T k Q E H n) : Step P k Q E H n := Step.mk (awp_sound hT k h)
theorem step_seq {T : Tab} (hT : TabOk P 0 T) {x y : Code} {Q : X → List D → Hp → Nat → Prop} {E : List D} {H : Hp} {n : Nat}
    (h : awp P T x (fun e E H n => match e with
      | .normal => Step P y Q E H n
      | e => Q e E H n) E H n) : Step P (.seq x y) Q E H n := Step.mk fun B c w a hC hE hd => by
  refine wp_seq (wp_mono (awp_sound hT x h B c w a hC hE hd) ?_)
  rintro e a' w' ⟨x', E', H', n', c', rfl, h1, h2, h3, h4⟩
  cases x' with
  | normal => exact h1.open B c' w' a' h2 h3 h4
  | exit id => exact ⟨.exit id, E', H', n', c', rfl, h1, h2, h3, h4⟩
  | ret => exact ⟨.ret, E', H', n', c', rfl, h1, h2, h3, h4⟩
/-- The states between two texts, by a pattern. -/
theorem step_cut {T : Tab} (hT : TabOk P 0 T) {x y : Code} {Q : X → List D → Hp → Nat → Prop} {E : List D} {H : Hp} {n : Nat} {α : Type} (pat : α → List D) (hp : α → Hp) (n1 : Nat) (I : α → Prop) (hlen : ∀ a, (hp a).length = H.length)
    (h : awp P T x (fun e E' H' n' => match e with
      | .normal => ∃ s, I s ∧ Into E' H' n' (pat s) (hp s) n1
      | e => Q e E' H' n') E H n)
    (k : ∀ s, I s → layK (pat s) fun E => Step P y Q E (hp s) n1) : Step P (.seq x y) Q E H n := Step.mk fun B c w a hC hE hd => by
  have hB : B.h0 ≤ H.length := by rw [← hC.hlen]; exact hC.hh
  refine wp_seq (wp_mono (awp_sound hT x h B c w a hC hE hd) ?_)
  rintro e a' w' ⟨x', E', H', n', c', rfl, h1, h2, h3, h4⟩
  cases x' with
  | normal =>
    obtain ⟨s, h5, h6⟩ := h1
    have hk := k s h5
    rw [layK_eq] at hk
    obtain ⟨h7, h8⟩ := h2.into (by rw [hlen]; exact hB) h6 h3
    exact hk.open B _ w' a' h7 h8 h4
  | exit id => exact ⟨.exit id, E', H', n', c', rfl, h1, h2, h3, h4⟩
  | ret => exact ⟨.ret, E', H', n', c', rfl, h1, h2, h3, h4⟩
/-- A text under a weaker state. -/
theorem step_into {x : Code} {Q : X → List D → Hp → Nat → Prop} {E E' : List D} {H H' : Hp} {n n' : Nat} (hlen : H'.length = H.length) (hi : Into E H n E' H' n') (h : layK E' fun E' => Step P x Q E' H' n') : Step P x Q E H n := Step.mk fun B c w a hC hE hd => by
  rw [layK_eq] at h
  have hB : B.h0 ≤ H.length := by rw [← hC.hlen]; exact hC.hh
  obtain ⟨h7, h8⟩ := hC.into (by rw [hlen]; exact hB) hi hE
  exact h.open B _ w a h7 h8 hd
theorem awp_step {k : Code} {T : Tab} {Q : X → List D → Hp → Nat → Prop} {E : List D} {H : Hp} {n : Nat} (id : Nat) (h : Step P k Q E H n) : Step P k Q E H n := h
theorem spec_step {T : Tab} (hT : TabOk P 0 T) {g : FuncId} {fn : Func} {k : Code} {args : List D} {H : Hp} {n : Nat} {R : D → Hp → Prop} (hf : P.funcs[g]? = some fn) (hnm : (fn.name == "runtime.NumGoroutine") = false) (hb : fn.body = some k)
    (h : layK (padK args fn.ntmps) fun E => Step P k (Ends T fn.results.toList H.length n R) E H n) : Spec P g args H n R := by
  rw [layK_eq] at h
  refine spec_sem hT hf hnm hb h.open
end
end Go.Proofs.Ytdfiegleaknleaa.Aw

