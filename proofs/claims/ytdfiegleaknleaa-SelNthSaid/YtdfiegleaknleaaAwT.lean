/- Regions that draw their order, where two operations may come up side by side. -/
import Derived.Test.YtdfiegleaknleaaAwS
namespace Go.Proofs.Ytdfiegleaknleaa.Aw
open Go Go.RowKit Go.Lib
set_option linter.unusedVariables false
set_option linter.unusedSimpArgs false
section
variable {P : Program}
inductive Sch where
  | done
  | one (i q : Nat) (s : Sch)
  | two (i : Nat) (s : Sch) (j : Nat) (s' : Sch)
structure Both (A B : Prop) : Prop where of ::
  out : A ∧ B
theorem Both.mk {A B : Prop} (a : A) (b : B) : Both A B := ⟨⟨a, b⟩⟩
noncomputable def drawT (P : Program) (T : Tab) (all : List Oper) (s : Sch) (K : List D → Hp → Nat → Prop) : List D → Hp → Nat → Prop :=
  Sch.rec (motive := fun _ => List D → Hp → Nat → Prop) K (fun i q _ k => stepR P T all i q k) (fun i _ j _ k k' => fun E H n => Both (stepR P T all i 3 k E H n) (stepR P T all j 3 k' E H n)) s
def okT (ops : Array Oper) : Sch → Array Bool → Bool
  | .done, listed => (Region.ready .any ops listed).isEmpty
  | .one i q s, listed => (if q = 0 then (Region.ready .any ops listed).contains i && Region.free .any ops listed i else q == 3 && Region.ready .any ops listed == [i]) && okT ops s (listed.setIfInBounds i true)
  | .two i s j s', listed => Region.ready .any ops listed == [i, j] && okT ops s (listed.setIfInBounds i true) && okT ops s' (listed.setIfInBounds j true)
def Sch.size : Sch → Nat
  | .done => 0
  | .one _ _ s => s.size + 1
  | .two _ s _ _ => s.size + 1
def Sch.even : Sch → Bool
  | .done => true
  | .one _ _ s => s.even
  | .two _ s _ s' => s.size == s'.size && s.even && s'.even
/-- One operation, whatever it is, that comes up. -/
theorem stepR_wpOp {T : Tab} (hT : TabOk P 0 T) {all : Array Oper} {B : Base} {Q : X → List D → Hp → Nat → Prop} {i : Nat} {K : List D → Hp → Nat → Prop} {G : Act → World → Prop} {E : List D} {H : Hp} {n : Nat} {c : Cx} {w : World} {a : Act}
    (hG : ∀ E H n c w a, K E H n → Con B c w H n → RepL c w E a.tmps.toList → a.defers = [] → G a w)
    (h : stepR P T all.toList i 3 K E H n) (hC : Con B c w H n) (hE : RepL c w E a.tmps.toList) (hd : a.defers = []) : wpOp P all (Post B Q) i G a w := by
  unfold stepR at h
  have hops : all[i]? = all.toList[i]? := by simp
  rw [← hops] at h
  cases hoi : all[i]? with
  | none => rw [hoi] at h; exact h.elim
  | some o =>
    rw [hoi] at h
    simp only at h
    have go : Region.wanted o (yielded all a.tmps) = true → opD P T o E H n (fun d E H n => putK E o.dst d (fun E => K E H n)) → wpOp P all (Post B Q) i G a w := fun hwa h => by
      unfold wpOp
      rw [hoi]
      simp only [hwa, if_true]
      refine .inl (Oper.wp_false (Oper.wp_mono ?_ (opD_sound hT h B c w a hC hE hd)))
      rintro a' w' ⟨d, v, E', H', n', c', h2, rfl, h3, h4, h5⟩
      obtain ⟨E2, h6, h7⟩ := repL_put h4 h5 o.dst h2
      exact hG E2 H' n' c' w' _ h6 h3 h7 (by rw [put_defers]; exact hd)
    have skip : Region.wanted o (yielded all a.tmps) = false → putK E o.dst (.tup []) (fun E => K E H n) → wpOp P all (Post B Q) i G a w := fun hwa h => by
      unfold wpOp
      rw [hoi]
      simp only [hwa, Bool.false_eq_true, if_false]
      obtain ⟨E2, h6, h7⟩ := repL_put hE rep_undef o.dst h
      exact hG E2 H n c w _ h6 hC h7 (by rw [put_defers]; exact hd)
    split at h
    · rename_i hg
      exact go (by simp [Region.wanted, hg]) h
    · rename_i j want hg
      split at h
      · rename_i i' hs
        split at h
        · rename_i t he
          have hy := yielded_of hE hs he
          cases want with
          | true =>
            simp only [cond_true] at h
            replace h := Case.open h
            rcases h with ⟨rfl, h⟩ | ⟨rfl, h⟩
            · exact go (by simp [Region.wanted, hg, hy]) h
            · exact skip (by simp [Region.wanted, hg, hy]) h
          | false =>
            simp only [cond_false] at h
            replace h := Case.open h
            rcases h with ⟨rfl, h⟩ | ⟨rfl, h⟩
            · exact skip (by simp [Region.wanted, hg, hy]) h
            · exact go (by simp [Region.wanted, hg, hy]) h
        · rename_i he
          exact skip (by simp [Region.wanted, hg, yielded_undef hE hs he]) h
        · exact h.elim
      · exact h.elim
/-- One operation of its operands alone, taken first. -/
theorem stepR_first {T : Tab} (hT : TabOk P 0 T) {all : Array Oper} (hno : Region.noSelect all = true) {B : Base} {Q : X → List D → Hp → Nat → Prop} {i : Nat} {K : List D → Hp → Nat → Prop} {f : Nat} {listed : Array Bool} {E : List D} {H : Hp} {n : Nat} {c : Cx} {w : World} {a : Act}
    (hmem : i ∈ Region.ready .any all listed) (hfree : Region.free .any all listed i = true) (hcl : Closed all listed)
    (hG : ∀ E H n c w a, K E H n → Con B c w H n → RepL c w E a.tmps.toList → a.defers = [] → wpAnyB P all (fun _ => true) (Post B Q) f (listed.setIfInBounds i true) a w)
    (h : stepR P T all.toList i 0 K E H n) (hC : Con B c w H n) (hE : RepL c w E a.tmps.toList) (hd : a.defers = []) : wpAnyB P all (fun _ => true) (Post B Q) (f + 1) listed a w := by
  unfold stepR at h
  have hops : all[i]? = all.toList[i]? := by simp
  rw [← hops] at h
  cases hoi : all[i]? with
  | none => rw [hoi] at h; exact h.elim
  | some o =>
    rw [hoi] at h
    simp only at h
    have first : ∀ (v : Value) (d : D), YieldsIf P all (fun _ => True) o v a → Rep c w d v → putK E o.dst d (fun E => K E H n) → wpAnyB P all (fun _ => true) (Post B Q) (f + 1) listed a w := fun v d hy hr hp => by
      obtain ⟨E2, h6, h7⟩ := repL_put hE hr o.dst hp
      exact wpAnyB_first (S := fun _ => True) (m := all.size) hoi (Region.noSelect_spec hno) (fun c a w h => (post_panic h).elim) (fun _ _ _ _ => trivial) f listed a w hcl (Region.free_spec hoi hfree) (fun j oj hj hun hne hl => .inl fun _ => trivial) hmem hy trivial (hG E2 H n c w _ h6 hC h7 (by rw [put_defers]; exact hd))
    have go : Region.wanted o (yielded all a.tmps) = true → pureD T o E (fun d => putK E o.dst d (fun E => K E H n)) → wpAnyB P all (fun _ => true) (Post B Q) (f + 1) listed a w := fun hwa h => by
      obtain ⟨d, v, h1, h2, h3⟩ := pureD_sound (w := w) hT hE h
      exact first v d (.inl ⟨hwa, fun w' _ => h2 w'⟩) h3 h1
    have skip : Region.wanted o (yielded all a.tmps) = false → putK E o.dst (.tup []) (fun E => K E H n) → wpAnyB P all (fun _ => true) (Post B Q) (f + 1) listed a w := fun hwa h =>
      first _ _ (.inr ⟨hwa, rfl⟩) rep_undef h
    split at h
    · rename_i hg
      exact go (by simp [Region.wanted, hg]) h
    · rename_i j want hg
      split at h
      · rename_i i' hs
        split at h
        · rename_i t he
          have hy := yielded_of hE hs he
          cases want with
          | true =>
            simp only [cond_true] at h
            replace h := Case.open h
            rcases h with ⟨rfl, h⟩ | ⟨rfl, h⟩
            · exact go (by simp [Region.wanted, hg, hy]) h
            · exact skip (by simp [Region.wanted, hg, hy]) h
          | false =>
            simp only [cond_false] at h
            replace h := Case.open h
            rcases h with ⟨rfl, h⟩ | ⟨rfl, h⟩
            · exact skip (by simp [Region.wanted, hg, hy]) h
            · exact go (by simp [Region.wanted, hg, hy]) h
        · rename_i he
          exact skip (by simp [Region.wanted, hg, yielded_undef hE hs he]) h
        · exact h.elim
      · exact h.elim
theorem drawT_sound {T : Tab} (hT : TabOk P 0 T) {all : Array Oper} (hno : Region.noSelect all = true) {B : Base} {Q : X → List D → Hp → Nat → Prop} : ∀ (s : Sch) (listed : Array Bool) (E : List D) (H : Hp) (n : Nat) (c : Cx) (w : World) (a : Act),
    okT all s listed = true → s.even = true → Closed all listed → drawT P T all.toList s (Q .normal) E H n → Con B c w H n → RepL c w E a.tmps.toList → a.defers = [] → wpAnyB P all (fun _ => true) (Post B Q) s.size listed a w
  | .done, listed, E, H, n, c, w, a, ho, hv, hcl, h, hC, hE, hd => by
    unfold okT at ho
    exact ⟨by simpa using ho, .normal, E, H, n, c, rfl, h, hC, hE, hd⟩
  | .one i q s, listed, E, H, n, c, w, a, ho, hv, hcl, h, hC, hE, hd => by
    have ih := fun listed E H n c w a => drawT_sound hT (B := B) (Q := Q) hno s listed E H n c w a
    unfold okT at ho
    unfold Sch.even at hv
    have h : stepR P T all.toList i q (drawT P T all.toList s (Q .normal)) E H n := h
    rw [Bool.and_eq_true] at ho
    obtain ⟨ho1, ho2⟩ := ho
    by_cases hq : q = 0
    · subst hq
      rw [if_pos rfl, Bool.and_eq_true] at ho1
      have hmem : i ∈ Region.ready .any all listed := by simpa using ho1.1
      exact stepR_first hT hno hmem ho1.2 hcl (fun E H n c w a hk hC hE hd => ih _ E H n c w a ho2 hv (hcl.set hmem) hk hC hE hd) h hC hE hd
    · rw [if_neg hq, Bool.and_eq_true] at ho1
      have hq3 : q = 3 := by simpa using ho1.1
      subst hq3
      have hr : Region.ready .any all listed = [i] := eq_of_beq ho1.2
      have hmem : i ∈ Region.ready .any all listed := by rw [hr]; simp
      refine wpAnyB_only hr (stepR_wpOp hT (fun E H n c w a hk hC hE hd => ?_) h hC hE hd)
      exact ⟨fun h => (by cases h), ih _ E H n c w a ho2 hv (hcl.set hmem) hk hC hE hd⟩
  | .two i s j s', listed, E, H, n, c, w, a, ho, hv, hcl, h, hC, hE, hd => by
    have ih := fun listed E H n c w a => drawT_sound hT (B := B) (Q := Q) hno s listed E H n c w a
    have ih' := fun listed E H n c w a => drawT_sound hT (B := B) (Q := Q) hno s' listed E H n c w a
    unfold okT at ho
    unfold Sch.even at hv
    have h : Both (stepR P T all.toList i 3 (drawT P T all.toList s (Q .normal)) E H n) (stepR P T all.toList j 3 (drawT P T all.toList s' (Q .normal)) E H n) := h
    obtain ⟨g1, g2⟩ := h.out
    simp only [Bool.and_eq_true] at ho hv
    obtain ⟨⟨ho1, ho2⟩, ho3⟩ := ho
    obtain ⟨⟨hz, hv1⟩, hv2⟩ := hv
    have hz : s.size = s'.size := by simpa using hz
    have hr : Region.ready .any all listed = [i, j] := eq_of_beq ho1
    have hi : i ∈ Region.ready .any all listed := by rw [hr]; simp
    have hj : j ∈ Region.ready .any all listed := by rw [hr]; simp
    refine ⟨fun h0 => (by rw [hr] at h0; cases h0), fun k hk => ?_⟩
    rw [hr] at hk
    have : k = i ∨ k = j := by simpa using hk
    rcases this with rfl | rfl
    · exact stepR_wpOp hT (fun E H n c w a hk hC hE hd => ⟨fun h => (by cases h), ih _ E H n c w a ho2 hv1 (hcl.set hi) hk hC hE hd⟩) g1 hC hE hd
    · exact stepR_wpOp hT (fun E H n c w a hk hC hE hd => ⟨fun h => (by cases h), by rw [hz]; exact ih' _ E H n c w a ho3 hv2 (hcl.set hj) hk hC hE hd⟩) g2 hC hE hd
/-- **A region that draws its order**, along a tree of orders. -/
theorem step_tree {T : Tab} (hT : TabOk P 0 T) (hm : P.follows .mixedOrders = true) {id : Nat} {ops : Array Oper} (s : Sch) {Q : X → List D → Hp → Nat → Prop} {E : List D} {H : Hp} {n : Nat}
    (hs : (Region.noSelect ops && s.size == ops.size && s.even && okT ops s (Array.replicate ops.size false)) = true) (h : drawT P T ops.toList s (Q .normal) E H n) : Step P (.region id ops true) Q E H n := by
  refine Step.mk fun B c w a hC hE hd => ?_
  simp only [Bool.and_eq_true] at hs
  obtain ⟨⟨⟨h1, h2⟩, h3⟩, h4⟩ := hs
  obtain ⟨hC2, hk2⟩ := hC.grow (w' := w.drew) (Below.refl _ _).drew
  have h5 := drawT_sound hT (B := B) (Q := Q) h1 s (Array.replicate ops.size false) E H n c w.drew a h4 h3 (fun j o hj hl => by
    exfalso
    rcases Nat.lt_or_ge j ops.size with h' | h'
    · simp [h'] at hl
    · simp [Array.getElem?_eq_none, h'] at hl) h hC2 (hE.mono hk2) hd
  rw [eq_of_beq h2] at h5
  exact wp_region_any hm (wpAny_of_B _ _ _ _ h5)
end
end Go.Proofs.Ytdfiegleaknleaa.Aw
