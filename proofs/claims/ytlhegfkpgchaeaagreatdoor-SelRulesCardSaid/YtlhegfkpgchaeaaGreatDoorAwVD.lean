/- Regions that draw their order: bytes read as a string are a load, slices of what does not turn and numbers' conversions are plain. -/
import Derived.Test.YtlhegfkpgchaeaaGreatDoorXrC
import Derived.Test.YtlhegfkpgchaeaaGreatDoorXrL
import Derived.Lib.ConvBytes
import Derived.Laws.IdiomStrings
import Derived.Laws.BytesArg
namespace Go.Proofs.YtlhegfkpgchaeaaGreatDoor.Aw
open Go Go.RowKit Go.Lib
set_option linter.unusedVariables false
set_option linter.unusedSimpArgs false
section
variable {P : Program}
inductive Sch where
 | done
 | one (i q : Nat) (s : Sch)
 | two (i : Nat) (s : Sch) (j : Nat) (s' : Sch)
structure Both (A B : Prop) : Prop where of ::
 out : A ∧ B
theorem Both.mk {A B : Prop} (a : A) (b : B) : Both A B := ⟨⟨a, b⟩⟩
noncomputable def drawT (P : Program) (T : Tab) (all : List Oper) (s : Sch) (K : List D → Hp → Nat → Prop) : List D → Hp → Nat → Prop :=
 Sch.rec (motive := fun _ => List D → Hp → Nat → Prop) K (fun i q _ k => stepR P T all i q k) (fun i _ j _ k k' => fun E H n => Both (stepR P T all i 3 k E H n) (stepR P T all j 3 k' E H n)) s
def okT (ops : Array Oper) : Sch → Array Bool → Bool
 | .done, listed => (Region.ready .any ops listed).isEmpty
 | .one i q s, listed => (if q = 0 then (Region.ready .any ops listed).contains i && Region.free .any ops listed i else q == 3 && Region.ready .any ops listed == [i]) && okT ops s (listed.setIfInBounds i true)
 | .two i s j s', listed => Region.ready .any ops listed == [i, j] && okT ops s (listed.setIfInBounds i true) && okT ops s' (listed.setIfInBounds j true)
def Sch.size : Sch → Nat
 | .done => 0
 | .one _ _ s => s.size + 1
 | .two _ s _ _ => s.size + 1
def Sch.even : Sch → Bool
 | .done => true
 | .one _ _ s => s.even
 | .two _ s _ s' => s.size == s'.size && s.even && s'.even
theorem stepR_wpOp {T : Tab} (hT : TabOk P 0 T) {all : Array Oper} {B : Base} {Q : X → List D → Hp → Nat → Prop} {i : Nat} {K : List D → Hp → Nat → Prop} {G : Act → World → Prop} {E : List D} {H : Hp} {n : Nat} {c : Cx} {w : World} {a : Act}
  (hG : ∀ E H n c w a, K E H n → Con B c w H n → RepL c w E a.tmps.toList → a.defers = [] → G a w)
  (h : stepR P T all.toList i 3 K E H n) (hC : Con B c w H n) (hE : RepL c w E a.tmps.toList) (hd : a.defers = []) : wpOp P all (Post B Q) i G a w := by
 unfold stepR at h
 have hops : all[i]? = all.toList[i]? := by simp
 rw [← hops] at h
 cases hoi : all[i]? with
 | none => rw [hoi] at h; exact h.elim
 | some o =>
  rw [hoi] at h
  simp only at h
  have go : Region.wanted o (yielded all a.tmps) = true → opD P T o E H n (fun d E H n => putK E o.dst d (fun E => K E H n)) → wpOp P all (Post B Q) i G a w := fun hwa h => by
   unfold wpOp
   rw [hoi]
   simp only [hwa, if_true]
   refine .inl (Oper.wp_false (Oper.wp_mono ?_ (opD_sound hT h B c w a hC hE hd)))
   rintro a' w' ⟨d, v, E', H', n', c', h2, rfl, h3, h4, h5⟩
   obtain ⟨E2, h6, h7⟩ := repL_put h4 h5 o.dst h2
   exact hG E2 H' n' c' w' _ h6 h3 h7 (by rw [put_defers]; exact hd)
  have skip : Region.wanted o (yielded all a.tmps) = false → putK E o.dst (.tup []) (fun E => K E H n) → wpOp P all (Post B Q) i G a w := fun hwa h => by
   unfold wpOp
   rw [hoi]
   simp only [hwa, Bool.false_eq_true, if_false]
   obtain ⟨E2, h6, h7⟩ := repL_put hE rep_undef o.dst h
   exact hG E2 H n c w _ h6 hC h7 (by rw [put_defers]; exact hd)
  split at h
  ·rename_i hg
   exact go (by simp [Region.wanted, hg]) h
  ·rename_i j want hg
   split at h
   ·rename_i i' hs
    split at h
    ·rename_i t he
     have hy := yielded_of hE hs he
     cases want with
     | true =>
      simp only [cond_true] at h
      replace h := Case.open h
      rcases h with ⟨rfl, h⟩ | ⟨rfl, h⟩
      ·exact go (by simp [Region.wanted, hg, hy]) h
      ·exact skip (by simp [Region.wanted, hg, hy]) h
     | false =>
      simp only [cond_false] at h
      replace h := Case.open h
      rcases h with ⟨rfl, h⟩ | ⟨rfl, h⟩
      ·exact skip (by simp [Region.wanted, hg, hy]) h
      ·exact go (by simp [Region.wanted, hg, hy]) h
    ·rename_i he
     exact skip (by simp [Region.wanted, hg, yielded_undef hE hs he]) h
    ·exact h.elim
   ·exact h.elim
theorem stepR_first {T : Tab} (hT : TabOk P 0 T) {all : Array Oper} (hno : Region.noSelect all = true) {B : Base} {Q : X → List D → Hp → Nat → Prop} {i : Nat} {K : List D → Hp → Nat → Prop} {f : Nat} {listed : Array Bool} {E : List D} {H : Hp} {n : Nat} {c : Cx} {w : World} {a : Act}
  (hmem : i ∈ Region.ready .any all listed) (hfree : Region.free .any all listed i = true) (hcl : Closed all listed)
  (hG : ∀ E H n c w a, K E H n → Con B c w H n → RepL c w E a.tmps.toList → a.defers = [] → wpAnyB P all (fun _ => true) (Post B Q) f (listed.setIfInBounds i true) a w)
  (h : stepR P T all.toList i 0 K E H n) (hC : Con B c w H n) (hE : RepL c w E a.tmps.toList) (hd : a.defers = []) : wpAnyB P all (fun _ => true) (Post B Q) (f + 1) listed a w := by
 unfold stepR at h
 have hops : all[i]? = all.toList[i]? := by simp
 rw [← hops] at h
 cases hoi : all[i]? with
 | none => rw [hoi] at h; exact h.elim
 | some o =>
  rw [hoi] at h
  simp only at h
  have first : ∀ (v : Value) (d : D), YieldsIf P all (fun _ => True) o v a → Rep c w d v → putK E o.dst d (fun E => K E H n) → wpAnyB P all (fun _ => true) (Post B Q) (f + 1) listed a w := fun v d hy hr hp => by
   obtain ⟨E2, h6, h7⟩ := repL_put hE hr o.dst hp
   exact wpAnyB_first (S := fun _ => True) (m := all.size) hoi (Region.noSelect_spec hno) (fun c a w h => (post_panic h).elim) (fun _ _ _ _ => trivial) f listed a w hcl (Region.free_spec hoi hfree) (fun j oj hj hun hne hl => .inl fun _ => trivial) hmem hy trivial (hG E2 H n c w _ h6 hC h7 (by rw [put_defers]; exact hd))
  have go : Region.wanted o (yielded all a.tmps) = true → pureD T o E (fun d => putK E o.dst d (fun E => K E H n)) → wpAnyB P all (fun _ => true) (Post B Q) (f + 1) listed a w := fun hwa h => by
   obtain ⟨d, v, h1, h2, h3⟩ := pureD_sound (w := w) hT hE h
   exact first v d (.inl ⟨hwa, fun w' _ => h2 w'⟩) h3 h1
  have skip : Region.wanted o (yielded all a.tmps) = false → putK E o.dst (.tup []) (fun E => K E H n) → wpAnyB P all (fun _ => true) (Post B Q) (f + 1) listed a w := fun hwa h =>
   first _ _ (.inr ⟨hwa, rfl⟩) rep_undef h
  split at h
  ·rename_i hg
   exact go (by simp [Region.wanted, hg]) h
  ·rename_i j want hg
   split at h
   ·rename_i i' hs
    split at h
    ·rename_i t he
     have hy := yielded_of hE hs he
     cases want with
     | true =>
      simp only [cond_true] at h
      replace h := Case.open h
      rcases h with ⟨rfl, h⟩ | ⟨rfl, h⟩
      ·exact go (by simp [Region.wanted, hg, hy]) h
      ·exact skip (by simp [Region.wanted, hg, hy]) h
     | false =>
      simp only [cond_false] at h
      replace h := Case.open h
      rcases h with ⟨rfl, h⟩ | ⟨rfl, h⟩
      ·exact skip (by simp [Region.wanted, hg, hy]) h
      ·exact go (by simp [Region.wanted, hg, hy]) h
    ·rename_i he
     exact skip (by simp [Region.wanted, hg, yielded_undef hE hs he]) h
    ·exact h.elim
   ·exact h.elim
theorem drawT_sound {T : Tab} (hT : TabOk P 0 T) {all : Array Oper} (hno : Region.noSelect all = true) {B : Base} {Q : X → List D → Hp → Nat → Prop} : ∀ (s : Sch) (listed : Array Bool) (E : List D) (H : Hp) (n : Nat) (c : Cx) (w : World) (a : Act),
  okT all s listed = true → s.even = true → Closed all listed → drawT P T all.toList s (Q .normal) E H n → Con B c w H n → RepL c w E a.tmps.toList → a.defers = [] → wpAnyB P all (fun _ => true) (Post B Q) s.size listed a w
 | .done, listed, E, H, n, c, w, a, ho, hv, hcl, h, hC, hE, hd => by
  unfold okT at ho
  exact ⟨by simpa using ho, .normal, E, H, n, c, rfl, h, hC, hE, hd⟩
 | .one i q s, listed, E, H, n, c, w, a, ho, hv, hcl, h, hC, hE, hd => by
  have ih := fun listed E H n c w a => drawT_sound hT (B := B) (Q := Q) hno s listed E H n c w a
  unfold okT at ho
  unfold Sch.even at hv
  have h : stepR P T all.toList i q (drawT P T all.toList s (Q .normal)) E H n := h
  rw [Bool.and_eq_true] at ho
  obtain ⟨ho1, ho2⟩ := ho
  by_cases hq : q = 0
  ·subst hq
   rw [if_pos rfl, Bool.and_eq_true] at ho1
   have hmem : i ∈ Region.ready .any all listed := by simpa using ho1.1
   exact stepR_first hT hno hmem ho1.2 hcl (fun E H n c w a hk hC hE hd => ih _ E H n c w a ho2 hv (hcl.set hmem) hk hC hE hd) h hC hE hd
  ·rw [if_neg hq, Bool.and_eq_true] at ho1
   have hq3 : q = 3 := by simpa using ho1.1
   subst hq3
   have hr : Region.ready .any all listed = [i] := eq_of_beq ho1.2
   have hmem : i ∈ Region.ready .any all listed := by rw [hr]; simp
   refine wpAnyB_only hr (stepR_wpOp hT (fun E H n c w a hk hC hE hd => ?_) h hC hE hd)
   exact ⟨fun h => (by cases h), ih _ E H n c w a ho2 hv (hcl.set hmem) hk hC hE hd⟩
 | .two i s j s', listed, E, H, n, c, w, a, ho, hv, hcl, h, hC, hE, hd => by
  have ih := fun listed E H n c w a => drawT_sound hT (B := B) (Q := Q) hno s listed E H n c w a
  have ih' := fun listed E H n c w a => drawT_sound hT (B := B) (Q := Q) hno s' listed E H n c w a
  unfold okT at ho
  unfold Sch.even at hv
  have h : Both (stepR P T all.toList i 3 (drawT P T all.toList s (Q .normal)) E H n) (stepR P T all.toList j 3 (drawT P T all.toList s' (Q .normal)) E H n) := h
  obtain ⟨g1, g2⟩ := h.out
  simp only [Bool.and_eq_true] at ho hv
  obtain ⟨⟨ho1, ho2⟩, ho3⟩ := ho
  obtain ⟨⟨hz, hv1⟩, hv2⟩ := hv
  have hz : s.size = s'.size := by simpa using hz
  have hr : Region.ready .any all listed = [i, j] := eq_of_beq ho1
  have hi : i ∈ Region.ready .any all listed := by rw [hr]; simp
  have hj : j ∈ Region.ready .any all listed := by rw [hr]; simp
  refine ⟨fun h0 => (by rw [hr] at h0; cases h0), fun k hk => ?_⟩
  rw [hr] at hk
  have : k = i ∨ k = j := by simpa using hk
  rcases this with rfl | rfl
  ·exact stepR_wpOp hT (fun E H n c w a hk hC hE hd => ⟨fun h => (by cases h), ih _ E H n c w a ho2 hv1 (hcl.set hi) hk hC hE hd⟩) g1 hC hE hd
  ·exact stepR_wpOp hT (fun E H n c w a hk hC hE hd => ⟨fun h => (by cases h), by rw [hz]; exact ih' _ E H n c w a ho3 hv2 (hcl.set hj) hk hC hE hd⟩) g2 hC hE hd
theorem step_tree {T : Tab} (hT : TabOk P 0 T) (hm : P.follows .mixedOrders = true) {id : Nat} {ops : Array Oper} (s : Sch) {Q : X → List D → Hp → Nat → Prop} {E : List D} {H : Hp} {n : Nat}
  (hs : (Region.noSelect ops && s.size == ops.size && s.even && okT ops s (Array.replicate ops.size false)) = true) (h : drawT P T ops.toList s (Q .normal) E H n) : Step P (.region id ops true) Q E H n := by
 refine Step.mk fun B c w a hC hE hd => ?_
 simp only [Bool.and_eq_true] at hs
 obtain ⟨⟨⟨h1, h2⟩, h3⟩, h4⟩ := hs
 obtain ⟨hC2, hk2⟩ := hC.grow (w' := w.drew) (Below.refl _ _).drew
 have h5 := drawT_sound hT (B := B) (Q := Q) h1 s (Array.replicate ops.size false) E H n c w.drew a h4 h3 (fun j o hj hl => by
  exfalso
  rcases Nat.lt_or_ge j ops.size with h' | h'
  ·simp [h'] at hl
  ·simp [Array.getElem?_eq_none, h'] at hl) h hC2 (hE.mono hk2) hd
 rw [eq_of_beq h2] at h5
 exact wp_region_any hm (wpAny_of_B _ _ _ _ h5)
end
end Go.Proofs.YtlhegfkpgchaeaaGreatDoor.Aw

namespace Go.Proofs.YtlhegfkpgchaeaaGreatDoor.Aw
open Go Go.RowKit Go.Lib
set_option linter.unusedVariables false
set_option linter.unusedSimpArgs false
section
variable {P : Program}
inductive Tr where
 | done
 | one (i q : Nat) (s : Tr)
 | two (i q : Nat) (s : Tr) (j q' : Nat) (s' : Tr)
def Tr.size : Tr → Nat
 | .done => 0
 | .one _ _ s => s.size + 1
 | .two _ _ s _ _ _ => s.size + 1
def Tr.even : Tr → Bool
 | .done => true
 | .one _ _ s => s.even
 | .two _ _ s _ _ s' => s.size == s'.size && s.even && s'.even
end
end Go.Proofs.YtlhegfkpgchaeaaGreatDoor.Aw

namespace Go.Proofs.YtlhegfkpgchaeaaGreatDoor.Aw
open Go Go.RowKit Go.Lib
set_option linter.unusedVariables false
set_option linter.unusedSimpArgs false
end Go.Proofs.YtlhegfkpgchaeaaGreatDoor.Aw

namespace Go.Proofs.YtlhegfkpgchaeaaGreatDoor.Aw.V2
open Go Go.RowKit Go.Lib
set_option linter.unusedVariables false
set_option linter.unusedSimpArgs false
end Go.Proofs.YtlhegfkpgchaeaaGreatDoor.Aw.V2
namespace Go.Proofs.YtlhegfkpgchaeaaGreatDoor.Aw
open Go Go.RowKit Go.Lib
theorem Val.callB {g : FuncId} {x y : F} {E : List D} {H : Hp} {n : Nat} {K : KD} (h : Val g [.f x] (.f y)) (k : K (.f y) E H n) : CallB P g [.f x] E H n K := by
 refine ⟨⟨h.spec.1, fun B c w ts vs hC hE ha => ?_⟩⟩
 let c0 : Cx := ⟨c.φ, fun _ => nilS, c.imm, 0, 0⟩
 have hC1 : Con (base c0 w []) c0 w [] 0 := ⟨rfl, rfl, rfl, Nat.le_refl _, fun _ _ _ => rfl, fun _ h => h, fun b hb => ⟨(hC.immB b hb).1, .inl hb⟩, rfl, rfl, Nat.le_refl _, fun _ _ => rfl, fun k cs h => (by simp at h), fun k cs h => (by simp at h), fun j k cs ds h => (by simp at h), fun k b hb => (by cases hb), fun j k b hb => (by cases hb), fun _ _ => rfl, hC.glob⟩
 have ha0 : RepL c0 w [.f x] vs := by
  unfold RepL at ha ⊢
  obtain ⟨v, vs', e, h1, h2⟩ := ha
  refine ⟨v, vs', e, by unfold Rep at h1 ⊢; exact h1, by unfold RepL at h2 ⊢; exact h2⟩
 refine (h.spec.2 c0 w vs hC1 ha0).mono ?_
 rintro e w' ⟨d, v, H', c2, ⟨hR, hd'⟩, rfl, hl, hC2, hd⟩
 subst hR hd'
 have hno : ∀ b, ¬ mine c0 [] b := fun b hb => by
  rcases hb with ⟨k, cs, h1, _⟩ | ⟨k, h1⟩
  ·simp at h1
  ·cases h1
 have hbel : Below w.heap.size w w' := ⟨hC2.os, hC2.tape, hC2.output, hC2.size, fun b hb => hC2.old b hb (hno b)⟩
 obtain ⟨h3, h4⟩ := hC.newImm hbel
 refine ⟨hbel, _, v, E, H, n, _, k, rfl, h3, hE.mono h4, ?_⟩
 unfold Rep at hd ⊢
 refine RepF.mono (fun b hb => ⟨?_, rfl⟩) _ _ hd
 obtain ⟨hlt, h | h | h⟩ := hC2.immB b hb
 ·exact .inl h
 ·exact (hno b h).elim
 ·exact .inr ⟨h, hlt⟩
end Go.Proofs.YtlhegfkpgchaeaaGreatDoor.Aw

namespace Go.Proofs.YtlhegfkpgchaeaaGreatDoor.Aw.V3
open Go Go.RowKit Go.Lib
set_option linter.unusedVariables false
set_option linter.unusedSimpArgs false
section
variable {P : Program}
inductive Tr where
 | done
 | one (i q : Nat) (s : Tr)
 | two (i q : Nat) (s : Tr) (j q' : Nat) (s' : Tr)
def pureU (T : Tab) (o : Oper) (E : List D) (K : D → Prop) : Prop :=
 match o.op with
 | .build t parts => buildD T t parts.toList E K
 | .slice t x lo hi none => tiK T t fun ti => (match ti.desc with
  | .string => (match ev E x with
   | .f (.v (.string s)) => boundK E lo 0 fun l => boundK E hi s.size fun h => Owes (0 ≤ l ∧ l ≤ h ∧ h ≤ s.size) (K (.str (s.extract l.toNat h.toNat)))
   | _ => False)
  | .slice e => tiK T e fun u => (match ev E x with
   | .f (.sl es) => boundK E lo 0 fun l => boundK E hi es.length fun h => Owes (∀ e ∈ es, e.length = u.size) (Part es l h fun es' => K (.f (.sl es')))
   | _ => False)
  | _ => False)
 | .convert s t x => tiK T t fun ti => (match ti.desc with
  | .int k => (match ev E x with
   | .f (.v (.int _ a)) => tiK T s fun _ => Num k a fun r => K (.int k r)
   | _ => False)
  | .string => (match ev E x with
   | .f (.v (.string b)) => tiK T s fun _ => K (.str b)
   | _ => False)
  | _ => False)
 | _ => pureD T o E K
def readU (T : Tab) (o : Oper) (E : List D) (H : Hp) (K : D → Prop) : Prop :=
 match o.op with
 | .convert s t x => tiK T s fun si => tiK T t fun ti => (match ti.desc with
  | .string => (match ev E x with
   | .f (.sl es) => (match si.desc with
    | .slice e => tiK T e fun u => (match u.desc with
     | .int .u8 => AsBytes es fun b => K (.str b)
     | _ => False)
    | _ => False)
   | _ => False)
  | _ => False)
 | _ => memD T o E H K
def convB (T : Tab) (s t : Nat) (x : D) (K : D → Prop) : Prop :=
 tiK T s fun si => tiK T t fun ti => match ti.desc with
  | .slice e => (match x with
   | .f (.v (.string b)) => tiK T e fun u => (match u.desc with
    | .int .u8 => K (.f (.sl (b.data.toList.map byteRow)))
    | _ => False)
   | _ => False)
  | _ => False
def growU (P : Program) (T : Tab) (o : Oper) (E : List D) (H : Hp) (n : Nat) (K : KD) : Prop :=
 match o.op with
 | .alloc t => tiK T t fun ti => numK H.length fun h => pushHK H (some (ofCs ti.zero)) fun H' => K (.ptr h 0) E H' n
 | .convert s t x => convB T s t (ev E x) fun d => K d E H n
 | _ => growD P T o E H n K
def drawU (P : Program) (T : Tab) (q : Nat) (o : Oper) (E : List D) (H : Hp) (n : Nat) (K : KD) : Prop :=
 bif Nat.beq q 0 then pureU T o E fun d => K d E H n
 else bif Nat.beq q 1 then readU T o E H fun d => K d E H n
 else bif Nat.beq q 2 then growU P T o E H n K
 else opD P T o E H n K
def stepU (P : Program) (T : Tab) (all : List Oper) (i q : Nat) (k : List D → Hp → Nat → Prop) (E : List D) (H : Hp) (n : Nat) : Prop :=
 match all[i]? with
  | none => False
  | some o => match o.guard with
   | none => drawU P T q o E H n (fun d E H n => putK E o.dst d (fun E => k E H n))
   | some (j, want) =>
    match slotOf all j with
    | some s => match E.getD s .junk with
     | .f (.v (.bool t)) =>
      bif want then Case t (drawU P T q o E H n (fun d E H n => putK E o.dst d (fun E => k E H n))) (putK E o.dst (.tup []) (fun E => k E H n))
      else Case t (putK E o.dst (.tup []) (fun E => k E H n)) (drawU P T q o E H n (fun d E H n => putK E o.dst d (fun E => k E H n)))
     | .tup [] => putK E o.dst (.tup []) (fun E => k E H n)
     | _ => False
    | none => False
theorem placesK_openA {T : Tab} (hT : TabOk P 0 T) : ∀ (fs : List Field) (K : List (Nat × Nat) → Prop), placesK T fs K →
  ∃ ps, K ps ∧ ∀ w, (fs.mapM (m := Sem) fun f => do pure (f.offset, ← sizeOf f.type)).run P w = .ok ps w
 | [], K, h => ⟨[], h, fun _ => rfl⟩
 | f :: fs, K, h => by
  unfold placesK at h
  obtain ⟨u, L, h⟩ := tiK_open hT h
  obtain ⟨ps, h1, h2⟩ := placesK_openA hT fs _ h
  refine ⟨_, h1, fun w => ?_⟩
  have h2 := h2 w
  simp at h2
  simp [List.mapM_cons, L.run_sizeOf w, h2]
theorem buildD_soundA {T : Tab} (hT : TabOk P 0 T) {c : Cx} {w : World} {E : List D} {a : Act} (hE : RepL c w E a.tmps.toList) {t : Nat} {parts : Array (Nat × Operand)} {K : D → Prop} (h : buildD T t parts.toList E K) :
  ∃ d v, K d ∧ (∀ w, (Instr.build t (parts.map fun (i, x) => (i, a.eval x))).run P w = .ok v w) ∧ Rep c w d v := by
 unfold buildD at h
 obtain ⟨ti, L, h⟩ := tiK_open hT h
 have hz : RepL c w (ofCs ti.zero) ti.zval.cells.toList := by rw [L.zero]; exact repL_ofCs _
 split at h
 ·rename_i fs hd
  have hu : P.underlying t = some (.struct fs) := by rw [L.und, hd]
  obtain ⟨ps, h1, h2⟩ := placesK_openA hT _ _ h
  obtain ⟨cs', vs', h3, h4, h5⟩ := fill_sound hE _ _ _ _ hz h1
  refine ⟨_, .agg vs', h3, fun w => ?_, by unfold Rep; exact ⟨vs'.toList, by simp, h5⟩⟩
  have h2 := h2 w
  have h2' : (fs.mapM (m := Sem) fun f => do pure (f.offset, ← sizeOf f.type)).run P w = .ok ps.toArray w := by
   rw [Array.mapM_eq_mapM_toList]
   simp at h2
   simp [h2]
  simp only [Instr.build, Sem.run_bind, L.run_zeroValue w, run_underlying hu, Result.andThen_ok, h2']
  have e1 : (parts.map fun (i, x) => (i, a.eval x)).toList = parts.toList.map fun (i, x) => (i, a.eval x) := by simp
  have e2 : (fun i : Nat => (ps.toArray)[i]?) = fun i : Nat => ps[i]? := by funext i; simp
  rw [e1, e2, h4]
  rfl
 ·rename_i m e hd
  have hu : P.underlying t = some (.array m e) := by rw [L.und, hd]
  obtain ⟨u, L', h⟩ := tiK_open hT h
  obtain ⟨cs', vs', h3, h4, h5⟩ := fill_sound hE _ _ _ _ hz h
  refine ⟨_, .agg vs', h3, fun w => ?_, by unfold Rep; exact ⟨vs'.toList, by simp, h5⟩⟩
  simp only [Instr.build, Sem.run_bind, L.run_zeroValue w, run_underlying hu, Result.andThen_ok, L'.run_sizeOf w]
  have e1 : (parts.map fun (i, x) => (i, a.eval x)).toList = parts.toList.map fun (i, x) => (i, a.eval x) := by simp
  rw [e1, h4]
  rfl
 ·exact h.elim
theorem pureU_sound {T : Tab} (hT : TabOk P 0 T) {o : Oper} {c : Cx} {w : World} {a : Act} {E : List D} (hE : RepL c w E a.tmps.toList) {K : D → Prop} (h : pureU T o E K) :
  ∃ d v, K d ∧ (∀ w' : World, (execOp a.eval o).run P w' = .ok (.value v) w') ∧ Rep c w d v := by
 unfold pureU at h
 split at h
 ·rename_i t parts ho
  obtain ⟨d, v, h1, h2, h3⟩ := buildD_soundA hT hE h
  refine ⟨d, v, h1, fun w' => ?_, h3⟩
  have h2 := h2 w'
  simp at h2
  simp [execOp, ho, h2]
 ·rename_i t x lo hi ho
  replace h := tiK_open hT h; obtain ⟨ti, L, h⟩ := h
  split at h
  ·rename_i hd
   have hu : P.underlying t = some .string := by rw [L.und, hd]
   split at h
   ·rename_i s ex
    have hx := rep_ev hE x
    rw [ex] at hx
    have e1 := rep_v hx
    obtain ⟨l, h, hl⟩ := boundK_open hE h
    obtain ⟨m, h, hm⟩ := boundK_open hE h
    replace h := Owes.open h; obtain ⟨⟨b1, b2, b3⟩, h⟩ := h
    refine ⟨_, _, h, fun w' => ?_, rep_of _ rfl⟩
    simp [execOp, ho, e1, Instr.sliceAt, run_underlying hu, Instr.slice, run_bounds (P := P) (w := w') (E := E) (isSlice := false) hl hm b1 b2 b3 (Nat.le_refl _)]
   ·exact h.elim
  ·rename_i e hd
   have hu : P.underlying t = some (.slice e) := by rw [L.und, hd]
   replace h := tiK_open hT h; obtain ⟨u, L', h⟩ := h
   split at h
   ·rename_i es ex
    have hx := rep_ev hE x
    rw [ex] at hx
    obtain ⟨l, h, hl⟩ := boundK_open hE h
    obtain ⟨m, h, hm⟩ := boundK_open hE h
    replace h := Owes.open h; obtain ⟨hsz, h⟩ := h
    replace h := Part.open h; obtain ⟨l', m', rfl, rfl, b2, b3, h⟩ := h
    unfold Rep RepF at hx
    rcases hx with ⟨⟨a0, hv⟩, rfl⟩ | ⟨b, o2, cap, hv, hc, him, hr⟩
    ·simp at b3
     subst b3
     have : l' = 0 := by omega
     subst this
     refine ⟨_, .slice a0 0 0, h, fun w' => ?_, by unfold Rep RepF; exact .inl ⟨⟨_, rfl⟩, by simp⟩⟩
     have hb := run_bounds (P := P) (w := w') (E := E) (isSlice := true) (cap := 0) hl hm (by simp) (by simp) (by simp) (Nat.le_refl _)
     simp at hb
     cases a0 <;> simp [execOp, ho, hv, Instr.sliceAt, run_underlying hu, Instr.slice, hb, L'.run_sizeOf]
    ·refine ⟨_, .slice (some (if cap = l' then ⟨b, o2, none⟩ else ⟨b, o2 + l' * u.size, none⟩)) (m' - l') (cap - l'), h, fun w' => ?_, ?_⟩
     ·have hb := run_bounds (P := P) (w := w') (E := E) (isSlice := true) (cap := cap) hl hm (by omega) (by omega) (by omega) hc
      simp only [execOp, ho, hv, Instr.sliceAt, Sem.run_bind, run_underlying hu, Result.andThen_ok, Instr.slice, Option.map_none, hb, L'.run_sizeOf w', Sem.run_pure, Option.map_some, addr_add, Int.toNat_natCast, Sem.run_map]
      congr 3
      split <;> rfl
     ·unfold Rep RepF
      have hlen : ((es.take m').drop l').length = m' - l' := by simp; omega
      by_cases hcl : cap = l'
      ·refine .inr ⟨b, o2, cap - l', ?_, by rw [hlen]; omega, him, ?_⟩
       ·rw [if_pos hcl, hlen]
       ·have : (es.take m').drop l' = [] := List.eq_nil_of_length_eq_zero (by rw [hlen]; omega)
        rw [this]
        unfold RepR
        trivial
      ·refine .inr ⟨b, o2 + l' * u.size, cap - l', ?_, by rw [hlen]; omega, him, hr.sub hsz l' m'⟩
       rw [if_neg hcl, hlen]
   ·exact h.elim
  ·exact h.elim
 ·rename_i s t x ho
  replace h := tiK_open hT h; obtain ⟨ti, Lt, h⟩ := h
  split at h
  ·rename_i k hd
   have hu : P.underlying t = some (.int k) := by rw [Lt.und, hd]
   split at h
   ·rename_i k' i ex
    have hx := rep_ev hE x
    rw [ex] at hx
    have e1 := rep_v hx
    replace h := tiK_open hT h; obtain ⟨si, Ls, h⟩ := h
    have h := Num.open h
    refine ⟨_, _, h, fun w' => ?_, rep_of _ rfl⟩
    simp [execOp, ho, e1, convert, Ls.run_underlying w', run_underlying hu, Conv.intToInt]
   ·exact h.elim
  ·rename_i hd
   have hu : P.underlying t = some .string := by rw [Lt.und, hd]
   split at h
   ·rename_i b ex
    replace h := tiK_open hT h; obtain ⟨si, Ls, h⟩ := h
    have hx := rep_ev hE x
    rw [ex] at hx
    have e1 := rep_v hx
    refine ⟨_, _, h, fun w' => ?_, rep_of _ rfl⟩
    cases hsd : si.desc <;> simp [execOp, ho, e1, convert, Ls.run_underlying w', hsd, run_underlying hu]
   ·exact h.elim
  ·exact h.elim
 ·exact pureD_sound hT hE h
theorem readU_sound {T : Tab} (hT : TabOk P 0 T) {o : Oper} {B : Base} {c : Cx} {w : World} {H : Hp} {n : Nat} (hC : Con B c w H n) {a : Act} {E : List D} (hE : RepL c w E a.tmps.toList) {K : D → Prop} (h : readU T o E H K) :
  ∃ d v, K d ∧ (∀ w' : World, Below w.heap.size w w' → (execOp a.eval o).run P w' = .ok (.value v) w') ∧ Rep c w d v := by
 unfold readU at h
 split at h
 ·rename_i s t x ho
  replace h := tiK_open hT h; obtain ⟨si, Ls, h⟩ := h
  replace h := tiK_open hT h; obtain ⟨ti, Lt, h⟩ := h
  split at h
  ·rename_i hd
   have hu : P.underlying t = some .string := by rw [Lt.und, hd]
   split at h
   ·rename_i es ex
    have hx := rep_ev hE x
    rw [ex] at hx
    split at h
    ·rename_i e hsd
     have hus : P.underlying s = some (.slice e) := by rw [Ls.und, hsd]
     replace h := tiK_open hT h; obtain ⟨u, Lu, h⟩ := h
     split at h
     ·rename_i hud
      have hue : P.underlying e = some (.int .u8) := by rw [Lu.und, hud]
      replace h := AsBytes.open h
      obtain ⟨bs, rfl, h⟩ := h
      unfold Rep RepF at hx
      rcases hx with ⟨⟨a0, hv⟩, hes⟩ | ⟨b, o2, cap, hv, hc, him, hr⟩
      ·have : bs = [] := by simpa using hes
       subst this
       refine ⟨_, _, h, fun w' hb => ?_, rep_of _ rfl⟩
       have h0 : (convert s t (.slice a0 0 0)).run P w' = .ok (.string ⟨([] : List UInt8).toArray⟩) w' := by
        cases a0 with
        | none => exact run_convert_bytes_nil w' s e hus hue 0 0 t hu
        | some a0 => exact run_convert_bytes_back w' s t e a0 0 [] hus hue hu (fun j hj => absurd hj (Nat.not_lt_zero _))
       simp only [execOp, ho, hv, Sem.run_bind, h0, Result.andThen_ok, Sem.run_pure]
      ·refine ⟨_, _, h, fun w' hb => ?_, rep_of _ rfl⟩
       rw [List.length_map] at hv
       have hw : ∀ o, w'.cell? ⟨b, o, none⟩ = w.cell? ⟨b, o, none⟩ := fun o => cell_of_heap (hb.block b (hC.immB b him).1) o
       simp [execOp, ho, hv, run_convert_bytes_back w' s t e ⟨b, o2, none⟩ cap bs hus hue hu (fun j hj => by rw [addr_add, hw]; exact repR_bytes_cell bs b o2 hr j hj)]
     ·exact h.elim
    ·exact h.elim
   ·exact h.elim
  ·exact h.elim
 ·exact memD_sound hT hC hE h
theorem run_strBytesB {B : Base} {c : Cx} {w : World} {H : Hp} {n : Nat} (hC : Con B c w H n) (e : TypeId) (b : ByteArray) :
  ∃ v c' w', (Conv.stringToBytes e b).run P w = .ok v w' ∧ Below w.heap.size w w' ∧ Con B c' w' H n ∧ Keep c c' w w' none ∧ Rep c' w' (.f (.sl (b.data.toList.map byteRow))) v := by
 let cap := grownCap w b.size 0 e
 have hcap : b.size ≤ cap := grownCap_ge w b.size 0 e
 let elems : Array Value := b.data.map fun x => .int .u8 x.toNat
 let row : Array Value := elems ++ Array.replicate (cap - b.size) (.int .u8 0)
 have hrow : row.size = cap := by
  show (elems ++ _).size = _
  have : elems.size = b.size := by simp [elems]
  rw [Array.size_append, this, Array.size_replicate]
  omega
 let w1 := w.drew.alloc (.cells row e)
 let w' := w1.freeze ⟨w.heap.size, row.size, none⟩ 1
 have hb1 : Below w.heap.size w w1 := ((Below.refl _ _).drew).alloc (Nat.le_refl _) _
 have hblk : w'.heap[w.heap.size]? = some (.cells row e (row.size, row.size + 1)) := by
  show (w1.freeze _ 1).heap[w.heap.size]? = _
  unfold World.freeze
  rw [if_neg (by omega)]
  simp only [Array.getElem?_modify, if_true]
  have : w1.heap[w.heap.size]? = some (.cells row e (0, 0)) := heap_alloc_last w.drew _
  rw [this]
  rfl
 have hoth : ∀ k, k ≠ w.heap.size → w'.heap[k]? = w1.heap[k]? := fun k hk => by
  show (w1.freeze _ 1).heap[k]? = _
  unfold World.freeze
  rw [if_neg (by omega)]
  simp only [Array.getElem?_modify]
  rw [if_neg (by omega)]
 have hsz : w'.heap.size = w1.heap.size := by
  show (w1.freeze _ 1).heap.size = _
  unfold World.freeze
  rw [if_neg (by omega)]
  simp
 have hos : w'.os = w1.os ∧ w'.tape = w1.tape ∧ w'.output = w1.output := by
  show (w1.freeze _ 1).os = _ ∧ (w1.freeze _ 1).tape = _ ∧ (w1.freeze _ 1).output = _
  unfold World.freeze
  rw [if_neg (by omega)]
  exact ⟨rfl, rfl, rfl⟩
 have hbel : Below w.heap.size w w' := ⟨hos.1.trans hb1.os, hos.2.1.trans hb1.tape, hos.2.2.trans hb1.output, by rw [hsz]; exact hb1.size, fun k hk => by rw [hoth k (by omega)]; exact hb1.block k hk⟩
 obtain ⟨hC', hk⟩ := hC.newImm hbel
 refine ⟨.slice (some ⟨w.heap.size, 0, none⟩) b.size cap, _, w', ?_, hbel, hC', hk, ?_⟩
 ·have hsh : w1.shape? w.heap.size = some (e, row.size) := by
   unfold World.shape?
   have : w1.heap[w.heap.size]? = some (.cells row e (0, 0)) := heap_alloc_last w.drew _
   rw [this]
  have hcc : (choose (.appendCap b.size 0 e)).run P w = .ok cap w.drew := by
   simp [Question.forced]
   rfl
  simp only [Conv.stringToBytes, Sem.run_bind, hcc, Result.andThen_ok, newRow, run_newObj, Sem.run_pure, markStringish, run_shape]
  show (((match w1.shape? w.heap.size with
   | some (_, n) => freeze { block := w.heap.size, off := n } 1
   | _ => pure () : Sem Unit)).run P w1).andThen _ = _
  rw [hsh]
  rfl
 ·unfold Rep RepF
  have hl : (b.data.toList.map byteRow).length = b.size := by simp
  refine .inr ⟨w.heap.size, 0, cap, by rw [hl], by rw [hl]; exact hcap, .inr ⟨Nat.le_refl _, by rw [hsz]; simp [w1]⟩, repR_bytes _ _ _ (fun j x hx => ?_)⟩
  rw [cell_of_row w' _ _ row e _ hblk]
  show (elems ++ _)[0 + j]? = _
  have hj : j < b.data.size := by
   have := (List.getElem?_eq_some_iff.1 hx).1
   simpa using this
  rw [Nat.zero_add, Array.getElem?_append_left (by simpa [elems] using hj)]
  have hx' : b.data[j]? = some x := by simpa using hx
  simp [elems, hx']
theorem growU_sound {T : Tab} (hT : TabOk P 0 T) {o : Oper} {E : List D} {H : Hp} {n : Nat} {K : KD} (h : growU P T o E H n K) {B : Base} {c : Cx} {w : World} {a : Act} (hC : Con B c w H n) (hE : RepL c w E a.tmps.toList) (hd : a.defers = []) :
  o.wp P a w (fun a' w' => Below w.heap.size w w' ∧ ∃ d v E' H' n' c', K d E' H' n' ∧ a' = a.put o.dst v ∧ Con B c' w' H' n' ∧ RepL c' w' E' a.tmps.toList ∧ Rep c' w' d v) (fun _ _ _ => False) := by
 unfold growU at h
 split at h
 ·rename_i t ho
  replace h := tiK_open hT h; obtain ⟨ti, L, h⟩ := h
  rw [numK_eq, pushHK_eq] at h
  obtain ⟨hC', hk⟩ := hC.push (C := ti.zval.cells) (T := t) (cs := ofCs ti.zero) (by rw [L.zero]; exact repL_ofCs _)
  have hrun : (execOp a.eval o).run P w = .ok (.value (.pointer (some ⟨w.heap.size, 0, none⟩))) (w.alloc (.cells ti.zval.cells t)) := by
   simp [execOp, ho, Instr.alloc, L.run_zeroValue w, newVar, newRow]
  unfold Oper.wp
  rw [hrun]
  refine ⟨(Below.refl _ _).alloc (Nat.le_refl _) _, _, _, E, _, n, _, h, rfl, hC', hE.mono hk, ?_⟩
  unfold Rep
  rw [← hC.hlen]
  refine ⟨Nat.lt_succ_self _, ?_⟩
  show _ = Value.pointer (some ⟨if c.h = c.h then _ else _, _, _⟩)
  rw [if_pos rfl]
 ·rename_i s t x ho
  unfold convB at h
  replace h := tiK_open hT h; obtain ⟨si, Ls, h⟩ := h
  replace h := tiK_open hT h; obtain ⟨ti, Lt, h⟩ := h
  split at h
  ·rename_i e hd'
   have hu : P.underlying t = some (.slice e) := by rw [Lt.und, hd']
   split at h
   ·rename_i b hx
    replace h := tiK_open hT h; obtain ⟨u, Lu, h⟩ := h
    split at h
    ·rename_i hud
     have hue : P.underlying e = some (.int .u8) := by rw [Lu.und, hud]
     have hr := rep_ev hE x
     rw [hx] at hr
     have e1 := rep_v hr
     obtain ⟨v, c', w', hrun', hbel, hC', hk, hv⟩ := run_strBytesB (P := P) hC e b
     have hrun : (convert s t (.string b)).run P w = .ok v w' := by
      cases hsd : si.desc <;> simp [convert, Ls.run_underlying w, hsd, run_underlying hu, run_underlying hue, hrun']
     have hrun2 : (execOp a.eval o).run P w = .ok (.value v) w' := by
      simp [execOp, ho, e1, hrun]
     unfold Oper.wp
     rw [hrun2]
     exact ⟨hbel, _, _, _, _, _, _, h, rfl, hC', hE.mono hk, hv⟩
    ·exact h.elim
   ·exact h.elim
  ·exact h.elim
 ·exact growD_sound hT h hC hE hd
noncomputable def drawV (P : Program) (T : Tab) (all : List Oper) (s : Tr) (K : List D → Hp → Nat → Prop) : List D → Hp → Nat → Prop :=
 Tr.rec (motive := fun _ => List D → Hp → Nat → Prop) K (fun i q _ k => stepU P T all i q k) (fun i q _ j q' _ k k' => fun E H n => Both (stepU P T all i q k E H n) (stepU P T all j q' k' E H n)) s
def okLoad (ops : Array Oper) (L : List Nat) (i : Nat) (listed : Array Bool) : Bool := (List.range ops.size).all fun j => listed.getD j true || j == i || !L.contains j || waits ops ops.size j i
def okU (ops : Array Oper) (L : List Nat) : Tr → Array Bool → Bool
 | .done, listed => (Region.ready .any ops listed).isEmpty
 | .one i q s, listed => (if q ≤ 1 then (Region.ready .any ops listed).contains i && Region.free .any ops listed i && (q == 0 || okLoad ops L i listed) else Region.ready .any ops listed == [i] && (q == 2 || L.contains i)) && okU ops L s (listed.setIfInBounds i true)
 | .two i q s j q' s', listed => decide (2 ≤ q) && decide (2 ≤ q') && (q == 2 || L.contains i) && (q' == 2 || L.contains j) && Region.ready .any ops listed == [i, j] && okU ops L s (listed.setIfInBounds i true) && okU ops L s' (listed.setIfInBounds j true)
def Tr.size : Tr → Nat
 | .done => 0
 | .one _ _ s => s.size + 1
 | .two _ _ s _ _ _ => s.size + 1
def Tr.even : Tr → Bool
 | .done => true
 | .one _ _ s => s.even
 | .two _ _ s _ _ s' => s.size == s'.size && s.even && s'.even
theorem stepU_open {T : Tab} {all : Array Oper} {i q : Nat} {K : List D → Hp → Nat → Prop} {E : List D} {H : Hp} {n : Nat} {c : Cx} {w : World} {a : Act} (h : stepU P T all.toList i q K E H n) (hE : RepL c w E a.tmps.toList) {G : Prop}
  (go : ∀ o, all[i]? = some o → Region.wanted o (yielded all a.tmps) = true → drawU P T q o E H n (fun d E H n => putK E o.dst d (fun E => K E H n)) → G)
  (skip : ∀ o, all[i]? = some o → Region.wanted o (yielded all a.tmps) = false → putK E o.dst (.tup []) (fun E => K E H n) → G) : G := by
 unfold stepU at h
 have hops : all[i]? = all.toList[i]? := by simp
 rw [← hops] at h
 cases hoi : all[i]? with
 | none => rw [hoi] at h; exact h.elim
 | some o =>
  rw [hoi] at h
  simp only at h
  replace go := go o hoi
  replace skip := skip o hoi
  split at h
  ·rename_i hg
   exact go (by simp [Region.wanted, hg]) h
  ·rename_i j want hg
   split at h
   ·rename_i i' hs
    split at h
    ·rename_i t he
     have hy := yielded_of hE hs he
     cases want with
     | true =>
      simp only [cond_true] at h
      replace h := Case.open h
      rcases h with ⟨rfl, h⟩ | ⟨rfl, h⟩
      ·exact go (by simp [Region.wanted, hg, hy]) h
      ·exact skip (by simp [Region.wanted, hg, hy]) h
     | false =>
      simp only [cond_false] at h
      replace h := Case.open h
      rcases h with ⟨rfl, h⟩ | ⟨rfl, h⟩
      ·exact skip (by simp [Region.wanted, hg, hy]) h
      ·exact go (by simp [Region.wanted, hg, hy]) h
    ·rename_i he
     exact skip (by simp [Region.wanted, hg, yielded_undef hE hs he]) h
    ·exact h.elim
   ·exact h.elim
theorem stepU_up {T : Tab} (hT : TabOk P 0 T) {all : Array Oper} {B : Base} {Q : X → List D → Hp → Nat → Prop} {i q : Nat} {L : List Nat} {K : List D → Hp → Nat → Prop} {G : Act → World → Prop} {E : List D} {H : Hp} {n : Nat} {c : Cx} {w : World} {a : Act}
  (hq : 2 ≤ q) (hl : (q == 2 || L.contains i) = true) (hG : ∀ E H n c w a, K E H n → Con B c w H n → RepL c w E a.tmps.toList → a.defers = [] → G a w)
  (h : stepU P T all.toList i q K E H n) (hC : Con B c w H n) (hE : RepL c w E a.tmps.toList) (hd : a.defers = []) : wpOp P all (Post B Q) i (fun a' w' => (L.contains i = false → Below w.heap.size w w') ∧ G a' w') a w := by
 refine stepU_open h hE (fun o hoi hwa h => ?_) (fun o hoi hwa h => ?_)
 ·unfold wpOp
  rw [hoi]
  simp only [hwa, if_true]
  by_cases h2 : q = 2
  ·subst h2
   have h : growU P T o E H n (fun d E H n => putK E o.dst d (fun E => K E H n)) := h
   refine .inl (Oper.wp_false (Oper.wp_mono ?_ (growU_sound hT h hC hE hd)))
   rintro a' w' ⟨hb, d, v, E', H', n', c', h2, rfl, h3, h4, h5⟩
   obtain ⟨E2, h6, h7⟩ := repL_put h4 h5 o.dst h2
   exact ⟨fun _ => hb, hG E2 H' n' c' w' _ h6 h3 h7 (by rw [put_defers]; exact hd)⟩
  ·have hc : L.contains i = true := by
    have : (q == 2) = false := by simpa using h2
    rw [this] at hl
    simpa using hl
   have h : opD P T o E H n (fun d E H n => putK E o.dst d (fun E => K E H n)) := by
    match q, hq, h2, h with
    | q + 3, _, _, h => exact h
   refine .inl (Oper.wp_false (Oper.wp_mono ?_ (opD_sound hT h B c w a hC hE hd)))
   rintro a' w' ⟨d, v, E', H', n', c', h2, rfl, h3, h4, h5⟩
   obtain ⟨E2, h6, h7⟩ := repL_put h4 h5 o.dst h2
   exact ⟨fun hf => (by rw [hc] at hf; cases hf), hG E2 H' n' c' w' _ h6 h3 h7 (by rw [put_defers]; exact hd)⟩
 ·unfold wpOp
  rw [hoi]
  simp only [hwa, Bool.false_eq_true, if_false]
  obtain ⟨E2, h6, h7⟩ := repL_put hE rep_undef o.dst h
  exact ⟨fun _ => Below.refl _ _, hG E2 H n c w _ h6 hC h7 (by rw [put_defers]; exact hd)⟩
theorem stepU_first {T : Tab} (hT : TabOk P 0 T) {all : Array Oper} (hno : Region.noSelect all = true) {B : Base} {Q : X → List D → Hp → Nat → Prop} {i q : Nat} {L : List Nat} {K : List D → Hp → Nat → Prop} {f : Nat} {listed : Array Bool} {E : List D} {H : Hp} {n : Nat} {c : Cx} {w : World} {a : Act}
  (hq : q ≤ 1) (hmem : i ∈ Region.ready .any all listed) (hfree : Region.free .any all listed i = true) (hld : (q == 0 || okLoad all L i listed) = true) (hcl : Closed all listed)
  (hG : ∀ E H n c w a, K E H n → Con B c w H n → RepL c w E a.tmps.toList → a.defers = [] → wpAnyB P all (fun j => L.contains j) (Post B Q) f (listed.setIfInBounds i true) a w)
  (h : stepU P T all.toList i q K E H n) (hC : Con B c w H n) (hE : RepL c w E a.tmps.toList) (hd : a.defers = []) : wpAnyB P all (fun j => L.contains j) (Post B Q) (f + 1) listed a w := by
 have first : ∀ (o : Oper) (S : World → Prop) (v : Value) (d : D), all[i]? = some o → YieldsIf P all S o v a → (∀ w w', S w → Below w.heap.size w w' → S w') → S w → ((∀ w, S w) ∨ q = 1) → Rep c w d v →
   putK E o.dst d (fun E => K E H n) → wpAnyB P all (fun j => L.contains j) (Post B Q) (f + 1) listed a w := fun o S v d hoi hy hS hw hor hr hp => by
  obtain ⟨E2, h6, h7⟩ := repL_put hE hr o.dst hp
  refine wpAnyB_first (S := S) (m := all.size) hoi (Region.noSelect_spec hno) (fun c a w h => (post_panic h).elim) hS f listed a w hcl (Region.free_spec hoi hfree) (fun j oj hj hun hne hl => ?_) hmem hy hw (hG E2 H n c w _ h6 hC h7 (by rw [put_defers]; exact hd))
  rcases hor with h8 | rfl
  ·exact .inl h8
  ·right
   have hld : okLoad all L i listed = true := hld
   unfold okLoad at hld
   simp only [List.all_eq_true, List.mem_range] at hld
   have := hld j (Array.getElem?_eq_some_iff.1 hj).1
   have hl2 : j ∈ L := by simpa using hl
   simpa [hun, hne, hl2] using this
 refine stepU_open h hE (fun o hoi hwa h => ?_) (fun o hoi hwa h => ?_)
 ·match q, hq, h, first with
  | 0, _, h, first =>
   obtain ⟨d, v, h1, h2, h3⟩ := pureU_sound (w := w) hT hE h
   exact first o (fun _ => True) _ _ hoi (.inl ⟨hwa, fun w' _ => h2 w'⟩) (fun _ _ _ _ => trivial) trivial (.inl fun _ => trivial) h3 h1
  | 1, _, h, first =>
   have h : readU T o E H (fun d => putK E o.dst d (fun E => K E H n)) := h
   obtain ⟨d, v, h1, h2, h3⟩ := readU_sound hT hC hE h
   exact first o (fun w' => Below w.heap.size w w') _ _ hoi (.inl ⟨hwa, h2⟩) (fun w1 w2 hb hb2 => hb.trans (hb2.mono hb.size)) (Below.refl _ _) (.inr rfl) h3 h1
 ·exact first o (fun _ => True) _ _ hoi (.inr ⟨hwa, rfl⟩) (fun _ _ _ _ => trivial) trivial (.inl fun _ => trivial) rep_undef h
theorem drawV_sound {T : Tab} (hT : TabOk P 0 T) {all : Array Oper} {L : List Nat} (hno : Region.noSelect all = true) {B : Base} {Q : X → List D → Hp → Nat → Prop} : ∀ (s : Tr) (listed : Array Bool) (E : List D) (H : Hp) (n : Nat) (c : Cx) (w : World) (a : Act),
  okU all L s listed = true → s.even = true → Closed all listed → drawV P T all.toList s (Q .normal) E H n → Con B c w H n → RepL c w E a.tmps.toList → a.defers = [] → wpAnyB P all (fun j => L.contains j) (Post B Q) s.size listed a w
 | .done, listed, E, H, n, c, w, a, ho, hv, hcl, h, hC, hE, hd => by
  unfold okU at ho
  exact ⟨by simpa using ho, .normal, E, H, n, c, rfl, h, hC, hE, hd⟩
 | .one i q s, listed, E, H, n, c, w, a, ho, hv, hcl, h, hC, hE, hd => by
  have ih := fun listed E H n c w a => drawV_sound hT (B := B) (Q := Q) hno (L := L) s listed E H n c w a
  unfold okU at ho
  unfold Tr.even at hv
  have h : stepU P T all.toList i q (drawV P T all.toList s (Q .normal)) E H n := h
  rw [Bool.and_eq_true] at ho
  obtain ⟨ho1, ho2⟩ := ho
  by_cases hq : q ≤ 1
  ·rw [if_pos hq, Bool.and_eq_true, Bool.and_eq_true] at ho1
   have hmem : i ∈ Region.ready .any all listed := by simpa using ho1.1.1
   exact stepU_first hT hno hq hmem ho1.1.2 ho1.2 hcl (fun E H n c w a hk hC hE hd => ih _ E H n c w a ho2 hv (hcl.set hmem) hk hC hE hd) h hC hE hd
  ·rw [if_neg hq, Bool.and_eq_true] at ho1
   have hr : Region.ready .any all listed = [i] := eq_of_beq ho1.1
   have hmem : i ∈ Region.ready .any all listed := by rw [hr]; simp
   exact wpAnyB_only hr (stepU_up hT (by omega) ho1.2 (fun E H n c w a hk hC hE hd => ih _ E H n c w a ho2 hv (hcl.set hmem) hk hC hE hd) h hC hE hd)
 | .two i q s j q' s', listed, E, H, n, c, w, a, ho, hv, hcl, h, hC, hE, hd => by
  have ih := fun listed E H n c w a => drawV_sound hT (B := B) (Q := Q) hno (L := L) s listed E H n c w a
  have ih' := fun listed E H n c w a => drawV_sound hT (B := B) (Q := Q) hno (L := L) s' listed E H n c w a
  unfold okU at ho
  unfold Tr.even at hv
  have h : Both (stepU P T all.toList i q (drawV P T all.toList s (Q .normal)) E H n) (stepU P T all.toList j q' (drawV P T all.toList s' (Q .normal)) E H n) := h
  obtain ⟨g1, g2⟩ := h.out
  simp only [Bool.and_eq_true] at ho hv
  obtain ⟨⟨⟨⟨⟨⟨q1, q2⟩, l1⟩, l2⟩, ho1⟩, ho2⟩, ho3⟩ := ho
  obtain ⟨⟨hz, hv1⟩, hv2⟩ := hv
  have hz : s.size = s'.size := by simpa using hz
  have hr : Region.ready .any all listed = [i, j] := eq_of_beq ho1
  have hi : i ∈ Region.ready .any all listed := by rw [hr]; simp
  have hj : j ∈ Region.ready .any all listed := by rw [hr]; simp
  refine ⟨fun h0 => (by rw [hr] at h0; cases h0), fun k hk => ?_⟩
  rw [hr] at hk
  have : k = i ∨ k = j := by simpa using hk
  rcases this with rfl | rfl
  ·exact stepU_up hT (by simpa using q1) l1 (fun E H n c w a hk hC hE hd => ih _ E H n c w a ho2 hv1 (hcl.set hi) hk hC hE hd) g1 hC hE hd
  ·exact stepU_up hT (by simpa using q2) l2 (fun E H n c w a hk hC hE hd => by rw [hz]; exact ih' _ E H n c w a ho3 hv2 (hcl.set hj) hk hC hE hd) g2 hC hE hd
theorem step_draws {T : Tab} (hT : TabOk P 0 T) (hm : P.follows .mixedOrders = true) {id : Nat} {ops : Array Oper} (s : Tr) (L : List Nat) {Q : X → List D → Hp → Nat → Prop} {E : List D} {H : Hp} {n : Nat}
  (hs : (Region.noSelect ops && s.size == ops.size && s.even && okU ops L s (Array.replicate ops.size false)) = true) (h : drawV P T ops.toList s (Q .normal) E H n) : Step P (.region id ops true) Q E H n := by
 refine Step.mk fun B c w a hC hE hd => ?_
 simp only [Bool.and_eq_true] at hs
 obtain ⟨⟨⟨h1, h2⟩, h3⟩, h4⟩ := hs
 obtain ⟨hC2, hk2⟩ := hC.grow (w' := w.drew) (Below.refl _ _).drew
 have h5 := drawV_sound hT (B := B) (Q := Q) (L := L) h1 s (Array.replicate ops.size false) E H n c w.drew a h4 h3 (fun j o hj hl => by
  exfalso
  rcases Nat.lt_or_ge j ops.size with h' | h'
  ·simp [h'] at hl
  ·simp [Array.getElem?_eq_none, h'] at hl) h hC2 (hE.mono hk2) hd
 rw [eq_of_beq h2] at h5
 exact wp_region_any hm (wpAny_of_B _ _ _ _ h5)
end
def convK (T : Tab) (s t : Nat) : Nat := match T[t]? with
 | some ti => (match ti.desc with
  | .string => (match T[s]? with
   | some si => (match si.desc with
    | .string => 0
    | _ => 1)
   | none => 3)
  | .slice _ => 2
  | _ => 0)
 | none => 3
def kindU (q : Nat) (o : Oper) : Nat := match o.op with
 | .load .. => 1
 | .buildSlice .. => 2
 | .alloc .. => 2
 | .convert s t _ => convK tab s t
 | .call c => (match c.callee with
  | .builtin .len => 0
  | .value _ => q
  | _ => 3)
 | .move .. | .assign .. | .pick .. | .nilCheck .. | .binOp .. | .unOp .. | .fieldAddr .. | .field .. | .indexAddr .. | .index .. | .extract .. | .build .. | .slice .. => 0
 | _ => 3
def ordsL : List Edge → List Nat
 | [] => []
 | a :: l => a.on :: ordsL l
def predsU (o : Oper) : List Nat := match o.guard with
 | some (j, _) => j :: ordsL o.after.toList
 | none => ordsL o.after.toList
def rowsU (q : Nat) : List Oper → Nat → List (Nat × Nat × List Nat)
 | [], _ => []
 | o :: l, i => (i, kindU q o, predsU o) :: rowsU q l (i + 1)
def memU : List Nat → Nat → Bool
 | [], _ => false
 | x :: l, i => bif Nat.beq x i then true else memU l i
def allIn (done : List Nat) : List Nat → Bool
 | [] => true
 | x :: l => bif memU done x then allIn done l else false
def plainU (done : List Nat) : List (Nat × Nat × List Nat) → Option (Nat × Nat)
 | [] => none
 | (i, q, ps) :: l => bif memU done i then plainU done l else bif Nat.ble q 1 then (bif allIn done ps then some (i, q) else plainU done l) else plainU done l
def loudU (done : List Nat) : List (Nat × Nat × List Nat) → List (Nat × Nat)
 | [] => []
 | (i, q, ps) :: l => bif memU done i then loudU done l else bif Nat.ble q 1 then loudU done l else (bif allIn done ps then (i, q) :: loudU done l else loudU done l)
def treeU (rows : List (Nat × Nat × List Nat)) : Nat → List Nat → Tr
 | 0, _ => .done
 | f + 1, done => match plainU done rows with
  | some (i, q) => .one i q (treeU rows f (i :: done))
  | none => match loudU done rows with
   | [(i, q)] => .one i q (treeU rows f (i :: done))
   | [(i, q), (j, q')] => .two i q (treeU rows f (i :: done)) j q' (treeU rows f (j :: done))
   | _ => .done
def loudsU : List (Nat × Nat × List Nat) → List Nat
 | [] => []
 | (i, q, _) :: l => bif Nat.beq q 3 then i :: loudsU l else loudsU l
theorem step_auto (q : Nat) {id : Nat} {ops : Array Oper} {Q : X → List D → Hp → Nat → Prop} {E : List D} {H : Hp} {n : Nat}
  (hs : (Region.noSelect ops && (treeU (rowsU q ops.toList 0) ops.toList.length []).size == ops.size && (treeU (rowsU q ops.toList 0) ops.toList.length []).even && okU ops (loudsU (rowsU q ops.toList 0)) (treeU (rowsU q ops.toList 0) ops.toList.length []) (Array.replicate ops.size false)) = true)
  (h : drawV P tab ops.toList (treeU (rowsU q ops.toList 0) ops.toList.length []) (Q .normal) E H n) : Step P (.region id ops true) Q E H n :=
 step_draws tab_ok mix _ _ hs h
end Go.Proofs.YtlhegfkpgchaeaaGreatDoor.Aw.V3

