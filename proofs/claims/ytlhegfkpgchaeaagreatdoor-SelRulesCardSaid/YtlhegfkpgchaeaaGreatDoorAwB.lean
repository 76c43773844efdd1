/- What abstract values say of a world, and what keeps it true. -/
import Derived.Test.YtlhegfkpgchaeaaGreatDoorAwA
import Derived.Test.YtlhegfkpgchaeaaGreatDoorAwU
import Derived.Below
namespace Go.Proofs.YtlhegfkpgchaeaaGreatDoor.Aw
open Go
set_option linter.unusedVariables false
structure Cx where
 φ : Nat → Nat
 τ : Nat → Value
 imm : Nat → Prop
 h : Nat
 n : Nat
abbrev nilS : Value := .slice none 0 0
abbrev blk (v : Value) : Option Nat := v.ownBlock
mutual
def RepF (imm : Nat → Prop) (w : World) : F → Value → Prop
 | .v x, y => y = x ∧ x.oneCell' = true
 | .sl es, y => ((∃ a, y = .slice a 0 0) ∧ es = []) ∨ ∃ b o cap, y = .slice (some ⟨b, o, none⟩) es.length cap ∧ es.length ≤ cap ∧ imm b ∧ RepR imm w es b o
def RepR (imm : Nat → Prop) (w : World) : List (List F) → Nat → Nat → Prop
 | [], _, _ => True
 | e :: es, b, o => RepC imm w e b o ∧ RepR imm w es b (o + e.length)
def RepC (imm : Nat → Prop) (w : World) : List F → Nat → Nat → Prop
 | [], _, _ => True
 | x :: xs, b, o => (∃ y, w.cell? ⟨b, o, none⟩ = some y ∧ RepF imm w x y) ∧ RepC imm w xs b (o + 1)
end
def RepFs (imm : Nat → Prop) (w : World) : List F → List Value → Prop
 | [], vs => vs = []
 | x :: xs, vs => ∃ v vs', vs = v :: vs' ∧ RepF imm w x v ∧ RepFs imm w xs vs'
def RepRows (imm : Nat → Prop) (w : World) (s : Nat) : List (List F) → List Value → Prop
 | [], vs => vs = []
 | e :: es, vs => ∃ ys zs, vs = ys ++ zs ∧ e.length = s ∧ RepFs imm w e ys ∧ RepRows imm w s es zs
def OwnOk (imm : Nat → Prop) (w : World) (v : Value) (t s : Nat) (es : List (List F)) : Prop :=
 0 < s ∧ ∃ xs, ownsM w 0 t s v es.length xs ∧ RepRows imm w s es xs
mutual
def Rep (c : Cx) (w : World) : D → Value → Prop
 | .junk, _ => True
 | .f x, y => RepF c.imm w x y
 | .nil, y => y = nilS
 | .agg cs, y => ∃ vs : List Value, y = .agg vs.toArray ∧ RepL c w cs vs
 | .tup cs, y => ∃ vs : List Value, y = .tuple vs.toArray ∧ RepL c w cs vs
 | .own k t s es, y => k < c.n ∧ y = c.τ k ∧ OwnOk c.imm w (c.τ k) t s es
 | .optr k t s es i o, y => k < c.n ∧ OwnOk c.imm w (c.τ k) t s es ∧ i < es.length ∧ ∃ b oo n cap, c.τ k = .slice (some ⟨b, oo, none⟩) n cap ∧ y = .pointer (some ⟨b, oo + i * s + o, none⟩)
 | .ptr k o, y => k < c.h ∧ y = .pointer (some ⟨c.φ k, o, none⟩)
 | .ip cs, y => ∃ b o, y = .pointer (some ⟨b, o, none⟩) ∧ c.imm b ∧ RepC c.imm w cs b o
 | .fn g cs, y => ∃ vs : List Value, y = .func (.func g) #[] vs.toArray ∧ RepL c w cs vs
 | .yl l ps x y cs, u => ∃ fn df, ∃ vs : List Value, u = .func (.yield l) #[] #[] ∧ c.imm l ∧ w.heap[l]? = some (.loop { state := .ready, pending := none, fn := fn, tmps := vs.toArray, params := ps.toArray, assign := x, body := y, defers := df }) ∧ RepL c w cs vs
def RepL (c : Cx) (w : World) : List D → List Value → Prop
 | [], vs => vs = []
 | d :: ds, vs => ∃ v vs', vs = v :: vs' ∧ Rep c w d v ∧ RepL c w ds vs'
end
theorem repL_nil {c : Cx} {w : World} : RepL c w [] [] := by unfold RepL; rfl
theorem repL_cons {c : Cx} {w : World} {d : D} {ds : List D} {v : Value} {vs : List Value} (h : Rep c w d v) (hs : RepL c w ds vs) : RepL c w (d :: ds) (v :: vs) := by
 unfold RepL; exact ⟨v, vs, rfl, h, hs⟩
theorem repL_cons_iff {c : Cx} {w : World} {d : D} {ds : List D} {v : Value} {vs : List Value} : RepL c w (d :: ds) (v :: vs) ↔ Rep c w d v ∧ RepL c w ds vs := by
 constructor
 ·intro h; unfold RepL at h; obtain ⟨v', vs', e, h1, h2⟩ := h; cases e; exact ⟨h1, h2⟩
 ·intro h; exact repL_cons h.1 h.2
theorem RepL.length {c : Cx} {w : World} : ∀ {ds : List D} {vs : List Value}, RepL c w ds vs → vs.length = ds.length
 | [], vs, h => by unfold RepL at h; subst h; rfl
 | d :: ds, vs, h => by unfold RepL at h; obtain ⟨v, vs', rfl, _, h⟩ := h; simp [RepL.length h]
theorem RepL.get {c : Cx} {w : World} : ∀ {ds : List D} {vs : List Value}, RepL c w ds vs → ∀ (i : Nat), Rep c w (ds.getD i .junk) (vs.getD i undef)
 | [], vs, h, i => by simp [Rep]
 | d :: ds, vs, h, i => by
  unfold RepL at h; obtain ⟨v, vs', rfl, h1, h2⟩ := h
  cases i with
  | zero => simpa using h1
  | succ i => simpa using RepL.get h2 i
theorem RepL.get? {c : Cx} {w : World} : ∀ {ds : List D} {vs : List Value}, RepL c w ds vs → ∀ (i : Nat) (d : D), ds[i]? = some d → ∃ v, vs[i]? = some v ∧ Rep c w d v
 | [], vs, h, i, d, e => by simp at e
 | d :: ds, vs, h, i, d', e => by
  unfold RepL at h; obtain ⟨v, vs', rfl, h1, h2⟩ := h
  cases i with
  | zero => simp at e; subst e; exact ⟨v, rfl, h1⟩
  | succ i => simpa using RepL.get? h2 i d' (by simpa using e)
theorem RepL.set {c : Cx} {w : World} : ∀ {ds : List D} {vs : List Value}, RepL c w ds vs → ∀ (i : Nat) (d : D) (v : Value), Rep c w d v → RepL c w (ds.set i d) (vs.set i v)
 | [], vs, h, i, d, v, hv => by unfold RepL at h; subst h; exact repL_nil
 | d :: ds, vs, h, i, d', v', hv => by
  unfold RepL at h; obtain ⟨v, vs', rfl, h1, h2⟩ := h
  cases i with
  | zero => exact repL_cons hv h2
  | succ i => exact repL_cons h1 (RepL.set h2 i d' v' hv)
theorem RepL.append {c : Cx} {w : World} : ∀ {ds es : List D} {vs us : List Value}, RepL c w ds vs → RepL c w es us → RepL c w (ds ++ es) (vs ++ us)
 | [], es, vs, us, h, h' => by unfold RepL at h; subst h; exact h'
 | d :: ds, es, vs, us, h, h' => by
  unfold RepL at h; obtain ⟨v, vs', rfl, h1, h2⟩ := h
  exact repL_cons h1 (RepL.append h2 h')
theorem RepL.drop {c : Cx} {w : World} : ∀ {ds : List D} {vs : List Value} (n : Nat), RepL c w ds vs → RepL c w (ds.drop n) (vs.drop n)
 | ds, vs, 0, h => by simpa using h
 | [], vs, n + 1, h => by unfold RepL at h; subst h; exact repL_nil
 | d :: ds, vs, n + 1, h => by
  unfold RepL at h; obtain ⟨v, vs', rfl, h1, h2⟩ := h
  simpa using RepL.drop n h2
theorem RepL.take {c : Cx} {w : World} : ∀ {ds : List D} {vs : List Value} (n : Nat), RepL c w ds vs → RepL c w (ds.take n) (vs.take n)
 | ds, vs, 0, h => by simpa using repL_nil
 | [], vs, n + 1, h => by unfold RepL at h; subst h; exact repL_nil
 | d :: ds, vs, n + 1, h => by
  unfold RepL at h; obtain ⟨v, vs', rfl, h1, h2⟩ := h
  simpa using repL_cons h1 (RepL.take n h2)
theorem repL_junk {c : Cx} {w : World} : ∀ (vs : List Value), RepL c w (List.replicate vs.length .junk) vs
 | [] => repL_nil
 | v :: vs => repL_cons (by simp [Rep]) (repL_junk vs)
def ImmKeep (imm imm' : Nat → Prop) (w w' : World) : Prop := ∀ b, imm b → imm' b ∧ w'.heap[b]? = w.heap[b]?
theorem cell_of_heap {w w' : World} {b : Nat} (h : w'.heap[b]? = w.heap[b]?) (o : Nat) : w'.cell? ⟨b, o, none⟩ = w.cell? ⟨b, o, none⟩ := World.cell?_of_block (w := w) h
mutual
theorem RepF.mono {imm imm' : Nat → Prop} {w w' : World} (hk : ImmKeep imm imm' w w') : ∀ (x : F) (y : Value), RepF imm w x y → RepF imm' w' x y
 | .v x, y, h => by unfold RepF at *; exact h
 | .sl es, y, h => by
  unfold RepF at *
  rcases h with h | ⟨b, o, cap, e, hc, hi, hr⟩
  ·exact .inl h
  ·exact .inr ⟨b, o, cap, e, hc, (hk b hi).1, RepR.mono hk es b o (hk b hi).2 hr⟩
theorem RepR.mono {imm imm' : Nat → Prop} {w w' : World} (hk : ImmKeep imm imm' w w') : ∀ (es : List (List F)) (b o : Nat), w'.heap[b]? = w.heap[b]? → RepR imm w es b o → RepR imm' w' es b o
 | [], _, _, _, _ => by unfold RepR; trivial
 | e :: es, b, o, hb, h => by
  unfold RepR at *
  exact ⟨RepC.mono hk e b o hb h.1, RepR.mono hk es b (o + e.length) hb h.2⟩
theorem RepC.mono {imm imm' : Nat → Prop} {w w' : World} (hk : ImmKeep imm imm' w w') : ∀ (xs : List F) (b o : Nat), w'.heap[b]? = w.heap[b]? → RepC imm w xs b o → RepC imm' w' xs b o
 | [], _, _, _, _ => by unfold RepC; trivial
 | x :: xs, b, o, hb, h => by
  unfold RepC at *
  obtain ⟨⟨y, hy, hx⟩, h2⟩ := h
  exact ⟨⟨y, by rw [cell_of_heap hb]; exact hy, RepF.mono hk x y hx⟩, RepC.mono hk xs b (o + 1) hb h2⟩
end
theorem RepFs.mono {imm imm' : Nat → Prop} {w w' : World} (hk : ImmKeep imm imm' w w') : ∀ (xs : List F) (vs : List Value), RepFs imm w xs vs → RepFs imm' w' xs vs
 | [], vs, h => by unfold RepFs at *; exact h
 | x :: xs, vs, h => by
  unfold RepFs at *
  obtain ⟨v, vs', e, h1, h2⟩ := h
  exact ⟨v, vs', e, h1.mono hk, RepFs.mono hk xs vs' h2⟩
theorem RepRows.mono {imm imm' : Nat → Prop} {w w' : World} (hk : ImmKeep imm imm' w w') {s : Nat} : ∀ (es : List (List F)) (vs : List Value), RepRows imm w s es vs → RepRows imm' w' s es vs
 | [], vs, h => by unfold RepRows at *; exact h
 | e :: es, vs, h => by
  unfold RepRows at *
  obtain ⟨ys, zs, e', hl, h1, h2⟩ := h
  exact ⟨ys, zs, e', hl, h1.mono hk, RepRows.mono hk es zs h2⟩
theorem ownsRow_same {w w' : World} {B e s : Nat} {v : Value} {n : Nat} {xs : List Value} (hb : ∀ b, blk v = some b → w'.heap[b]? = w.heap[b]?) (h : ownsM w B e s v n xs) : ownsM w' B e s v n xs := by
 refine ⟨h.1, ?_⟩
 rcases h.2 with h | ⟨g, cap, cur, rfl, h1, h2, h3⟩
 ·exact .inl h
 ·exact .inr ⟨g, cap, cur, rfl, h1, by rw [hb g rfl]; exact h2, h3⟩
theorem OwnOk.mono {imm imm' : Nat → Prop} {w w' : World} {v : Value} {t s : Nat} {es : List (List F)} (hk : ImmKeep imm imm' w w') (hb : ∀ b, blk v = some b → w'.heap[b]? = w.heap[b]?) (h : OwnOk imm w v t s es) : OwnOk imm' w' v t s es := by
 obtain ⟨hs, xs, h1, h2⟩ := h
 exact ⟨hs, xs, ownsRow_same hb h1, h2.mono hk⟩
structure Keep (c c' : Cx) (w w' : World) (k : Option Nat) : Prop where
 imm : ImmKeep c.imm c'.imm w w'
 h : c.h ≤ c'.h
 n : c.n ≤ c'.n
 φ : ∀ j, j < c.h → c'.φ j = c.φ j
 τ : ∀ j, j < c.n → some j ≠ k → c'.τ j = c.τ j ∧ ∀ b, blk (c.τ j) = some b → w'.heap[b]? = w.heap[b]?
theorem beq_ne {j k : Nat} (h : ¬ j = k) : Nat.beq j k = false := by
 cases e : Nat.beq j k with
 | false => rfl
 | true => exact absurd (Nat.eq_of_beq_eq_true e) h
mutual
theorem Rep.kill {c c' : Cx} {w w' : World} {k : Nat} (hk : Keep c c' w w' (some k)) : ∀ (d : D) (y : Value), Rep c w d y → Rep c' w' (d.kill k) y
 | .junk, y, h => by simp [D.kill, Rep]
 | .f x, y, h => by unfold D.kill Rep at *; exact h.mono hk.imm
 | .nil, y, h => by unfold D.kill Rep at *; exact h
 | .agg cs, y, h => by
  unfold D.kill; unfold Rep at *
  obtain ⟨vs, e, hl⟩ := h
  exact ⟨vs, e, RepL.kill hk cs vs hl⟩
 | .tup cs, y, h => by
  unfold D.kill; unfold Rep at *
  obtain ⟨vs, e, hl⟩ := h
  exact ⟨vs, e, RepL.kill hk cs vs hl⟩
 | .own j t s es, y, h => by
  unfold D.kill
  by_cases hj : j = k
  ·subst hj; simp [Rep]
  ·have : Nat.beq j k = false := beq_ne hj
   rw [this]
   unfold cond
   simp only [Rep] at *
   obtain ⟨e1, e2⟩ := hk.τ j h.1 (by simpa using hj)
   rw [e1]
   exact ⟨Nat.lt_of_lt_of_le h.1 hk.n, h.2.1, h.2.2.mono hk.imm e2⟩
 | .optr j t s es i o, y, h => by
  unfold D.kill
  by_cases hj : j = k
  ·subst hj; simp [Rep]
  ·have : Nat.beq j k = false := beq_ne hj
   rw [this]
   unfold cond
   simp only [Rep] at *
   obtain ⟨e1, e2⟩ := hk.τ j h.1 (by simpa using hj)
   rw [e1]
   exact ⟨Nat.lt_of_lt_of_le h.1 hk.n, h.2.1.mono hk.imm e2, h.2.2⟩
 | .ptr j o, y, h => by
  unfold D.kill Rep at *
  exact ⟨Nat.lt_of_lt_of_le h.1 hk.h, by rw [hk.φ j h.1]; exact h.2⟩
 | .ip cs, y, h => by
  unfold D.kill Rep at *
  obtain ⟨b, o, e, hi, hc⟩ := h
  exact ⟨b, o, e, (hk.imm b hi).1, hc.mono hk.imm _ _ _ (hk.imm b hi).2⟩
 | .fn g cs, y, h => by
  unfold D.kill; unfold Rep at *
  obtain ⟨vs, e, hl⟩ := h
  exact ⟨vs, e, RepL.kill hk cs vs hl⟩
 | .yl l ps x y cs, u, h => by
  unfold D.kill; unfold Rep at *
  obtain ⟨fn, df, vs, e, hi, hw, hl⟩ := h
  exact ⟨fn, df, vs, e, (hk.imm l hi).1, (hk.imm l hi).2.trans hw, RepL.kill hk cs vs hl⟩
theorem RepL.kill {c c' : Cx} {w w' : World} {k : Nat} (hk : Keep c c' w w' (some k)) : ∀ (ds : List D) (ys : List Value), RepL c w ds ys → RepL c' w' (killL k ds) ys
 | [], ys, h => by unfold killL; unfold RepL at *; exact h
 | d :: ds, ys, h => by
  unfold killL; unfold RepL at *
  obtain ⟨v, vs', e, h1, h2⟩ := h
  exact ⟨v, vs', e, Rep.kill hk d v h1, RepL.kill hk ds vs' h2⟩
end
theorem OwnOk.len {imm imm' : Nat → Prop} {w w' : World} {v : Value} {t s t' s' : Nat} {es es' : List (List F)} (h : OwnOk imm w v t s es) (h' : OwnOk imm' w' v t' s' es') : es.length = es'.length := by
 obtain ⟨_, xs, h1, _⟩ := h
 obtain ⟨_, ys, h2, _⟩ := h'
 rcases h1.2 with ⟨e1, e2⟩ | ⟨g, cap, cur, e1, _⟩ <;> rcases h2.2 with ⟨e3, e4⟩ | ⟨g', cap', cur', e3, _⟩
 ·omega
 ·rw [e1] at e3; cases e3
 ·rw [e1] at e3; cases e3
 ·rw [e1] at e3
  injection e3
mutual
theorem Rep.upd {c c' : Cx} {w w' : World} {k t s : Nat} {es : List (List F)} (hk : Keep c c' w w' (some k)) (hτ : c'.τ k = c.τ k) (hO : OwnOk c'.imm w' (c'.τ k) t s es) : ∀ (d : D) (y : Value), Rep c w d y → Rep c' w' (d.upd k t s es) y
 | .junk, y, h => by simp [D.upd, Rep]
 | .f x, y, h => by unfold D.upd Rep at *; exact h.mono hk.imm
 | .nil, y, h => by unfold D.upd Rep at *; exact h
 | .agg cs, y, h => by
  unfold D.upd; unfold Rep at *
  obtain ⟨vs, e, hl⟩ := h
  exact ⟨vs, e, RepL.upd hk hτ hO cs vs hl⟩
 | .tup cs, y, h => by
  unfold D.upd; unfold Rep at *
  obtain ⟨vs, e, hl⟩ := h
  exact ⟨vs, e, RepL.upd hk hτ hO cs vs hl⟩
 | .own j t' s' e, y, h => by
  unfold D.upd
  by_cases hj : j = k
  ·subst hj
   rw [Nat.beq_refl, cond_true]
   cases hb : (Nat.beq t' t && Nat.beq s' s) with
   | false => simp [Rep]
   | true =>
    simp only [Bool.and_eq_true] at hb
    have e1 := Nat.eq_of_beq_eq_true hb.1
    have e2 := Nat.eq_of_beq_eq_true hb.2
    subst e1 e2
    rw [cond_true]
    unfold Rep at *
    exact ⟨Nat.lt_of_lt_of_le h.1 hk.n, by rw [hτ]; exact h.2.1, hO⟩
  ·have : Nat.beq j k = false := beq_ne hj
   rw [this]
   unfold cond
   simp only [Rep] at *
   obtain ⟨e1, e2⟩ := hk.τ j h.1 (by simpa using hj)
   rw [e1]
   exact ⟨Nat.lt_of_lt_of_le h.1 hk.n, h.2.1, h.2.2.mono hk.imm e2⟩
 | .optr j t' s' e i o, y, h => by
  unfold D.upd
  by_cases hj : j = k
  ·subst hj
   rw [Nat.beq_refl, cond_true]
   cases hb : (Nat.beq t' t && Nat.beq s' s) with
   | false => simp [Rep]
   | true =>
    simp only [Bool.and_eq_true] at hb
    have e1 := Nat.eq_of_beq_eq_true hb.1
    have e2 := Nat.eq_of_beq_eq_true hb.2
    subst e1 e2
    rw [cond_true]
    unfold Rep at *
    obtain ⟨h1, h2, h3, h4⟩ := h
    have hl := h2.len (by rw [hτ] at hO; exact hO)
    exact ⟨Nat.lt_of_lt_of_le h1 hk.n, hO, by omega, by rw [hτ]; exact h4⟩
  ·have : Nat.beq j k = false := beq_ne hj
   rw [this]
   unfold cond
   simp only [Rep] at *
   obtain ⟨e1, e2⟩ := hk.τ j h.1 (by simpa using hj)
   rw [e1]
   exact ⟨Nat.lt_of_lt_of_le h.1 hk.n, h.2.1.mono hk.imm e2, h.2.2⟩
 | .ptr j o, y, h => by
  unfold D.upd Rep at *
  exact ⟨Nat.lt_of_lt_of_le h.1 hk.h, by rw [hk.φ j h.1]; exact h.2⟩
 | .ip cs, y, h => by
  unfold D.upd Rep at *
  obtain ⟨b, o, e, hi, hc⟩ := h
  exact ⟨b, o, e, (hk.imm b hi).1, hc.mono hk.imm _ _ _ (hk.imm b hi).2⟩
 | .fn g cs, y, h => by
  unfold D.upd; unfold Rep at *
  obtain ⟨vs, e, hl⟩ := h
  exact ⟨vs, e, RepL.upd hk hτ hO cs vs hl⟩
 | .yl l ps x y cs, u, h => by
  unfold D.upd; unfold Rep at *
  obtain ⟨fn, df, vs, e, hi, hw, hl⟩ := h
  exact ⟨fn, df, vs, e, (hk.imm l hi).1, (hk.imm l hi).2.trans hw, RepL.upd hk hτ hO cs vs hl⟩
theorem RepL.upd {c c' : Cx} {w w' : World} {k t s : Nat} {es : List (List F)} (hk : Keep c c' w w' (some k)) (hτ : c'.τ k = c.τ k) (hO : OwnOk c'.imm w' (c'.τ k) t s es) : ∀ (ds : List D) (ys : List Value), RepL c w ds ys → RepL c' w' (updL k t s es ds) ys
 | [], ys, h => by unfold updL; unfold RepL at *; exact h
 | d :: ds, ys, h => by
  unfold updL; unfold RepL at *
  obtain ⟨v, vs', e, h1, h2⟩ := h
  exact ⟨v, vs', e, Rep.upd hk hτ hO d v h1, RepL.upd hk hτ hO ds vs' h2⟩
end
mutual
theorem Rep.mono {c c' : Cx} {w w' : World} (hk : Keep c c' w w' none) : ∀ (d : D) (y : Value), Rep c w d y → Rep c' w' d y
 | .junk, y, h => by simp [Rep]
 | .f x, y, h => by unfold Rep at *; exact h.mono hk.imm
 | .nil, y, h => by unfold Rep at *; exact h
 | .agg cs, y, h => by
  unfold Rep at *
  obtain ⟨vs, e, hl⟩ := h
  exact ⟨vs, e, RepL.mono hk cs vs hl⟩
 | .tup cs, y, h => by
  unfold Rep at *
  obtain ⟨vs, e, hl⟩ := h
  exact ⟨vs, e, RepL.mono hk cs vs hl⟩
 | .own j t s es, y, h => by
  unfold Rep at *
  obtain ⟨e1, e2⟩ := hk.τ j h.1 (by simp)
  rw [e1]
  exact ⟨Nat.lt_of_lt_of_le h.1 hk.n, h.2.1, h.2.2.mono hk.imm e2⟩
 | .optr j t s es i o, y, h => by
  unfold Rep at *
  obtain ⟨e1, e2⟩ := hk.τ j h.1 (by simp)
  rw [e1]
  exact ⟨Nat.lt_of_lt_of_le h.1 hk.n, h.2.1.mono hk.imm e2, h.2.2⟩
 | .ptr j o, y, h => by
  unfold Rep at *
  exact ⟨Nat.lt_of_lt_of_le h.1 hk.h, by rw [hk.φ j h.1]; exact h.2⟩
 | .ip cs, y, h => by
  unfold Rep at *
  obtain ⟨b, o, e, hi, hc⟩ := h
  exact ⟨b, o, e, (hk.imm b hi).1, hc.mono hk.imm _ _ _ (hk.imm b hi).2⟩
 | .fn g cs, y, h => by
  unfold Rep at *
  obtain ⟨vs, e, hl⟩ := h
  exact ⟨vs, e, RepL.mono hk cs vs hl⟩
 | .yl l ps x y cs, u, h => by
  unfold Rep at *
  obtain ⟨fn, df, vs, e, hi, hw, hl⟩ := h
  exact ⟨fn, df, vs, e, (hk.imm l hi).1, (hk.imm l hi).2.trans hw, RepL.mono hk cs vs hl⟩
theorem RepL.mono {c c' : Cx} {w w' : World} (hk : Keep c c' w w' none) : ∀ (ds : List D) (ys : List Value), RepL c w ds ys → RepL c' w' ds ys
 | [], ys, h => by unfold RepL at *; exact h
 | d :: ds, ys, h => by
  unfold RepL at *
  obtain ⟨v, vs', e, h1, h2⟩ := h
  exact ⟨v, vs', e, Rep.mono hk d v h1, RepL.mono hk ds vs' h2⟩
end
end Go.Proofs.YtlhegfkpgchaeaaGreatDoor.Aw
