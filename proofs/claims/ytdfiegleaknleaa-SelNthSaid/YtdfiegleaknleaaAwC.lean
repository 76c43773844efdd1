/- What abstract values say of a world, and what keeps it true. -/
/- The tables of the library that functions read: here none is asked. -/
/- What a function's state says of a world, and what an operation, a text and a call are to do. -/
import Derived.Test.YtdfiegleaknleaaAwA
import Derived.Test.YtdfiegleaknleaaAwU
import Derived.Below
import Derived.Laws.Tables
import Derived.Laws.CopyRow
namespace Go.Proofs.Ytdfiegleaknleaa.Aw
open Go
set_option linter.unusedVariables false

/-- Blocks of objects, values of named slices, blocks that no longer turn, the number of objects, of names. -/
structure Cx where
  φ : Nat → Nat
  τ : Nat → Value
  imm : Nat → Prop
  h : Nat
  n : Nat
abbrev nilS : Value := .slice none 0 0
abbrev blk (v : Value) : Option Nat := v.ownBlock

mutual
def RepF (imm : Nat → Prop) (w : World) : F → Value → Prop
  | .v x, y => y = x ∧ x.oneCell' = true
  | .sl es, y => ((∃ a, y = .slice a 0 0) ∧ es = []) ∨ ∃ b o cap, y = .slice (some ⟨b, o, none⟩) es.length cap ∧ es.length ≤ cap ∧ imm b ∧ RepR imm w es b o
def RepR (imm : Nat → Prop) (w : World) : List (List F) → Nat → Nat → Prop
  | [], _, _ => True
  | e :: es, b, o => RepC imm w e b o ∧ RepR imm w es b (o + e.length)
def RepC (imm : Nat → Prop) (w : World) : List F → Nat → Nat → Prop
  | [], _, _ => True
  | x :: xs, b, o => (∃ y, w.cell? ⟨b, o, none⟩ = some y ∧ RepF imm w x y) ∧ RepC imm w xs b (o + 1)
end
def RepFs (imm : Nat → Prop) (w : World) : List F → List Value → Prop
  | [], vs => vs = []
  | x :: xs, vs => ∃ v vs', vs = v :: vs' ∧ RepF imm w x v ∧ RepFs imm w xs vs'
def RepRows (imm : Nat → Prop) (w : World) (s : Nat) : List (List F) → List Value → Prop
  | [], vs => vs = []
  | e :: es, vs => ∃ ys zs, vs = ys ++ zs ∧ e.length = s ∧ RepFs imm w e ys ∧ RepRows imm w s es zs
/-- A slice of one's own: nil, or the head of a row. -/
def OwnOk (imm : Nat → Prop) (w : World) (v : Value) (t s : Nat) (es : List (List F)) : Prop :=
  0 < s ∧ ∃ xs, ownsM w 0 t s v es.length xs ∧ RepRows imm w s es xs
mutual
def Rep (c : Cx) (w : World) : D → Value → Prop
  | .junk, _ => True
  | .f x, y => RepF c.imm w x y
  | .nil, y => y = nilS
  | .agg cs, y => ∃ vs : List Value, y = .agg vs.toArray ∧ RepL c w cs vs
  | .tup cs, y => ∃ vs : List Value, y = .tuple vs.toArray ∧ RepL c w cs vs
  | .own k t s es, y => k < c.n ∧ y = c.τ k ∧ OwnOk c.imm w (c.τ k) t s es
  | .optr k t s es i o, y => k < c.n ∧ OwnOk c.imm w (c.τ k) t s es ∧ i < es.length ∧ ∃ b oo n cap, c.τ k = .slice (some ⟨b, oo, none⟩) n cap ∧ y = .pointer (some ⟨b, oo + i * s + o, none⟩)
  | .ptr k o, y => k < c.h ∧ y = .pointer (some ⟨c.φ k, o, none⟩)
  | .ip cs, y => ∃ b o, y = .pointer (some ⟨b, o, none⟩) ∧ c.imm b ∧ RepC c.imm w cs b o
  | .fn g cs, y => ∃ vs : List Value, y = .func (.func g) #[] vs.toArray ∧ RepL c w cs vs
  | .yl ps x y cs, u => ∃ l fn df, ∃ vs : List Value, u = .func (.yield l) #[] #[] ∧ c.imm l ∧ w.heap[l]? = some (.loop { state := .ready, pending := none, fn := fn, tmps := vs.toArray, params := ps.toArray, assign := x, body := y, defers := df }) ∧ RepL c w cs vs
def RepL (c : Cx) (w : World) : List D → List Value → Prop
  | [], vs => vs = []
  | d :: ds, vs => ∃ v vs', vs = v :: vs' ∧ Rep c w d v ∧ RepL c w ds vs'
end
theorem repL_nil {c : Cx} {w : World} : RepL c w [] [] := by unfold RepL; rfl
theorem repL_cons {c : Cx} {w : World} {d : D} {ds : List D} {v : Value} {vs : List Value} (h : Rep c w d v) (hs : RepL c w ds vs) : RepL c w (d :: ds) (v :: vs) := by
  unfold RepL; exact ⟨v, vs, rfl, h, hs⟩
theorem repL_cons_iff {c : Cx} {w : World} {d : D} {ds : List D} {v : Value} {vs : List Value} : RepL c w (d :: ds) (v :: vs) ↔ Rep c w d v ∧ RepL c w ds vs := by
  constructor
  · intro h; unfold RepL at h; obtain ⟨v', vs', e, h1, h2⟩ := h; cases e; exact ⟨h1, h2⟩
  · intro h; exact repL_cons h.1 h.2
theorem RepL.length {c : Cx} {w : World} : ∀ {ds : List D} {vs : List Value}, RepL c w ds vs → vs.length = ds.length
  | [], vs, h => by unfold RepL at h; subst h; rfl
  | d :: ds, vs, h => by unfold RepL at h; obtain ⟨v, vs', rfl, _, h⟩ := h; simp [RepL.length h]
theorem RepL.get {c : Cx} {w : World} : ∀ {ds : List D} {vs : List Value}, RepL c w ds vs → ∀ (i : Nat), Rep c w (ds.getD i .junk) (vs.getD i undef)
  | [], vs, h, i => by simp [Rep]
  | d :: ds, vs, h, i => by
    unfold RepL at h; obtain ⟨v, vs', rfl, h1, h2⟩ := h
    cases i with
    | zero => simpa using h1
    | succ i => simpa using RepL.get h2 i
theorem RepL.get? {c : Cx} {w : World} : ∀ {ds : List D} {vs : List Value}, RepL c w ds vs → ∀ (i : Nat) (d : D), ds[i]? = some d → ∃ v, vs[i]? = some v ∧ Rep c w d v
  | [], vs, h, i, d, e => by simp at e
  | d :: ds, vs, h, i, d', e => by
    unfold RepL at h; obtain ⟨v, vs', rfl, h1, h2⟩ := h
    cases i with
    | zero => simp at e; subst e; exact ⟨v, rfl, h1⟩
    | succ i => simpa using RepL.get? h2 i d' (by simpa using e)
theorem RepL.set {c : Cx} {w : World} : ∀ {ds : List D} {vs : List Value}, RepL c w ds vs → ∀ (i : Nat) (d : D) (v : Value), Rep c w d v → RepL c w (ds.set i d) (vs.set i v)
  | [], vs, h, i, d, v, hv => by unfold RepL at h; subst h; exact repL_nil
  | d :: ds, vs, h, i, d', v', hv => by
    unfold RepL at h; obtain ⟨v, vs', rfl, h1, h2⟩ := h
    cases i with
    | zero => exact repL_cons hv h2
    | succ i => exact repL_cons h1 (RepL.set h2 i d' v' hv)
theorem RepL.append {c : Cx} {w : World} : ∀ {ds es : List D} {vs us : List Value}, RepL c w ds vs → RepL c w es us → RepL c w (ds ++ es) (vs ++ us)
  | [], es, vs, us, h, h' => by unfold RepL at h; subst h; exact h'
  | d :: ds, es, vs, us, h, h' => by
    unfold RepL at h; obtain ⟨v, vs', rfl, h1, h2⟩ := h
    exact repL_cons h1 (RepL.append h2 h')
theorem RepL.drop {c : Cx} {w : World} : ∀ {ds : List D} {vs : List Value} (n : Nat), RepL c w ds vs → RepL c w (ds.drop n) (vs.drop n)
  | ds, vs, 0, h => by simpa using h
  | [], vs, n + 1, h => by unfold RepL at h; subst h; exact repL_nil
  | d :: ds, vs, n + 1, h => by
    unfold RepL at h; obtain ⟨v, vs', rfl, h1, h2⟩ := h
    simpa using RepL.drop n h2
theorem RepL.take {c : Cx} {w : World} : ∀ {ds : List D} {vs : List Value} (n : Nat), RepL c w ds vs → RepL c w (ds.take n) (vs.take n)
  | ds, vs, 0, h => by simpa using repL_nil
  | [], vs, n + 1, h => by unfold RepL at h; subst h; exact repL_nil
  | d :: ds, vs, n + 1, h => by
    unfold RepL at h; obtain ⟨v, vs', rfl, h1, h2⟩ := h
    simpa using repL_cons h1 (RepL.take n h2)
theorem repL_junk {c : Cx} {w : World} : ∀ (vs : List Value), RepL c w (List.replicate vs.length .junk) vs
  | [] => repL_nil
  | v :: vs => repL_cons (by simp [Rep]) (repL_junk vs)

/-- What is no longer turned stays. -/
def ImmKeep (imm imm' : Nat → Prop) (w w' : World) : Prop := ∀ b, imm b → imm' b ∧ w'.heap[b]? = w.heap[b]?
theorem cell_of_heap {w w' : World} {b : Nat} (h : w'.heap[b]? = w.heap[b]?) (o : Nat) : w'.cell? ⟨b, o, none⟩ = w.cell? ⟨b, o, none⟩ := World.cell?_of_block (w := w) h
theorem frozen_of_heap {w w' : World} {b : Nat} (h : w'.heap[b]? = w.heap[b]?) (o : Nat) : w'.frozen? ⟨b, o, none⟩ = w.frozen? ⟨b, o, none⟩ := World.frozen?_of_block (w := w) h
mutual
theorem RepF.mono {imm imm' : Nat → Prop} {w w' : World} (hk : ImmKeep imm imm' w w') : ∀ (x : F) (y : Value), RepF imm w x y → RepF imm' w' x y
  | .v x, y, h => by unfold RepF at *; exact h
  | .sl es, y, h => by
    unfold RepF at *
    rcases h with h | ⟨b, o, cap, e, hc, hi, hr⟩
    · exact .inl h
    · exact .inr ⟨b, o, cap, e, hc, (hk b hi).1, RepR.mono hk es b o (hk b hi).2 hr⟩
theorem RepR.mono {imm imm' : Nat → Prop} {w w' : World} (hk : ImmKeep imm imm' w w') : ∀ (es : List (List F)) (b o : Nat), w'.heap[b]? = w.heap[b]? → RepR imm w es b o → RepR imm' w' es b o
  | [], _, _, _, _ => by unfold RepR; trivial
  | e :: es, b, o, hb, h => by
    unfold RepR at *
    exact ⟨RepC.mono hk e b o hb h.1, RepR.mono hk es b (o + e.length) hb h.2⟩
theorem RepC.mono {imm imm' : Nat → Prop} {w w' : World} (hk : ImmKeep imm imm' w w') : ∀ (xs : List F) (b o : Nat), w'.heap[b]? = w.heap[b]? → RepC imm w xs b o → RepC imm' w' xs b o
  | [], _, _, _, _ => by unfold RepC; trivial
  | x :: xs, b, o, hb, h => by
    unfold RepC at *
    obtain ⟨⟨y, hy, hx⟩, h2⟩ := h
    exact ⟨⟨y, by rw [cell_of_heap hb]; exact hy, RepF.mono hk x y hx⟩, RepC.mono hk xs b (o + 1) hb h2⟩
end
theorem RepFs.mono {imm imm' : Nat → Prop} {w w' : World} (hk : ImmKeep imm imm' w w') : ∀ (xs : List F) (vs : List Value), RepFs imm w xs vs → RepFs imm' w' xs vs
  | [], vs, h => by unfold RepFs at *; exact h
  | x :: xs, vs, h => by
    unfold RepFs at *
    obtain ⟨v, vs', e, h1, h2⟩ := h
    exact ⟨v, vs', e, h1.mono hk, RepFs.mono hk xs vs' h2⟩
theorem RepRows.mono {imm imm' : Nat → Prop} {w w' : World} (hk : ImmKeep imm imm' w w') {s : Nat} : ∀ (es : List (List F)) (vs : List Value), RepRows imm w s es vs → RepRows imm' w' s es vs
  | [], vs, h => by unfold RepRows at *; exact h
  | e :: es, vs, h => by
    unfold RepRows at *
    obtain ⟨ys, zs, e', hl, h1, h2⟩ := h
    exact ⟨ys, zs, e', hl, h1.mono hk, RepRows.mono hk es zs h2⟩
theorem ownsRow_same {w w' : World} {B e s : Nat} {v : Value} {n : Nat} {xs : List Value} (hb : ∀ b, blk v = some b → w'.heap[b]? = w.heap[b]?) (h : ownsM w B e s v n xs) : ownsM w' B e s v n xs := by
  refine ⟨h.1, ?_⟩
  rcases h.2 with h | ⟨g, cap, cur, rfl, h1, h2, h3⟩
  · exact .inl h
  · exact .inr ⟨g, cap, cur, rfl, h1, by rw [hb g rfl]; exact h2, h3⟩
theorem OwnOk.mono {imm imm' : Nat → Prop} {w w' : World} {v : Value} {t s : Nat} {es : List (List F)} (hk : ImmKeep imm imm' w w') (hb : ∀ b, blk v = some b → w'.heap[b]? = w.heap[b]?) (h : OwnOk imm w v t s es) : OwnOk imm' w' v t s es := by
  obtain ⟨hs, xs, h1, h2⟩ := h
  exact ⟨hs, xs, ownsRow_same hb h1, h2.mono hk⟩

/-- From one context to a later one: all names but 'k' mean what they meant. -/
structure Keep (c c' : Cx) (w w' : World) (k : Option Nat) : Prop where
  imm : ImmKeep c.imm c'.imm w w'
  h : c.h ≤ c'.h
  n : c.n ≤ c'.n
  φ : ∀ j, j < c.h → c'.φ j = c.φ j
  τ : ∀ j, j < c.n → some j ≠ k → c'.τ j = c.τ j ∧ ∀ b, blk (c.τ j) = some b → w'.heap[b]? = w.heap[b]?
theorem beq_ne {j k : Nat} (h : ¬ j = k) : Nat.beq j k = false := by
  cases e : Nat.beq j k with
  | false => rfl
  | true => exact absurd (Nat.eq_of_beq_eq_true e) h
mutual
theorem Rep.kill {c c' : Cx} {w w' : World} {k : Nat} (hk : Keep c c' w w' (some k)) : ∀ (d : D) (y : Value), Rep c w d y → Rep c' w' (d.kill k) y
  | .junk, y, h => by simp [D.kill, Rep]
  | .f x, y, h => by unfold D.kill Rep at *; exact h.mono hk.imm
  | .nil, y, h => by unfold D.kill Rep at *; exact h
  | .agg cs, y, h => by
    unfold D.kill; unfold Rep at *
    obtain ⟨vs, e, hl⟩ := h
    exact ⟨vs, e, RepL.kill hk cs vs hl⟩
  | .tup cs, y, h => by
    unfold D.kill; unfold Rep at *
    obtain ⟨vs, e, hl⟩ := h
    exact ⟨vs, e, RepL.kill hk cs vs hl⟩
  | .own j t s es, y, h => by
    unfold D.kill
    by_cases hj : j = k
    · subst hj; simp [Rep]
    · have : Nat.beq j k = false := beq_ne hj
      rw [this]
      unfold cond
      simp only [Rep] at *
      obtain ⟨e1, e2⟩ := hk.τ j h.1 (by simpa using hj)
      rw [e1]
      exact ⟨Nat.lt_of_lt_of_le h.1 hk.n, h.2.1, h.2.2.mono hk.imm e2⟩
  | .optr j t s es i o, y, h => by
    unfold D.kill
    by_cases hj : j = k
    · subst hj; simp [Rep]
    · have : Nat.beq j k = false := beq_ne hj
      rw [this]
      unfold cond
      simp only [Rep] at *
      obtain ⟨e1, e2⟩ := hk.τ j h.1 (by simpa using hj)
      rw [e1]
      exact ⟨Nat.lt_of_lt_of_le h.1 hk.n, h.2.1.mono hk.imm e2, h.2.2⟩
  | .ptr j o, y, h => by
    unfold D.kill Rep at *
    exact ⟨Nat.lt_of_lt_of_le h.1 hk.h, by rw [hk.φ j h.1]; exact h.2⟩
  | .ip cs, y, h => by
    unfold D.kill Rep at *
    obtain ⟨b, o, e, hi, hc⟩ := h
    exact ⟨b, o, e, (hk.imm b hi).1, hc.mono hk.imm _ _ _ (hk.imm b hi).2⟩
  | .fn g cs, y, h => by
    unfold D.kill; unfold Rep at *
    obtain ⟨vs, e, hl⟩ := h
    exact ⟨vs, e, RepL.kill hk cs vs hl⟩
  | .yl ps x y cs, u, h => by
    unfold D.kill; unfold Rep at *
    obtain ⟨l, fn, df, vs, e, hi, hw, hl⟩ := h
    exact ⟨l, fn, df, vs, e, (hk.imm l hi).1, (hk.imm l hi).2.trans hw, RepL.kill hk cs vs hl⟩
theorem RepL.kill {c c' : Cx} {w w' : World} {k : Nat} (hk : Keep c c' w w' (some k)) : ∀ (ds : List D) (ys : List Value), RepL c w ds ys → RepL c' w' (killL k ds) ys
  | [], ys, h => by unfold killL; unfold RepL at *; exact h
  | d :: ds, ys, h => by
    unfold killL; unfold RepL at *
    obtain ⟨v, vs', e, h1, h2⟩ := h
    exact ⟨v, vs', e, Rep.kill hk d v h1, RepL.kill hk ds vs' h2⟩
end
theorem OwnOk.len {imm imm' : Nat → Prop} {w w' : World} {v : Value} {t s t' s' : Nat} {es es' : List (List F)} (h : OwnOk imm w v t s es) (h' : OwnOk imm' w' v t' s' es') : es.length = es'.length := by
  obtain ⟨_, xs, h1, _⟩ := h
  obtain ⟨_, ys, h2, _⟩ := h'
  rcases h1.2 with ⟨e1, e2⟩ | ⟨g, cap, cur, e1, _⟩ <;> rcases h2.2 with ⟨e3, e4⟩ | ⟨g', cap', cur', e3, _⟩
  · omega
  · rw [e1] at e3; cases e3
  · rw [e1] at e3; cases e3
  · rw [e1] at e3
    injection e3
mutual
/-- One named slice was written. -/
theorem Rep.upd {c c' : Cx} {w w' : World} {k t s : Nat} {es : List (List F)} (hk : Keep c c' w w' (some k)) (hτ : c'.τ k = c.τ k) (hO : OwnOk c'.imm w' (c'.τ k) t s es) : ∀ (d : D) (y : Value), Rep c w d y → Rep c' w' (d.upd k t s es) y
  | .junk, y, h => by simp [D.upd, Rep]
  | .f x, y, h => by unfold D.upd Rep at *; exact h.mono hk.imm
  | .nil, y, h => by unfold D.upd Rep at *; exact h
  | .agg cs, y, h => by
    unfold D.upd; unfold Rep at *
    obtain ⟨vs, e, hl⟩ := h
    exact ⟨vs, e, RepL.upd hk hτ hO cs vs hl⟩
  | .tup cs, y, h => by
    unfold D.upd; unfold Rep at *
    obtain ⟨vs, e, hl⟩ := h
    exact ⟨vs, e, RepL.upd hk hτ hO cs vs hl⟩
  | .own j t' s' e, y, h => by
    unfold D.upd
    by_cases hj : j = k
    · subst hj
      rw [Nat.beq_refl, cond_true]
      cases hb : (Nat.beq t' t && Nat.beq s' s) with
      | false => simp [Rep]
      | true =>
        simp only [Bool.and_eq_true] at hb
        have e1 := Nat.eq_of_beq_eq_true hb.1
        have e2 := Nat.eq_of_beq_eq_true hb.2
        subst e1 e2
        rw [cond_true]
        unfold Rep at *
        exact ⟨Nat.lt_of_lt_of_le h.1 hk.n, by rw [hτ]; exact h.2.1, hO⟩
    · have : Nat.beq j k = false := beq_ne hj
      rw [this]
      unfold cond
      simp only [Rep] at *
      obtain ⟨e1, e2⟩ := hk.τ j h.1 (by simpa using hj)
      rw [e1]
      exact ⟨Nat.lt_of_lt_of_le h.1 hk.n, h.2.1, h.2.2.mono hk.imm e2⟩
  | .optr j t' s' e i o, y, h => by
    unfold D.upd
    by_cases hj : j = k
    · subst hj
      rw [Nat.beq_refl, cond_true]
      cases hb : (Nat.beq t' t && Nat.beq s' s) with
      | false => simp [Rep]
      | true =>
        simp only [Bool.and_eq_true] at hb
        have e1 := Nat.eq_of_beq_eq_true hb.1
        have e2 := Nat.eq_of_beq_eq_true hb.2
        subst e1 e2
        rw [cond_true]
        unfold Rep at *
        obtain ⟨h1, h2, h3, h4⟩ := h
        have hl := h2.len (by rw [hτ] at hO; exact hO)
        exact ⟨Nat.lt_of_lt_of_le h1 hk.n, hO, by omega, by rw [hτ]; exact h4⟩
    · have : Nat.beq j k = false := beq_ne hj
      rw [this]
      unfold cond
      simp only [Rep] at *
      obtain ⟨e1, e2⟩ := hk.τ j h.1 (by simpa using hj)
      rw [e1]
      exact ⟨Nat.lt_of_lt_of_le h.1 hk.n, h.2.1.mono hk.imm e2, h.2.2⟩
  | .ptr j o, y, h => by
    unfold D.upd Rep at *
    exact ⟨Nat.lt_of_lt_of_le h.1 hk.h, by rw [hk.φ j h.1]; exact h.2⟩
  | .ip cs, y, h => by
    unfold D.upd Rep at *
    obtain ⟨b, o, e, hi, hc⟩ := h
    exact ⟨b, o, e, (hk.imm b hi).1, hc.mono hk.imm _ _ _ (hk.imm b hi).2⟩
  | .fn g cs, y, h => by
    unfold D.upd; unfold Rep at *
    obtain ⟨vs, e, hl⟩ := h
    exact ⟨vs, e, RepL.upd hk hτ hO cs vs hl⟩
  | .yl ps x y cs, u, h => by
    unfold D.upd; unfold Rep at *
    obtain ⟨l, fn, df, vs, e, hi, hw, hl⟩ := h
    exact ⟨l, fn, df, vs, e, (hk.imm l hi).1, (hk.imm l hi).2.trans hw, RepL.upd hk hτ hO cs vs hl⟩
theorem RepL.upd {c c' : Cx} {w w' : World} {k t s : Nat} {es : List (List F)} (hk : Keep c c' w w' (some k)) (hτ : c'.τ k = c.τ k) (hO : OwnOk c'.imm w' (c'.τ k) t s es) : ∀ (ds : List D) (ys : List Value), RepL c w ds ys → RepL c' w' (updL k t s es ds) ys
  | [], ys, h => by unfold updL; unfold RepL at *; exact h
  | d :: ds, ys, h => by
    unfold updL; unfold RepL at *
    obtain ⟨v, vs', e, h1, h2⟩ := h
    exact ⟨v, vs', e, Rep.upd hk hτ hO d v h1, RepL.upd hk hτ hO ds vs' h2⟩
end
mutual
theorem Rep.mono {c c' : Cx} {w w' : World} (hk : Keep c c' w w' none) : ∀ (d : D) (y : Value), Rep c w d y → Rep c' w' d y
  | .junk, y, h => by simp [Rep]
  | .f x, y, h => by unfold Rep at *; exact h.mono hk.imm
  | .nil, y, h => by unfold Rep at *; exact h
  | .agg cs, y, h => by
    unfold Rep at *
    obtain ⟨vs, e, hl⟩ := h
    exact ⟨vs, e, RepL.mono hk cs vs hl⟩
  | .tup cs, y, h => by
    unfold Rep at *
    obtain ⟨vs, e, hl⟩ := h
    exact ⟨vs, e, RepL.mono hk cs vs hl⟩
  | .own j t s es, y, h => by
    unfold Rep at *
    obtain ⟨e1, e2⟩ := hk.τ j h.1 (by simp)
    rw [e1]
    exact ⟨Nat.lt_of_lt_of_le h.1 hk.n, h.2.1, h.2.2.mono hk.imm e2⟩
  | .optr j t s es i o, y, h => by
    unfold Rep at *
    obtain ⟨e1, e2⟩ := hk.τ j h.1 (by simp)
    rw [e1]
    exact ⟨Nat.lt_of_lt_of_le h.1 hk.n, h.2.1.mono hk.imm e2, h.2.2⟩
  | .ptr j o, y, h => by
    unfold Rep at *
    exact ⟨Nat.lt_of_lt_of_le h.1 hk.h, by rw [hk.φ j h.1]; exact h.2⟩
  | .ip cs, y, h => by
    unfold Rep at *
    obtain ⟨b, o, e, hi, hc⟩ := h
    exact ⟨b, o, e, (hk.imm b hi).1, hc.mono hk.imm _ _ _ (hk.imm b hi).2⟩
  | .fn g cs, y, h => by
    unfold Rep at *
    obtain ⟨vs, e, hl⟩ := h
    exact ⟨vs, e, RepL.mono hk cs vs hl⟩
  | .yl ps x y cs, u, h => by
    unfold Rep at *
    obtain ⟨l, fn, df, vs, e, hi, hw, hl⟩ := h
    exact ⟨l, fn, df, vs, e, (hk.imm l hi).1, (hk.imm l hi).2.trans hw, RepL.mono hk cs vs hl⟩
theorem RepL.mono {c c' : Cx} {w w' : World} (hk : Keep c c' w w' none) : ∀ (ds : List D) (ys : List Value), RepL c w ds ys → RepL c' w' ds ys
  | [], ys, h => by unfold RepL at *; exact h
  | d :: ds, ys, h => by
    unfold RepL at *
    obtain ⟨v, vs', e, h1, h2⟩ := h
    exact ⟨v, vs', e, Rep.mono hk d v h1, RepL.mono hk ds vs' h2⟩
end
end Go.Proofs.Ytdfiegleaknleaa.Aw

namespace Go.Proofs.Ytdfiegleaknleaa.Aw
open Go
set_option linter.unusedVariables false
/-- The tables' blocks, and what stands in them. -/
def tabB (b : Nat) : Prop := False
def tabP (w : World) : Prop := True
theorem tabP_mono {w w' : World} (h : ∀ b, tabB b → w'.heap[b]? = w.heap[b]?) (ht : tabP w) : tabP w' := trivial
theorem tabP_off {w w' : World} {l : Nat} {r : Loop} (hl : w.heap[l]? = some (.loop r)) (h : ∀ b, b ≠ l → w'.heap[b]? = w.heap[b]?) (ht : tabP w) : tabP w' := trivial
structure Glob (imm : Nat → Prop) (w : World) : Prop where
  imm : ∀ b, tabB b → imm b
  tab : tabP w
theorem Glob.keep {imm imm' : Nat → Prop} {w w' : World} (h : Glob imm w) (hk : ImmKeep imm imm' w w') : Glob imm' w' :=
  ⟨fun b hb => (hk b (h.imm b hb)).1, tabP_mono (fun b hb => (hk b (h.imm b hb)).2) h.tab⟩
theorem laidOk (w : World) : Glob (fun b => b < w.heap.size) w := ⟨fun _ h => h.elim, trivial⟩
end Go.Proofs.Ytdfiegleaknleaa.Aw

namespace Go.Proofs.Ytdfiegleaknleaa.Aw
open Go Go.RowKit
set_option linter.unusedVariables false

/-- Where a call began: its world, the blocks that it may write, those that no longer turn, its objects. -/
structure Base where
  w0 : World
  m0 : Nat → Prop
  i0 : Nat → Prop
  φ0 : Nat → Nat
  h0 : Nat
structure Con (B : Base) (c : Cx) (w : World) (H : Hp) (n : Nat) : Prop where
  os : w.os = B.w0.os
  tape : w.tape = B.w0.tape
  output : w.output = B.w0.output
  size : B.w0.heap.size ≤ w.heap.size
  old : ∀ b, b < B.w0.heap.size → ¬ B.m0 b → w.heap[b]? = B.w0.heap[b]?
  imm0 : ∀ b, B.i0 b → c.imm b
  immB : ∀ b, c.imm b → b < w.heap.size ∧ (B.i0 b ∨ B.m0 b ∨ B.w0.heap.size ≤ b)
  hlen : c.h = H.length
  nlen : c.n = n
  hh : B.h0 ≤ c.h
  phi : ∀ k, k < B.h0 → c.φ k = B.φ0 k
  objs : ∀ k cs, H[k]? = some (some cs) → ∃ C T, w.heap[c.φ k]? = some (.cells C T (0, 0)) ∧ RepL c w cs C.toList
  objM : ∀ k cs, H[k]? = some (some cs) → (B.m0 (c.φ k) ∨ B.w0.heap.size ≤ c.φ k) ∧ ¬ c.imm (c.φ k)
  inj : ∀ j k cs ds, H[j]? = some (some cs) → H[k]? = some (some ds) → c.φ j = c.φ k → j = k
  tags : ∀ k b, blk (c.τ k) = some b → b < w.heap.size ∧ ¬ c.imm b ∧ (B.m0 b ∨ B.w0.heap.size ≤ b) ∧ ∀ j cs, H[j]? = some (some cs) → c.φ j ≠ b
  tagInj : ∀ j k b, blk (c.τ j) = some b → blk (c.τ k) = some b → j = k
  high : ∀ k, n ≤ k → c.τ k = nilS
  glob : Glob c.imm w

theorem Con.objLt {B : Base} {c : Cx} {w : World} {H : Hp} {n : Nat} (h : Con B c w H n) {k : Nat} {cs : Cells} (hk : H[k]? = some (some cs)) : c.φ k < w.heap.size := by
  obtain ⟨C, T, e, _⟩ := h.objs k cs hk
  exact (Array.getElem?_eq_some_iff.1 e).1

/-- The world turned in nothing that the state speaks of (new blocks, draws). -/
theorem Con.grow {B : Base} {c : Cx} {w w' : World} {H : Hp} {n : Nat} (h : Con B c w H n) (hb : Below w.heap.size w w') : Con B c w' H n ∧ Keep c c w w' none := by
  have hsame : ∀ b, b < w.heap.size → w'.heap[b]? = w.heap[b]? := hb.block
  have hkeep : Keep c c w w' none := ⟨fun b hi => ⟨hi, hsame b (h.immB b hi).1⟩, Nat.le_refl _, Nat.le_refl _, fun _ _ => rfl, fun j _ _ => ⟨rfl, fun b hb' => hsame b (h.tags j b hb').1⟩⟩
  refine ⟨⟨hb.os.trans h.os, hb.tape.trans h.tape, hb.output.trans h.output, Nat.le_trans h.size hb.size, fun b hb1 hm => ?_, h.imm0, fun b hi => ?_, h.hlen, h.nlen, h.hh, h.phi, fun k cs hk => ?_, h.objM, h.inj, fun k b hb1 => ?_, h.tagInj, h.high, h.glob.keep hkeep.imm⟩, hkeep⟩
  · rw [hsame b (Nat.lt_of_lt_of_le hb1 h.size)]; exact h.old b hb1 hm
  · obtain ⟨h1, h2⟩ := h.immB b hi
    exact ⟨Nat.lt_of_lt_of_le h1 hb.size, h2⟩
  · obtain ⟨C, T, e, hr⟩ := h.objs k cs hk
    exact ⟨C, T, by rw [hsame _ (h.objLt hk)]; exact e, hr.mono hkeep⟩
  · obtain ⟨h1, h2⟩ := h.tags k b hb1
    exact ⟨Nat.lt_of_lt_of_le h1 hb.size, h2⟩

def Cx.push (c : Cx) (b : Nat) : Cx := ⟨fun k => if k = c.h then b else c.φ k, c.τ, c.imm, c.h + 1, c.n⟩
theorem getElem?_push_last {α : Type} (l : List α) (x : α) (k : Nat) (y : α) (h : (l ++ [x])[k]? = some y) : (k < l.length ∧ l[k]? = some y) ∨ (k = l.length ∧ y = x) := by
  rcases Nat.lt_or_ge k l.length with hk | hk
  · exact .inl ⟨hk, by rwa [List.getElem?_append_left hk] at h⟩
  · right
    rw [List.getElem?_append_right hk] at h
    have : k - l.length = 0 := by
      rcases Nat.eq_zero_or_pos (k - l.length) with h0 | h0
      · exact h0
      · rw [List.getElem?_eq_none (by simp; omega)] at h; cases h
    rw [this] at h
    simp at h
    exact ⟨by omega, h.symm⟩
theorem heap_alloc_lt (w : World) (o : Obj) {b : Nat} (h : b < w.heap.size) : (w.alloc o).heap[b]? = w.heap[b]? := Below.heap_alloc w o b h
theorem heap_alloc_last (w : World) (o : Obj) : (w.alloc o).heap[w.heap.size]? = some o := by
  show (w.heap.push o)[w.heap.size]? = _
  simp

/-- A new object. -/
theorem Con.push {B : Base} {c : Cx} {w : World} {H : Hp} {n : Nat} (h : Con B c w H n) {cs : Cells} {C : Array Value} {T : TypeId} (hr : RepL c w cs C.toList) :
    Con B (c.push w.heap.size) (w.alloc (.cells C T)) (H ++ [some cs]) n ∧ Keep c (c.push w.heap.size) w (w.alloc (.cells C T)) none := by
  have hbel : Below w.heap.size w (w.alloc (.cells C T)) := (Below.refl _ _).alloc (Nat.le_refl _) _
  have hφ : ∀ j, j < c.h → (c.push w.heap.size).φ j = c.φ j := fun j hj => by
    show (if j = c.h then _ else _) = _
    rw [if_neg (by omega)]
  have hφh : (c.push w.heap.size).φ c.h = w.heap.size := by
    show (if c.h = c.h then _ else _) = _
    rw [if_pos rfl]
  have hkeep : Keep c (c.push w.heap.size) w (w.alloc (.cells C T)) none :=
    ⟨fun b hi => ⟨hi, hbel.block b (h.immB b hi).1⟩, Nat.le_succ _, Nat.le_refl _, hφ, fun j _ _ => ⟨rfl, fun b hb' => hbel.block b (h.tags j b hb').1⟩⟩
  have hlt : ∀ k cs', H[k]? = some (some cs') → k < c.h := fun k cs' hk => by rw [h.hlen]; exact (List.getElem?_eq_some_iff.1 hk).1
  refine ⟨⟨h.os, h.tape, h.output, Nat.le_trans h.size hbel.size, fun b hb1 hm => ?_, h.imm0, fun b hi => ?_, ?_, h.nlen, Nat.le_succ_of_le h.hh, fun k hk => ?_, fun k cs' hk => ?_, fun k cs' hk => ?_, fun j k cs' ds hj hk he => ?_, fun k b hb1 => ?_, h.tagInj, h.high, h.glob.keep hkeep.imm⟩, hkeep⟩
  · rw [hbel.block b (Nat.lt_of_lt_of_le hb1 h.size)]; exact h.old b hb1 hm
  · obtain ⟨h1, h2⟩ := h.immB b hi
    exact ⟨Nat.lt_of_lt_of_le h1 hbel.size, h2⟩
  · show c.h + 1 = _
    simp [h.hlen]
  · rw [hφ k (Nat.lt_of_lt_of_le hk h.hh)]; exact h.phi k hk
  · rcases getElem?_push_last _ _ _ _ hk with ⟨hk1, hk2⟩ | ⟨hk1, hk2⟩
    · obtain ⟨C', T', e, hr'⟩ := h.objs k cs' hk2
      rw [hφ k (hlt k cs' hk2)]
      exact ⟨C', T', by rw [hbel.block _ (h.objLt hk2)]; exact e, hr'.mono hkeep⟩
    · cases hk2
      rw [hk1, ← h.hlen, hφh]
      exact ⟨C, T, heap_alloc_last w _, hr.mono hkeep⟩
  · rcases getElem?_push_last _ _ _ _ hk with ⟨hk1, hk2⟩ | ⟨hk1, hk2⟩
    · rw [hφ k (hlt k cs' hk2)]; exact h.objM k cs' hk2
    · rw [hk1, ← h.hlen, hφh]
      exact ⟨.inr h.size, fun hi => absurd (h.immB _ hi).1 (Nat.lt_irrefl _)⟩
  · rcases getElem?_push_last _ _ _ _ hj with ⟨hj1, hj2⟩ | ⟨hj1, hj2⟩ <;> rcases getElem?_push_last _ _ _ _ hk with ⟨hk1, hk2⟩ | ⟨hk1, hk2⟩
    · rw [hφ j (hlt j cs' hj2), hφ k (hlt k ds hk2)] at he
      exact h.inj j k cs' ds hj2 hk2 he
    · rw [hφ j (hlt j cs' hj2), hk1, ← h.hlen, hφh] at he
      have := h.objLt hj2
      omega
    · rw [hj1, ← h.hlen, hφh, hφ k (hlt k ds hk2)] at he
      have := h.objLt hk2
      omega
    · omega
  · obtain ⟨h1, h2, h3, h4⟩ := h.tags k b hb1
    refine ⟨Nat.lt_of_lt_of_le h1 hbel.size, h2, h3, fun j cs' hj => ?_⟩
    rcases getElem?_push_last _ _ _ _ hj with ⟨hj1, hj2⟩ | ⟨hj1, hj2⟩
    · rw [hφ j (hlt j cs' hj2)]; exact h4 j cs' hj2
    · rw [hj1, ← h.hlen, hφh]; omega

/-- An object is written. -/
theorem Con.write {B : Base} {c : Cx} {w : World} {H : Hp} {n k : Nat} (h : Con B c w H n) {cs cs' : Cells} (hk : H[k]? = some (some cs)) {C' : Array Value} (hr : RepL c w cs' C'.toList) :
    Con B c (w.setRow (c.φ k) C') (H.set k (some cs')) n ∧ Keep c c w (w.setRow (c.φ k) C') none := by
  obtain ⟨C, T, e, _⟩ := h.objs k cs hk
  have hoth : ∀ b, b ≠ c.φ k → (w.setRow (c.φ k) C').heap[b]? = w.heap[b]? := fun b hb => setRow_other w _ b C' hb
  have hkeep : Keep c c w (w.setRow (c.φ k) C') none :=
    ⟨fun b hi => ⟨hi, hoth b (fun e => (h.objM k cs hk).2 (e ▸ hi))⟩, Nat.le_refl _, Nat.le_refl _, fun _ _ => rfl, fun j _ _ => ⟨rfl, fun b hb' => hoth b (fun e => (h.tags j b hb').2.2.2 k cs hk e.symm)⟩⟩
  have hlt : k < H.length := (List.getElem?_eq_some_iff.1 hk).1
  have hget : ∀ j ds, (H.set k (some cs'))[j]? = some (some ds) → (j = k ∧ ds = cs') ∨ (j ≠ k ∧ H[j]? = some (some ds)) := fun j ds hj => by
    by_cases hjk : j = k
    · subst hjk; rw [List.getElem?_set_self hlt] at hj; cases hj; exact .inl ⟨rfl, rfl⟩
    · rw [List.getElem?_set_ne (by omega)] at hj; exact .inr ⟨hjk, hj⟩
  have hsome : ∀ j ds, (H.set k (some cs'))[j]? = some (some ds) → ∃ ds', H[j]? = some (some ds') := fun j ds hj => by
    rcases hget j ds hj with ⟨rfl, _⟩ | ⟨_, h'⟩
    · exact ⟨cs, hk⟩
    · exact ⟨ds, h'⟩
  refine ⟨⟨h.os, h.tape, h.output, by rw [setRow_size]; exact h.size, fun b hb1 hm => ?_, h.imm0, fun b hi => by rw [setRow_size]; exact h.immB b hi, by rw [h.hlen]; simp, h.nlen, h.hh, h.phi, fun j ds hj => ?_, fun j ds hj => ?_, fun i j ds es hi hj he => ?_, fun j b hb1 => ?_, h.tagInj, h.high, h.glob.keep hkeep.imm⟩, hkeep⟩
  · rw [hoth b (fun e => ?_)]
    · exact h.old b hb1 hm
    · rcases (h.objM k cs hk).1 with hm' | hm'
      · exact hm (e ▸ hm')
      · omega
  · rcases hget j ds hj with ⟨rfl, rfl⟩ | ⟨hjk, hj'⟩
    · exact ⟨C', T, setRow_heap w _ C C' T (0, 0) e, hr.mono hkeep⟩
    · obtain ⟨D, U, e', hr'⟩ := h.objs j ds hj'
      refine ⟨D, U, ?_, hr'.mono hkeep⟩
      rw [hoth _ (fun e2 => hjk (h.inj j k ds cs hj' hk e2))]
      exact e'
  · obtain ⟨ds', h'⟩ := hsome j ds hj
    exact h.objM j ds' h'
  · obtain ⟨ds', h1⟩ := hsome i ds hi
    obtain ⟨es', h2⟩ := hsome j es hj
    exact h.inj i j ds' es' h1 h2 he
  · obtain ⟨h1, h2, h3, h4⟩ := h.tags j b hb1
    refine ⟨by rw [setRow_size]; exact h1, h2, h3, fun i ds hi => ?_⟩
    obtain ⟨ds', h'⟩ := hsome i ds hi
    exact h4 i ds' h'

/-! Named slices. -/
def Cx.retag (c : Cx) (k : Nat) (v : Value) : Cx := ⟨c.φ, fun j => if j = k then v else c.τ j, c.imm, c.h, c.n⟩
theorem Cx.retag_same (c : Cx) (k : Nat) (v : Value) : (c.retag k v).τ k = v := by show (if k = k then _ else _) = _; rw [if_pos rfl]
theorem Cx.retag_other (c : Cx) {j k : Nat} (v : Value) (h : j ≠ k) : (c.retag k v).τ j = c.τ j := by show (if j = k then _ else _) = _; rw [if_neg h]
theorem killH_get : ∀ {H : Hp} {k j : Nat} {cs : Cells}, (killH k H)[j]? = some (some cs) → ∃ cs', H[j]? = some (some cs') ∧ cs = killL k cs'
  | [], _, _, _, h => by simp [killH] at h
  | none :: H, k, j, cs, h => by
    cases j with
    | zero => simp [killH] at h
    | succ j => simpa using killH_get (H := H) (by simpa [killH] using h)
  | some x :: H, k, j, cs, h => by
    cases j with
    | zero => simp [killH] at h; exact ⟨x, rfl, h.symm⟩
    | succ j => simpa using killH_get (H := H) (by simpa [killH] using h)
theorem killH_length : ∀ (k : Nat) (H : Hp), (killH k H).length = H.length
  | _, [] => rfl
  | k, none :: H => by simp [killH, killH_length k H]
  | k, some _ :: H => by simp [killH, killH_length k H]
/-- A named slice is another one now: its block was written, or it lies in a new one. -/
theorem Con.retag {B : Base} {c : Cx} {w w' : World} {H : Hp} {n k : Nat} (h : Con B c w H n) (hk : k < n) (hg : w.grownBy w' (blk (c.τ k))) {v : Value}
    (hv : ∀ b, blk v = some b → b < w'.heap.size ∧ (blk (c.τ k) = some b ∨ w.heap.size ≤ b)) :
    Con B (c.retag k v) w' (killH k H) n ∧ Keep c (c.retag k v) w w' (some k) := by
  have hsame : ∀ b, b < w.heap.size → some b ≠ blk (c.τ k) → w'.heap[b]? = w.heap[b]? := hg.block
  have himm : ∀ b, c.imm b → w'.heap[b]? = w.heap[b]? := fun b hi => hsame b (h.immB b hi).1 (fun e => (h.tags k b e.symm).2.1 hi)
  have htag : ∀ j b, j ≠ k → blk (c.τ j) = some b → w'.heap[b]? = w.heap[b]? := fun j b hj hb => hsame b (h.tags j b hb).1 (fun e => hj (h.tagInj j k b hb e.symm))
  have hkeep : Keep c (c.retag k v) w w' (some k) :=
    ⟨fun b hi => ⟨hi, himm b hi⟩, Nat.le_refl _, Nat.le_refl _, fun _ _ => rfl, fun j _ hj => by
      have hj' : j ≠ k := fun e => hj (by rw [e])
      exact ⟨c.retag_other v hj', fun b hb => htag j b hj' hb⟩⟩
  have hnew : ∀ b, blk v = some b → b < w'.heap.size ∧ ¬ c.imm b ∧ (B.m0 b ∨ B.w0.heap.size ≤ b) ∧ (∀ j cs, H[j]? = some (some cs) → c.φ j ≠ b) ∧ ∀ j, j ≠ k → blk (c.τ j) ≠ some b := fun b hb => by
    obtain ⟨h1, h2⟩ := hv b hb
    rcases h2 with h2 | h2
    · obtain ⟨a1, a2, a3, a4⟩ := h.tags k b h2
      exact ⟨h1, a2, a3, a4, fun j hj e => hj (h.tagInj j k b e h2)⟩
    · refine ⟨h1, fun hi => ?_, .inr (Nat.le_trans h.size h2), fun j cs hj e => ?_, fun j _ e => ?_⟩
      · have := (h.immB b hi).1; omega
      · have := h.objLt hj; omega
      · have := (h.tags j b e).1; omega
  refine ⟨⟨hg.os.trans h.os, hg.tape.trans h.tape, hg.output.trans h.output, Nat.le_trans h.size hg.size, fun b hb1 hm => ?_, h.imm0, fun b hi => ?_, by rw [killH_length]; exact h.hlen, h.nlen, h.hh, h.phi, fun j cs hj => ?_, fun j cs hj => ?_, fun i j cs ds hi hj he => ?_, fun j b hb => ?_, fun i j b hi hj => ?_, fun j hj => ?_, h.glob.keep hkeep.imm⟩, hkeep⟩
  · rw [hsame b (Nat.lt_of_lt_of_le hb1 h.size) (fun e => ?_)]
    · exact h.old b hb1 hm
    · rcases (h.tags k b e.symm).2.2.1 with h' | h'
      · exact hm h'
      · omega
  · obtain ⟨h1, h2⟩ := h.immB b hi
    exact ⟨Nat.lt_of_lt_of_le h1 hg.size, h2⟩
  · obtain ⟨cs', hj', rfl⟩ := killH_get hj
    obtain ⟨C, T, e, hr⟩ := h.objs j cs' hj'
    refine ⟨C, T, ?_, RepL.kill hkeep _ _ hr⟩
    show w'.heap[c.φ j]? = _
    rw [hsame _ (h.objLt hj') (fun e => (h.tags k _ e.symm).2.2.2 j cs' hj' rfl)]
    exact e
  · obtain ⟨cs', hj', _⟩ := killH_get hj
    exact h.objM j cs' hj'
  · obtain ⟨cs', hi', _⟩ := killH_get hi
    obtain ⟨ds', hj', _⟩ := killH_get hj
    exact h.inj i j cs' ds' hi' hj' he
  · by_cases hjk : j = k
    · subst hjk
      rw [c.retag_same] at hb
      obtain ⟨a1, a2, a3, a4, _⟩ := hnew b hb
      exact ⟨a1, a2, a3, fun i cs hi => by obtain ⟨cs', hi', _⟩ := killH_get hi; exact a4 i cs' hi'⟩
    · rw [c.retag_other v hjk] at hb
      obtain ⟨a1, a2, a3, a4⟩ := h.tags j b hb
      exact ⟨Nat.lt_of_lt_of_le a1 hg.size, a2, a3, fun i cs hi => by obtain ⟨cs', hi', _⟩ := killH_get hi; exact a4 i cs' hi'⟩
  · by_cases hik : i = k <;> by_cases hjk : j = k
    · rw [hik, hjk]
    · subst hik
      rw [c.retag_same] at hi
      rw [c.retag_other v hjk] at hj
      exact absurd hj ((hnew b hi).2.2.2.2 j hjk)
    · subst hjk
      rw [c.retag_same] at hj
      rw [c.retag_other v hik] at hi
      exact absurd hi ((hnew b hj).2.2.2.2 i hik)
    · rw [c.retag_other v hik] at hi
      rw [c.retag_other v hjk] at hj
      exact h.tagInj i j b hi hj
  · rw [c.retag_other v (by omega)]
    exact h.high j hj
def Cx.newTag (c : Cx) (v : Value) : Cx := ⟨c.φ, fun j => if j = c.n then v else c.τ j, c.imm, c.h, c.n + 1⟩
theorem Cx.newTag_same (c : Cx) (v : Value) : (c.newTag v).τ c.n = v := by show (if c.n = c.n then _ else _) = _; rw [if_pos rfl]
theorem Cx.newTag_other (c : Cx) {j : Nat} (v : Value) (h : j ≠ c.n) : (c.newTag v).τ j = c.τ j := by show (if j = c.n then _ else _) = _; rw [if_neg h]
/-- A new named slice, nil or in a new block. -/
theorem Con.newTag {B : Base} {c : Cx} {w w' : World} {H : Hp} {n : Nat} (h : Con B c w H n) (hb : Below w.heap.size w w') {v : Value}
    (hv : ∀ b, blk v = some b → w.heap.size ≤ b ∧ b < w'.heap.size) : Con B (c.newTag v) w' H (n + 1) ∧ Keep c (c.newTag v) w w' none := by
  obtain ⟨h1, k1⟩ := h.grow hb
  have hn := h.nlen
  have hlo : ∀ j, j < c.n → (c.newTag v).τ j = c.τ j := fun j hj => c.newTag_other v (by omega)
  have hkeep : Keep c (c.newTag v) w w' none := ⟨k1.imm, k1.h, Nat.le_succ _, k1.φ, fun j hj h0 => by rw [hlo j hj]; exact ⟨rfl, (k1.τ j hj h0).2⟩⟩
  have hkeep2 : Keep c (c.newTag v) w' w' none := ⟨fun b hi => ⟨hi, rfl⟩, Nat.le_refl _, Nat.le_succ _, fun _ _ => rfl, fun j hj h0 => by rw [hlo j hj]; exact ⟨rfl, fun _ _ => rfl⟩⟩
  refine ⟨⟨h1.os, h1.tape, h1.output, h1.size, h1.old, h1.imm0, h1.immB, h1.hlen, ?_, h1.hh, h1.phi, fun j cs hj => ?_, h1.objM, h1.inj, fun j b hj => ?_, fun i j b hi hj => ?_, fun j hj => ?_, h.glob.keep hkeep.imm⟩, hkeep⟩
  · show c.n + 1 = _
    rw [hn]
  · obtain ⟨C, T, e, hr⟩ := h1.objs j cs hj
    exact ⟨C, T, e, hr.mono hkeep2⟩
  · by_cases hjn : j = c.n
    · subst hjn
      rw [c.newTag_same] at hj
      obtain ⟨a1, a2⟩ := hv b hj
      refine ⟨a2, fun hi => ?_, .inr (Nat.le_trans h.size a1), fun i cs hi e => ?_⟩
      · have := (h.immB b hi).1; omega
      · have := h.objLt hi
        have e' : c.φ i = b := e
        omega
    · rw [c.newTag_other v hjn] at hj
      exact h1.tags j b hj
  · by_cases hin : i = c.n <;> by_cases hjn : j = c.n
    · rw [hin, hjn]
    · subst hin
      rw [c.newTag_same] at hi
      rw [c.newTag_other v hjn] at hj
      have := (hv b hi).1
      have := (h.tags j b hj).1
      omega
    · subst hjn
      rw [c.newTag_same] at hj
      rw [c.newTag_other v hin] at hi
      have := (hv b hj).1
      have := (h.tags i b hi).1
      omega
    · rw [c.newTag_other v hin] at hi
      rw [c.newTag_other v hjn] at hj
      exact h.tagInj i j b hi hj
  · rw [c.newTag_other v (by omega)]
    exact h.high j (by omega)
def Cx.freeze (c : Cx) (k : Nat) : Cx := ⟨c.φ, fun j => if j = k then nilS else c.τ j, fun b => c.imm b ∨ blk (c.τ k) = some b, c.h, c.n⟩
/-- A named slice no longer turns. -/
theorem Con.freeze {B : Base} {c : Cx} {w : World} {H : Hp} {n k : Nat} (h : Con B c w H n) : Con B (c.freeze k) w (killH k H) n ∧ Keep c (c.freeze k) w w (some k) := by
  have hother : ∀ j, j ≠ k → (c.freeze k).τ j = c.τ j := fun j hj => by show (if j = k then _ else _) = _; rw [if_neg hj]
  have hsame : (c.freeze k).τ k = nilS := by show (if k = k then _ else _) = _; rw [if_pos rfl]
  have hkeep : Keep c (c.freeze k) w w (some k) :=
    ⟨fun b hi => ⟨.inl hi, rfl⟩, Nat.le_refl _, Nat.le_refl _, fun _ _ => rfl, fun j _ hj => ⟨hother j (fun e => hj (by rw [e])), fun _ _ => rfl⟩⟩
  refine ⟨⟨h.os, h.tape, h.output, h.size, h.old, fun b hb => .inl (h.imm0 b hb), fun b hi => ?_, by rw [killH_length]; exact h.hlen, h.nlen, h.hh, h.phi, fun j cs hj => ?_, fun j cs hj => ?_, fun i j cs ds hi hj he => ?_, fun j b hb => ?_, fun i j b hi hj => ?_, fun j hj => ?_, h.glob.keep hkeep.imm⟩, hkeep⟩
  · rcases hi with hi | hi
    · exact h.immB b hi
    · obtain ⟨a1, a2, a3, a4⟩ := h.tags k b hi
      exact ⟨a1, .inr a3⟩
  · obtain ⟨cs', hj', rfl⟩ := killH_get hj
    obtain ⟨C, T, e, hr⟩ := h.objs j cs' hj'
    exact ⟨C, T, e, RepL.kill hkeep _ _ hr⟩
  · obtain ⟨cs', hj', _⟩ := killH_get hj
    refine ⟨(h.objM j cs' hj').1, fun hi => ?_⟩
    rcases hi with hi | hi
    · exact (h.objM j cs' hj').2 hi
    · exact (h.tags k _ hi).2.2.2 j cs' hj' rfl
  · obtain ⟨cs', hi', _⟩ := killH_get hi
    obtain ⟨ds', hj', _⟩ := killH_get hj
    exact h.inj i j cs' ds' hi' hj' he
  · by_cases hjk : j = k
    · subst hjk; rw [hsame] at hb; cases hb
    · rw [hother j hjk] at hb
      obtain ⟨a1, a2, a3, a4⟩ := h.tags j b hb
      refine ⟨a1, fun hi => ?_, a3, fun i cs hi => by obtain ⟨cs', hi', _⟩ := killH_get hi; exact a4 i cs' hi'⟩
      rcases hi with hi | hi
      · exact a2 hi
      · exact hjk (h.tagInj j k b hb hi)
  · by_cases hik : i = k <;> by_cases hjk : j = k
    · rw [hik, hjk]
    · subst hik; rw [hsame] at hi; cases hi
    · subst hjk; rw [hsame] at hj; cases hj
    · rw [hother i hik] at hi
      rw [hother j hjk] at hj
      exact h.tagInj i j b hi hj
  · by_cases hjk : j = k
    · subst hjk; exact hsame
    · rw [hother j hjk]; exact h.high j hj

section
variable {c : Cx} {w : World} {H : Hp} {n : Nat} {B : Base}
/-- The same objects, otherwise said. -/
theorem Con.rehp {H' : Hp} (h : Con B c w H n) (hl : H'.length = H.length) (hg : ∀ k cs, H'[k]? = some (some cs) → ∃ cs', H[k]? = some (some cs') ∧ ∃ C T, w.heap[c.φ k]? = some (.cells C T (0, 0)) ∧ RepL c w cs C.toList) : Con B c w H' n :=
  ⟨h.os, h.tape, h.output, h.size, h.old, h.imm0, h.immB, by rw [hl]; exact h.hlen, h.nlen, h.hh, h.phi, fun k cs hk => (hg k cs hk).choose_spec.2, fun k cs hk => h.objM k _ (hg k cs hk).choose_spec.1,
    fun j k cs ds hj hk e => h.inj j k _ _ (hg j cs hj).choose_spec.1 (hg k ds hk).choose_spec.1 e, fun k b hb => ⟨(h.tags k b hb).1, (h.tags k b hb).2.1, (h.tags k b hb).2.2.1, fun j cs hj => (h.tags k b hb).2.2.2 j _ (hg j cs hj).choose_spec.1⟩, h.tagInj, h.high, h.glob⟩
theorem updH_get : ∀ {H : Hp} {k t s j : Nat} {es : List (List F)} {cs : Cells}, (updH k t s es H)[j]? = some (some cs) → ∃ cs', H[j]? = some (some cs') ∧ cs = updL k t s es cs'
  | [], _, _, _, _, _, _, h => by simp [updH] at h
  | none :: H, k, t, s, j, es, cs, h => by
    cases j with
    | zero => simp [updH] at h
    | succ j => simpa using updH_get (H := H) (by simpa [updH] using h)
  | some x :: H, k, t, s, j, es, cs, h => by
    cases j with
    | zero => simp [updH] at h; exact ⟨x, rfl, h.symm⟩
    | succ j => simpa using updH_get (H := H) (by simpa [updH] using h)
theorem updH_length : ∀ (k t s : Nat) (es : List (List F)) (H : Hp), (updH k t s es H).length = H.length
  | _, _, _, _, [] => rfl
  | k, t, s, es, none :: H => by simp [updH, updH_length k t s es H]
  | k, t, s, es, some _ :: H => by simp [updH, updH_length k t s es H]
theorem killH_at : ∀ {H : Hp} {k j : Nat} {cs : Cells}, H[j]? = some (some cs) → (killH k H)[j]? = some (some (killL k cs))
  | [], _, _, _, h => by simp at h
  | none :: H, k, j, cs, h => by
    cases j with
    | zero => simp at h
    | succ j => simpa [killH] using killH_at (H := H) (k := k) (by simpa using h)
  | some x :: H, k, j, cs, h => by
    cases j with
    | zero => simp at h; subst h; simp [killH]
    | succ j => simpa [killH] using killH_at (H := H) (k := k) (by simpa using h)
/-- A named slice's row was written. -/
theorem Con.upd {w' : World} (h : Con B c w H n) {k t s : Nat} {es : List (List F)} (hk : k < n) (hg : w.grownBy w' (blk (c.τ k))) (hs : w'.heap.size = w.heap.size) (hO : (∀ b, c.imm b → w'.heap[b]? = w.heap[b]?) → OwnOk c.imm w' (c.τ k) t s es) :
    ∃ c', Con B c' w' (updH k t s es H) n ∧ Keep c c' w w' (some k) ∧ c'.τ k = c.τ k ∧ OwnOk c'.imm w' (c'.τ k) t s es := by
  obtain ⟨h1, k1⟩ := h.retag hk hg (v := c.τ k) (fun b hb => ⟨by rw [hs]; exact (h.tags k b hb).1, .inl hb⟩)
  have hτ : (c.retag k (c.τ k)).τ k = c.τ k := c.retag_same _ _
  have hO' : OwnOk (c.retag k (c.τ k)).imm w' ((c.retag k (c.τ k)).τ k) t s es := by rw [hτ]; exact hO (fun b hb => (k1.imm b hb).2)
  refine ⟨_, h1.rehp (by rw [updH_length, killH_length]) (fun j cs hj => ?_), k1, hτ, hO'⟩
  obtain ⟨cs', hj', rfl⟩ := updH_get hj
  obtain ⟨C, T, e, hr⟩ := h.objs j cs' hj'
  refine ⟨_, killH_at hj', C, T, ?_, RepL.upd k1 hτ hO' _ _ hr⟩
  show w'.heap[c.φ j]? = _
  rw [hg.block _ (h.objLt hj') (fun e2 => (h.tags k _ e2.symm).2.2.2 j cs' hj' rfl)]
  exact e
end

/-! What an operation, a text, a call are to do. -/
def OpSem (P : Program) (o : Oper) (E : List D) (H : Hp) (n : Nat) (K : KD) : Prop :=
  ∀ (B : Base) (c : Cx) (w : World) (a : Act), Con B c w H n → RepL c w E a.tmps.toList → a.defers = [] →
    o.wp P a w (fun a' w' => ∃ d v E' H' n' c', K d E' H' n' ∧ a' = a.put o.dst v ∧ Con B c' w' H' n' ∧ RepL c' w' E' a.tmps.toList ∧ Rep c' w' d v) (fun _ _ _ => False)
def conv : X → Exit
  | .normal => .normal
  | .exit id => .exit id
  | .ret => .ret
def Post (B : Base) (Q : X → List D → Hp → Nat → Prop) (e : Exit) (a : Act) (w : World) : Prop :=
  ∃ x E H n c, e = conv x ∧ Q x E H n ∧ Con B c w H n ∧ RepL c w E a.tmps.toList ∧ a.defers = []
def CSem (P : Program) (k : Code) (Q : X → List D → Hp → Nat → Prop) (E : List D) (H : Hp) (n : Nat) : Prop :=
  ∀ (B : Base) (c : Cx) (w : World) (a : Act), Con B c w H n → RepL c w E a.tmps.toList → a.defers = [] → Code.wp P k (Post B Q) a w
/-- A function that can be called. -/
def FnOk (P : Program) (g : FuncId) : Prop := ∃ fn, P.funcs[g]? = some fn ∧ (fn.name == "runtime.NumGoroutine") = false ∧ fn.body.isNone = false
def CallStep (P : Program) (g : FuncId) (args : List D) (E : List D) (H : Hp) (n : Nat) (K : KD) : Prop :=
  FnOk P g ∧ ∀ (B : Base) (c : Cx) (w : World) (ts vs : List Value), Con B c w H n → RepL c w E ts → RepL c w args vs →
    Calls P g vs.toArray w (fun e w' => ∃ d v E' H' n' c', K d E' H' n' ∧ e = .returned v ∧ Con B c' w' H' n' ∧ RepL c' w' E' ts ∧ Rep c' w' d v)
end Go.Proofs.Ytdfiegleaknleaa.Aw

