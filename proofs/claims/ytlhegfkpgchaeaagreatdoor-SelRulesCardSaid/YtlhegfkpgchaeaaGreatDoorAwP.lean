/- A contract's use at a call. -/
import Derived.Test.YtlhegfkpgchaeaaGreatDoorAwM
import Derived.Deep.LoopGhost
namespace Go.Proofs.YtlhegfkpgchaeaaGreatDoor.Aw
open Go Go.RowKit Go.Lib
set_option linter.unusedVariables false
set_option linter.unusedSimpArgs false
mutual
def D.frz (k : Nat) : D → D
 | .own j t s es => bif Nat.beq j k then .f (.sl es) else .own j t s es
 | .optr j t s es i o => bif Nat.beq j k then .junk else .optr j t s es i o
 | .agg cs => .agg (frzL k cs)
 | .tup cs => .tup (frzL k cs)
 | .fn g cs => .fn g (frzL k cs)
 | .yl l ps x y cs => .yl l ps x y (frzL k cs)
 | d => d
def frzL (k : Nat) : List D → List D
 | [] => []
 | d :: ds => D.frz k d :: frzL k ds
end
def frzH (k : Nat) : Hp → Hp
 | [] => []
 | none :: h => none :: frzH k h
 | some cs :: h => some (frzL k cs) :: frzH k h
mutual
def intoD (n0 n h : Nat) : D → D → Prop
 | d, .junk => True
 | d, .f (.sl es) => (match d with
  | .nil => es = []
  | d => d = .f (.sl es))
 | d, .f (.v x) => d = .f (.v x)
 | d, .nil => d = .nil
 | d, .agg ds => (match d with
  | .agg cs => intoL n0 n h cs ds
  | _ => False)
 | d, .tup ds => (match d with
  | .tup cs => intoL n0 n h cs ds
  | _ => False)
 | d, .fn g ds => (match d with
  | .fn g' cs => g' = g ∧ intoL n0 n h cs ds
  | _ => False)
 | d, .yl l ps x y ds => (match d with
  | .yl l' ps' x' y' cs => l' = l ∧ ps' = ps ∧ x' = x ∧ y' = y ∧ intoL n0 n h cs ds
  | _ => False)
 | d, .own k t s es => (match d with
  | .nil => es = [] ∧ n0 ≤ k ∧ k < n ∧ 0 < s
  | d => d = .own k t s es ∧ k < n)
 | d, .optr k t s es i o => d = .optr k t s es i o ∧ k < n
 | d, .ptr k o => d = .ptr k o ∧ k < h
 | d, .ip cs => d = .ip cs
def intoL (n0 n h : Nat) : List D → List D → Prop
 | cs, [] => cs = []
 | cs, d :: ds => (match cs with
  | c :: cs => intoD n0 n h c d ∧ intoL n0 n h cs ds
  | [] => False)
end
def intoH (n0 n h : Nat) : Hp → Hp → Prop
 | _, [] => True
 | [], _ :: _ => False
 | _ :: H, none :: H' => intoH n0 n h H H'
 | some cs :: H, some cs' :: H' => intoL n0 n h cs cs' ∧ intoH n0 n h H H'
 | none :: _, some _ :: _ => False
def Into (E : List D) (H : Hp) (n : Nat) (E' : List D) (H' : Hp) (n' : Nat) : Prop := intoL n n' H'.length E E' ∧ intoH n n' H'.length H H'
def Cx.forget (c : Cx) (n h : Nat) : Cx := ⟨c.φ, fun k => if k < n then c.τ k else nilS, c.imm, h, n⟩
section
variable {P : Program} {c : Cx} {w : World} {H : Hp} {n : Nat} {B : Base}
mutual
theorem Rep.frz {c c' : Cx} {w : World} {k : Nat} (hk : Keep c c' w w (some k)) (hb : ∀ b, blk (c.τ k) = some b → c'.imm b) : ∀ (d : D) (y : Value), Rep c w d y → Rep c' w (d.frz k) y
 | .junk, y, h => by simp [D.frz, Rep]
 | .f x, y, h => by unfold D.frz Rep at *; exact h.mono hk.imm
 | .nil, y, h => by unfold D.frz Rep at *; exact h
 | .agg cs, y, h => by
  unfold D.frz; unfold Rep at *
  obtain ⟨vs, e, hl⟩ := h
  exact ⟨vs, e, RepL.frz hk hb cs vs hl⟩
 | .tup cs, y, h => by
  unfold D.frz; unfold Rep at *
  obtain ⟨vs, e, hl⟩ := h
  exact ⟨vs, e, RepL.frz hk hb cs vs hl⟩
 | .own j t s es, y, h => by
  unfold D.frz
  by_cases hj : j = k
  ·subst hj
   have : Nat.beq j j = true := by simp
   rw [this]
   unfold cond
   simp only [Rep] at *
   obtain ⟨_, rfl, ho⟩ := h
   exact ho.toF hk.imm hb
  ·have : Nat.beq j k = false := beq_ne hj
   rw [this]
   unfold cond
   simp only [Rep] at *
   obtain ⟨e1, e2⟩ := hk.τ j h.1 (by simpa using hj)
   rw [e1]
   exact ⟨Nat.lt_of_lt_of_le h.1 hk.n, h.2.1, h.2.2.mono hk.imm e2⟩
 | .optr j t s es i o, y, h => by
  unfold D.frz
  by_cases hj : j = k
  ·subst hj; simp [Rep]
  ·have : Nat.beq j k = false := beq_ne hj
   rw [this]
   unfold cond
   simp only [Rep] at *
   obtain ⟨e1, e2⟩ := hk.τ j h.1 (by simpa using hj)
   rw [e1]
   exact ⟨Nat.lt_of_lt_of_le h.1 hk.n, h.2.1.mono hk.imm e2, h.2.2⟩
 | .ptr j o, y, h => by
  unfold D.frz Rep at *
  exact ⟨Nat.lt_of_lt_of_le h.1 hk.h, by rw [hk.φ j h.1]; exact h.2⟩
 | .ip cs, y, h => by
  unfold D.frz Rep at *
  obtain ⟨b, o, e, hi, hc⟩ := h
  exact ⟨b, o, e, (hk.imm b hi).1, hc.mono hk.imm _ _ _ (hk.imm b hi).2⟩
 | .fn g cs, y, h => by
  unfold D.frz; unfold Rep at *
  obtain ⟨vs, e, hl⟩ := h
  exact ⟨vs, e, RepL.frz hk hb cs vs hl⟩
 | .yl l ps x y cs, u, h => by
  unfold D.frz; unfold Rep at *
  obtain ⟨fn, df, vs, e, hi, hw, hl⟩ := h
  exact ⟨fn, df, vs, e, (hk.imm l hi).1, (hk.imm l hi).2.trans hw, RepL.frz hk hb cs vs hl⟩
theorem RepL.frz {c c' : Cx} {w : World} {k : Nat} (hk : Keep c c' w w (some k)) (hb : ∀ b, blk (c.τ k) = some b → c'.imm b) : ∀ (ds : List D) (ys : List Value), RepL c w ds ys → RepL c' w (frzL k ds) ys
 | [], ys, h => by unfold frzL; unfold RepL at *; exact h
 | d :: ds, ys, h => by
  unfold frzL; unfold RepL at *
  obtain ⟨v, vs', e, h1, h2⟩ := h
  exact ⟨v, vs', e, Rep.frz hk hb d v h1, RepL.frz hk hb ds vs' h2⟩
end
theorem frzH_get : ∀ {H : Hp} {k j : Nat} {cs : Cells}, (frzH k H)[j]? = some (some cs) → ∃ cs', H[j]? = some (some cs') ∧ cs = frzL k cs'
 | [], _, _, _, h => by simp [frzH] at h
 | none :: H, k, j, cs, h => by
  cases j with
  | zero => simp [frzH] at h
  | succ j => simpa using frzH_get (H := H) (by simpa [frzH] using h)
 | some x :: H, k, j, cs, h => by
  cases j with
  | zero => simp [frzH] at h; exact ⟨x, rfl, h.symm⟩
  | succ j => simpa using frzH_get (H := H) (by simpa [frzH] using h)
theorem frzH_length : ∀ (k : Nat) (H : Hp), (frzH k H).length = H.length
 | _, [] => rfl
 | k, none :: H => by simp [frzH, frzH_length k H]
 | k, some _ :: H => by simp [frzH, frzH_length k H]
theorem Con.frz {k : Nat} (h : Con B c w H n) : Con B (c.freeze k) w (frzH k H) n ∧ Keep c (c.freeze k) w w (some k) := by
 obtain ⟨h1, k1⟩ := h.freeze (k := k)
 refine ⟨h1.rehp (by rw [frzH_length, killH_length]) (fun j cs hj => ?_), k1⟩
 obtain ⟨cs', hj', rfl⟩ := frzH_get hj
 obtain ⟨C, T, e, hr⟩ := h.objs j cs' hj'
 have hkill : (killH k H)[j]? = some (some (killL k cs')) := by
  have : ∀ (H : Hp) (j : Nat), H[j]? = some (some cs') → (killH k H)[j]? = some (some (killL k cs')) := by
   intro H
   induction H with
   | nil => intro j h; simp at h
   | cons x H ih =>
    intro j h
    cases j with
    | zero => simp at h; subst h; simp [killH]
    | succ j => cases x <;> simpa [killH] using ih j (by simpa using h)
  exact this H j hj'
 exact ⟨_, hkill, C, T, e, RepL.frz k1 (fun b hb => .inr hb) _ _ hr⟩
mutual
theorem Rep.into {n0 n h : Nat} (hi : ∀ k, n0 ≤ k → c.τ k = nilS) (hn : c.n = n0) : ∀ (d' d : D) (v : Value), intoD n0 n h d d' → Rep c w d v → Rep (c.forget n h) w d' v
 | .junk, d, v, h1, h2 => by simp [Rep]
 | .f (.v x), d, v, h1, h2 => by
  unfold intoD at h1
  subst h1
  unfold Rep at *
  exact h2
 | .f (.sl es), d, v, h1, h2 => by
  unfold intoD at h1
  split at h1
  ·subst h1
   unfold Rep at h2
   subst h2
   unfold Rep RepF
   exact .inl ⟨⟨_, rfl⟩, rfl⟩
  ·subst h1
   unfold Rep at *
   exact h2
 | .nil, d, v, h1, h2 => by
  unfold intoD at h1
  subst h1
  unfold Rep at *
  exact h2
 | .agg ds, d, v, h1, h2 => by
  unfold intoD at h1
  split at h1
  ·unfold Rep at *
   obtain ⟨vs, e, hr⟩ := h2
   exact ⟨vs, e, RepL.into hi hn ds _ vs h1 hr⟩
  ·exact h1.elim
 | .tup ds, d, v, h1, h2 => by
  unfold intoD at h1
  split at h1
  ·unfold Rep at *
   obtain ⟨vs, e, hr⟩ := h2
   exact ⟨vs, e, RepL.into hi hn ds _ vs h1 hr⟩
  ·exact h1.elim
 | .fn g ds, d, v, h1, h2 => by
  unfold intoD at h1
  split at h1
  ·obtain ⟨rfl, h1⟩ := h1
   unfold Rep at *
   obtain ⟨vs, e, hr⟩ := h2
   exact ⟨vs, e, RepL.into hi hn ds _ vs h1 hr⟩
  ·exact h1.elim
 | .yl l ps x y ds, d, v, h1, h2 => by
  unfold intoD at h1
  split at h1
  ·obtain ⟨rfl, rfl, rfl, rfl, h1⟩ := h1
   unfold Rep at *
   obtain ⟨fn, df, vs, e, hi', hw, hr⟩ := h2
   exact ⟨fn, df, vs, e, hi', hw, RepL.into hi hn ds _ vs h1 hr⟩
  ·exact h1.elim
 | .own k t s es, d, v, h1, h2 => by
  unfold intoD at h1
  split at h1
  ·obtain ⟨rfl, h3, h4, h5⟩ := h1
   unfold Rep at h2
   subst h2
   have e : (c.forget n h).τ k = nilS := by
    show (if k < n then c.τ k else nilS) = nilS
    rw [if_pos h4, hi k h3]
   unfold Rep
   rw [e]
   exact ⟨h4, rfl, h5, [], ownsM_nil w 0 t s, by unfold RepRows; rfl⟩
  ·obtain ⟨rfl, h4⟩ := h1
   unfold Rep at h2
   obtain ⟨_, rfl, h3⟩ := h2
   have e : (c.forget n h).τ k = c.τ k := by
    show (if k < n then c.τ k else nilS) = _
    rw [if_pos h4]
   unfold Rep
   rw [e]
   exact ⟨h4, rfl, h3⟩
 | .optr k t s es i o, d, v, h1, h2 => by
  unfold intoD at h1
  obtain ⟨rfl, h4⟩ := h1
  unfold Rep at h2
  obtain ⟨_, h3⟩ := h2
  have e : (c.forget n h).τ k = c.τ k := by
   show (if k < n then c.τ k else nilS) = _
   rw [if_pos h4]
  unfold Rep
  rw [e]
  exact ⟨h4, h3⟩
 | .ptr k o, d, v, h1, h2 => by
  unfold intoD at h1
  obtain ⟨rfl, h4⟩ := h1
  unfold Rep at *
  exact ⟨h4, h2.2⟩
 | .ip cs, d, v, h1, h2 => by
  unfold intoD at h1
  subst h1
  unfold Rep at *
  exact h2
theorem RepL.into {n0 n h : Nat} (hi : ∀ k, n0 ≤ k → c.τ k = nilS) (hn : c.n = n0) : ∀ (ds' ds : List D) (vs : List Value), intoL n0 n h ds ds' → RepL c w ds vs → RepL (c.forget n h) w ds' vs
 | [], ds, vs, h1, h2 => by
  unfold intoL at h1
  subst h1
  unfold RepL at *
  exact h2
 | d' :: ds', ds, vs, h1, h2 => by
  unfold intoL at h1
  split at h1
  ·unfold RepL at *
   obtain ⟨v, vs', e, h3, h4⟩ := h2
   exact ⟨v, vs', e, Rep.into hi hn d' _ v h1.1 h3, RepL.into hi hn ds' _ vs' h1.2 h4⟩
  ·exact h1.elim
end
theorem intoH_get {n0 n h : Nat} : ∀ {H H' : Hp}, intoH n0 n h H H' → ∀ (k : Nat) (cs' : Cells), H'[k]? = some (some cs') → ∃ cs, H[k]? = some (some cs) ∧ intoL n0 n h cs cs'
 | _, [], _, k, cs', e => by simp at e
 | [], _ :: _, h1, _, _, _ => h1.elim
 | x :: H, none :: H', h1, k, cs', e => by
  have h1' : intoH n0 n h H H' := by cases x <;> exact h1
  cases k with
  | zero => simp at e
  | succ k => simpa using intoH_get h1' k cs' (by simpa using e)
 | some cs :: H, some ds :: H', h1, k, cs', e => by
  unfold intoH at h1
  cases k with
  | zero => simp at e; subst e; exact ⟨cs, rfl, h1.1⟩
  | succ k => simpa using intoH_get h1.2 k cs' (by simpa using e)
 | none :: H, some ds :: H', h1, _, _, _ => h1.elim
theorem Con.into {H' : Hp} {n' : Nat} (h : Con B c w H n) (hB : B.h0 ≤ H'.length) {E E' : List D} (hi : Into E H n E' H' n') {vs : List Value} (hE : RepL c w E vs) : Con B (c.forget n' H'.length) w H' n' ∧ RepL (c.forget n' H'.length) w E' vs := by
 have hτ : ∀ k b, blk ((c.forget n' H'.length).τ k) = some b → k < n' ∧ blk (c.τ k) = some b := fun k b hb => by
  have hb' : blk (if k < n' then c.τ k else nilS) = some b := hb
  by_cases hk : k < n'
  ·rw [if_pos hk] at hb'; exact ⟨hk, hb'⟩
  ·rw [if_neg hk] at hb'; cases hb'
 refine ⟨⟨h.os, h.tape, h.output, h.size, h.old, h.imm0, h.immB, rfl, rfl, hB, h.phi, fun k cs hk => ?_, fun k cs hk => ?_, fun j k cs ds hj hk e => ?_, fun k b hb => ?_, fun j k b hj hk => ?_, fun k hk => ?_, h.glob⟩, RepL.into h.high h.nlen E' E vs hi.1 hE⟩
 ·obtain ⟨cs0, h1, h2⟩ := intoH_get hi.2 k cs hk
  obtain ⟨C, T, e, hr⟩ := h.objs k cs0 h1
  exact ⟨C, T, e, RepL.into h.high h.nlen _ _ _ h2 hr⟩
 ·obtain ⟨cs0, h1, _⟩ := intoH_get hi.2 k cs hk
  exact h.objM k cs0 h1
 ·obtain ⟨cs0, h1, _⟩ := intoH_get hi.2 j cs hj
  obtain ⟨ds0, h2, _⟩ := intoH_get hi.2 k ds hk
  exact h.inj j k cs0 ds0 h1 h2 e
 ·obtain ⟨_, hb'⟩ := hτ k b hb
  obtain ⟨a1, a2, a3, a4⟩ := h.tags k b hb'
  exact ⟨a1, a2, a3, fun j cs hj => by obtain ⟨cs0, h1, _⟩ := intoH_get hi.2 j cs hj; exact a4 j cs0 h1⟩
 ·exact h.tagInj j k b (hτ j b hj).2 (hτ k b hk).2
 ·show (if k < n' then _ else nilS) = nilS
  rw [if_neg (by omega)]
def layK : List D → (List D → Prop) → Prop
 | [], K => K []
 | x :: l, K => layK l (fun l' => K (x :: l'))
theorem layK_eq : ∀ (l : List D) (K : List D → Prop), layK l K = K l
 | [], _ => rfl
 | x :: l, K => by unfold layK; rw [layK_eq l]
theorem step_loop {T : Tab} (hT : TabOk P 0 T) {k : Code} {Q : X → List D → Hp → Nat → Prop} {E : List D} {α : Type} (pat : α → List D) (hp : α → Hp) (n1 : Nat) (I : α → Prop) (μ : α → Nat) (a0 : α)
  (h0 : I a0) (hlen : ∀ a, (hp a).length = H.length) (hinto : Into E H n (pat a0) (hp a0) n1)
  (round : ∀ a, I a → layK (pat a) fun E => awp P T k (fun x E' H' n' => match x with
   | .normal => ∃ a', I a' ∧ μ a' < μ a ∧ Into E' H' n' (pat a') (hp a') n1
   | x => Q x E' H' n') E (hp a) n1) : Step P (.loop k) Q E H n := by
 refine Step.mk fun B c w a hC hE hd => ?_
 have hB : B.h0 ≤ H.length := by rw [← hC.hlen]; exact hC.hh
 obtain ⟨hC1, hE1⟩ := hC.into (by rw [hlen]; exact hB) hinto hE
 refine wp_loop_ghost (fun m a w => ∃ x c, μ x = m ∧ I x ∧ Con B c w (hp x) n1 ∧ RepL c w (pat x) a.tmps.toList ∧ a.defers = []) (μ a0) ⟨a0, _, rfl, h0, hC1, hE1, hd⟩ ?_
 rintro m a w ⟨x, c, rfl, hI, hC, hE, hd⟩
 have hr := round x hI
 rw [layK_eq] at hr
 refine wp_mono (awp_sound hT k hr B c w a hC hE hd) ?_
 rintro e a' w' ⟨y, E', H', n', c', rfl, h1, h2, h3, h4⟩
 cases y with
 | normal =>
  obtain ⟨x', h5, h6, h7⟩ := h1
  obtain ⟨h8, h9⟩ := h2.into (by rw [hlen]; exact hB) h7 h3
  exact ⟨μ x', h6, x', _, rfl, h5, h8, h9, h4⟩
 | exit id => exact ⟨.exit id, E', H', n', c', rfl, h1, h2, h3, h4⟩
 | ret => exact ⟨.ret, E', H', n', c', rfl, h1, h2, h3, h4⟩
theorem call_freeze {g : FuncId} {args E : List D} {K : KD} (k : Nat) (h : Call P g (frzL k args) (frzL k E) (frzH k H) n K) : Call P g args E H n K :=
 Call.mk ⟨h.open.1, fun B c w ts vs hC hE ha => by
  obtain ⟨h1, k1⟩ := hC.frz (k := k)
  exact h.open.2 B _ w ts vs h1 (RepL.frz k1 (fun b hb => .inr hb) _ _ hE) (RepL.frz k1 (fun b hb => .inr hb) _ _ ha)⟩
end
def mine (c : Cx) (H : Hp) (b : Nat) : Prop := (∃ k cs, H[k]? = some (some cs) ∧ c.φ k = b) ∨ ∃ k, blk (c.τ k) = some b
def base (c : Cx) (w : World) (H : Hp) : Base := ⟨w, mine c H, c.imm, c.φ, H.length⟩
def Spec (P : Program) (g : FuncId) (args : List D) (H : Hp) (n : Nat) (R : D → Hp → Prop) : Prop :=
 FnOk P g ∧ ∀ (c : Cx) (w : World) (vs : List Value), Con (base c w H) c w H n → RepL c w args vs →
  Calls P g vs.toArray w (fun e w' => ∃ d v H' c', R d H' ∧ e = .returned v ∧ H'.length = H.length ∧ Con (base c w H) c' w' H' n ∧ Rep c' w' d v)
theorem Spec.mono {P : Program} {g : FuncId} {args : List D} {H : Hp} {n : Nat} {R R' : D → Hp → Prop} (h : Spec P g args H n R) (hR : ∀ d H, R d H → R' d H) : Spec P g args H n R' :=
 ⟨h.1, fun c w vs hC hr => (h.2 c w vs hC hr).mono fun e w' ⟨d, v, H', c', h1, h2⟩ => ⟨d, v, H', c', hR _ _ h1, h2⟩⟩
structure Fin (d : D) (H : Hp) (n h0 n0 : Nat) (R : D → Hp → Prop) : Prop where of ::
 out : ∀ (B : Base) (c : Cx) (w : World) (v : Value), B.h0 = h0 → Con B c w H n → Rep c w d v → ∃ d' H' c', R d' H' ∧ H'.length = h0 ∧ Con B c' w H' n0 ∧ Rep c' w d' v
theorem Fin.mk {d : D} {H : Hp} {n h0 n0 : Nat} {R : D → Hp → Prop} (d' : D) (H' : Hp) (hR : R d' H') (hl : H'.length = h0) (hi : Into [d] H n [d'] H' n0) : Fin d H n h0 n0 R := ⟨fun B c w v hB hC hv => by
 obtain ⟨h1, h2⟩ := hC.into (by omega) hi (repL_cons hv repL_nil)
 exact ⟨d', H', _, hR, hl, h1, (repL_cons_iff.1 h2).1⟩⟩
theorem Fin.frz {d : D} {H : Hp} {n h0 n0 : Nat} {R : D → Hp → Prop} (k : Nat) (h : Fin (d.frz k) (frzH k H) n h0 n0 R) : Fin d H n h0 n0 R := ⟨fun B c w v hB hC hv => by
 obtain ⟨h1, k1⟩ := hC.frz (k := k)
 exact h.out B _ w v hB h1 (Rep.frz k1 (fun b hb => .inr hb) _ _ hv)⟩
def retK (T : Tab) : List ResultVar → List D → Hp → (List D → Prop) → Prop
 | [], _, _, K => K []
 | .tmp t :: r, E, H, K => evK E (.tmp t) fun d => retK T r E H fun ds => K (d :: ds)
 | .cell a t :: r, E, H, K => loadD T t (ev E (.tmp a)) H fun d => retK T r E H fun ds => K (d :: ds)
def oneK (ds : List D) (K : D → Prop) : Prop := match ds with
 | [d] => K d
 | ds => K (.tup ds)
def Ends (T : Tab) (rs : List ResultVar) (h0 n0 : Nat) (R : D → Hp → Prop) (x : X) (E : List D) (H : Hp) (n : Nat) : Prop :=
 match x with
 | .exit _ => False
 | _ => retK T rs E H fun ds => oneK ds fun d => Fin d H n h0 n0 R
def padK (a : List D) : Nat → List D
 | 0 => a
 | n + 1 => match a with
  | [] => .junk :: padK [] n
  | d :: ds => d :: padK ds n
theorem padK_eq : ∀ (n : Nat) (a : List D), padK a n = a ++ List.replicate (n - a.length) .junk
 | 0, a => by simp [padK]
 | n + 1, [] => by simp [padK, padK_eq n [], List.replicate_succ]
 | n + 1, d :: ds => by
  simp only [padK, padK_eq n ds, List.cons_append, List.length_cons]
  rw [show n + 1 - (ds.length + 1) = n - ds.length by omega]
section
variable {P : Program}
def resOne (ts : Array Value) : ResultVar → Sem Value
 | .tmp t => pure (ts.getD t undef)
 | .cell a t => do loadVar t (← asAddr (ts.getD a undef))
theorem results_eq (fn : Func) (ts : Array Value) : results fn ts = (do
  let vs ← fn.results.mapM (resOne ts)
  pure (if h : vs.size = 1 then vs[0] else .tuple vs)) := rfl
theorem retK_sound {T : Tab} (hT : TabOk P 0 T) {B : Base} {c : Cx} {w : World} {H : Hp} {n : Nat} (hC : Con B c w H n) {E : List D} {ts : Array Value} (hE : RepL c w E ts.toList) : ∀ (rs : List ResultVar) (K : List D → Prop), retK T rs E H K →
  ∃ ds vs, K ds ∧ RepL c w ds vs ∧ (rs.mapM (resOne ts)).run P w = .ok vs w
 | [], K, h => ⟨[], [], h, repL_nil, rfl⟩
 | .tmp t :: r, K, h => by
  unfold retK at h
  rw [evK_eq] at h
  obtain ⟨ds, vs, h1, h2, h3⟩ := retK_sound hT hC hE r _ h
  have hv : Rep c w (ev E (.tmp t)) (ts.getD t undef) := rep_ev (a := ⟨ts, []⟩) hE (.tmp t)
  exact ⟨_, _, h1, repL_cons hv h2, by simp [List.mapM_cons, resOne, h3]⟩
 | .cell a t :: r, K, h => by
  unfold retK at h
  have hp : Rep c w (ev E (.tmp a)) (ts.getD a undef) := rep_ev (a := ⟨ts, []⟩) hE (.tmp a)
  obtain ⟨d, u, h, hl, hu⟩ := loadD_sound hT hC hp h
  have hl := hl w (Below.refl _ _)
  obtain ⟨ds, vs, h1, h2, h3⟩ := retK_sound hT hC hE r _ h
  refine ⟨_, _, h1, repL_cons hu h2, ?_⟩
  have : ∃ ad, ts.getD a undef = .pointer (some ad) := by
   simp only [Instr.loadAt, Sem.run_bind] at hl
   generalize ts.getD a undef = z at hl
   cases z with
   | pointer p => cases p with
    | none => simp [Instr.sureAddr] at hl
    | some ad => exact ⟨ad, rfl⟩
   | _ => simp [Instr.sureAddr] at hl
  obtain ⟨ad, had⟩ := this
  rw [had] at hl
  simp [Instr.loadAt, Instr.sureAddr] at hl
  simp [List.mapM_cons, resOne, had, asAddr, hl, h3]
theorem spec_sem {T : Tab} (hT : TabOk P 0 T) {g : FuncId} {fn : Func} {k : Code} {args : List D} {H : Hp} {n : Nat} {R : D → Hp → Prop} (hf : P.funcs[g]? = some fn) (hnm : (fn.name == "runtime.NumGoroutine") = false) (hb : fn.body = some k)
  (h : CSem P k (Ends T fn.results.toList H.length n R) (padK args fn.ntmps) H n) : Spec P g args H n R := by
 refine ⟨⟨fn, hf, hnm, by rw [hb]; rfl⟩, fun c w vs hC hr => ?_⟩
 refine calls_of_wp hf hb ?_
 have hE : RepL c w (padK args fn.ntmps) (vs.toArray ++ Array.replicate (fn.ntmps - vs.toArray.size) undef).toList := by
  rw [padK_eq]
  simp only [Array.toList_append, Array.toList_replicate, List.size_toArray]
  rw [hr.length]
  refine hr.append ?_
  have := repL_junk (c := c) (w := w) (List.replicate (fn.ntmps - args.length) undef)
  simpa using this
 refine wp_mono (h _ c w _ hC hE rfl) ?_
 rintro e a w' ⟨x, E', H', n', c', rfl, h1, h2, h3, h4⟩
 have fin : (retK T fn.results.toList E' H' fun ds => oneK ds fun d => Fin d H' n' H.length n R) → a.defers = [] ∧ ∃ v, (results fn a.tmps).run P w' = .ok v w' ∧ (∃ d v' H'' c'', R d H'' ∧ Ending.returned v = .returned v' ∧ H''.length = H.length ∧ Con (base c w H) c'' w' H'' n ∧ Rep c'' w' d v') := fun h1 => by
  obtain ⟨ds, us, h5, h6, h7⟩ := retK_sound hT h2 h3 _ _ h1
  have hres : (results fn a.tmps).run P w' = .ok (if h : us.toArray.size = 1 then us.toArray[0] else .tuple us.toArray) w' := by
   rw [results_eq, Sem.run_bind, Array.mapM_eq_mapM_toList]
   simp only [Sem.run_map, h7, Result.andThen_ok, Sem.run_pure]
  have hrep : ∃ d, Fin d H' n' H.length n R ∧ Rep c' w' d (if h : us.toArray.size = 1 then us.toArray[0] else .tuple us.toArray) := by
   by_cases h1 : ∃ d, ds = [d]
   ·obtain ⟨d, rfl⟩ := h1
    unfold RepL at h6
    obtain ⟨v, vs', rfl, h8, h9⟩ := h6
    unfold RepL at h9
    subst h9
    exact ⟨d, h5, by simpa using h8⟩
   ·have hl := h6.length
    have h5' : Fin (.tup ds) H' n' H.length n R := by
     unfold oneK at h5
     split at h5
     ·exact absurd ⟨_, rfl⟩ h1
     ·exact h5
    rw [dif_neg]
    ·exact ⟨_, h5', by unfold Rep; exact ⟨us, rfl, h6⟩⟩
    ·intro h2
     have : us.length = 1 := by simpa using h2
     rw [hl] at this
     obtain ⟨d, rfl⟩ : ∃ d, ds = [d] := by
      cases ds with
      | nil => simp at this
      | cons d r => cases r with
       | nil => exact ⟨d, rfl⟩
       | cons _ _ => simp at this
     exact h1 ⟨d, rfl⟩
  obtain ⟨d, hF, hd⟩ := hrep
  have hF' : ∀ (B : Base) (c : Cx) (w : World) (v : Value), B.h0 = H.length → Con B c w H' n' → Rep c w d v → ∃ d' H' c', R d' H' ∧ H'.length = H.length ∧ Con B c' w H' n ∧ Rep c' w d' v := by
   exact hF.out
  obtain ⟨d', H'', c'', g1, g2, g3, g4⟩ := hF' _ c' w' _ rfl h2 hd
  exact ⟨h4, _, hres, d', _, H'', c'', g1, rfl, g2, g3, g4⟩
 cases x with
 | normal => exact fin h1
 | exit id => exact h1.elim
 | ret => exact fin h1
theorem spec_mk {T : Tab} (hT : TabOk P 0 T) {g : FuncId} {fn : Func} {k : Code} {args : List D} {H : Hp} {n : Nat} {R : D → Hp → Prop} (hf : P.funcs[g]? = some fn) (hnm : (fn.name == "runtime.NumGoroutine") = false) (hb : fn.body = some k)
  (h : layK (padK args fn.ntmps) fun E => awp P T k (Ends T fn.results.toList H.length n R) E H n) : Spec P g args H n R := by
 rw [layK_eq] at h
 exact spec_sem hT hf hnm hb (awp_sound hT k h)
end
def memB : List Nat → Nat → Bool
 | [], _ => false
 | k :: l, j => bif Nat.beq k j then true else memB l j
theorem memB_iff : ∀ (l : List Nat) (j : Nat), memB l j = true ↔ j ∈ l
 | [], j => by simp [memB]
 | k :: l, j => by
  unfold memB
  by_cases h : k = j
  ·subst h
   have : Nat.beq k k = true := by simp
   simp [this]
  ·rw [beq_ne h]
   simp [memB_iff l j, Ne.symm h]
mutual
def D.kills (l : List Nat) : D → D
 | .own j t s es => bif memB l j then .junk else .own j t s es
 | .optr j t s es i o => bif memB l j then .junk else .optr j t s es i o
 | .agg cs => .agg (killsL l cs)
 | .tup cs => .tup (killsL l cs)
 | .fn g cs => .fn g (killsL l cs)
 | .yl lb ps x y cs => .yl lb ps x y (killsL l cs)
 | d => d
def killsL (l : List Nat) : List D → List D
 | [] => []
 | d :: ds => D.kills l d :: killsL l ds
end
def killsH (l : List Nat) : Hp → Hp
 | [] => []
 | none :: h => none :: killsH l h
 | some cs :: h => some (killsL l cs) :: killsH l h
mutual
def D.ren (ρ σ : List Nat) : D → D
 | .own j t s es => .own (σ.getD j 0) t s es
 | .optr j t s es i o => .optr (σ.getD j 0) t s es i o
 | .ptr j o => .ptr (ρ.getD j 0) o
 | .agg cs => .agg (renL ρ σ cs)
 | .tup cs => .tup (renL ρ σ cs)
 | .fn g cs => .fn g (renL ρ σ cs)
 | .yl lb ps x y cs => .yl lb ps x y (renL ρ σ cs)
 | d => d
def renL (ρ σ : List Nat) : List D → List D
 | [] => []
 | d :: ds => D.ren ρ σ d :: renL ρ σ ds
end
mutual
def refD (h n : Nat) : D → Prop
 | .own j _ _ _ => j < n
 | .optr j _ _ _ _ _ => j < n
 | .ptr j _ => j < h
 | .agg cs => refL h n cs
 | .tup cs => refL h n cs
 | .fn _ cs => refL h n cs
 | .yl _ _ _ _ cs => refL h n cs
 | _ => True
def refL (h n : Nat) : List D → Prop
 | [] => True
 | d :: ds => refD h n d ∧ refL h n ds
end
def fitH (ρ σ : List Nat) (h n : Nat) : List Nat → Hp → Hp → Prop
 | [], [], _ => True
 | r :: rs, o :: os, H => (match o with
  | none => True
  | some cs => H[r]? = some (some (renL ρ σ cs)) ∧ refL h n cs) ∧ fitH ρ σ h n rs os H
 | _, _, _ => False
def putH (ρ σ : List Nat) : List Nat → Hp → Hp → Hp
 | r :: rs, o :: os, H => putH ρ σ rs os (H.set r (o.map (renL ρ σ)))
 | _, _, H => H
structure KeepS (c c' : Cx) (w w' : World) (l : List Nat) : Prop where
 imm : ImmKeep c.imm c'.imm w w'
 h : c.h ≤ c'.h
 n : c.n ≤ c'.n
 φ : ∀ j, j < c.h → c'.φ j = c.φ j
 τ : ∀ j, j < c.n → j ∉ l → c'.τ j = c.τ j ∧ ∀ b, blk (c.τ j) = some b → w'.heap[b]? = w.heap[b]?
mutual
theorem Rep.kills {c c' : Cx} {w w' : World} {l : List Nat} (hk : KeepS c c' w w' l) : ∀ (d : D) (y : Value), Rep c w d y → Rep c' w' (d.kills l) y
 | .junk, y, h => by simp [D.kills, Rep]
 | .f x, y, h => by unfold D.kills Rep at *; exact h.mono hk.imm
 | .nil, y, h => by unfold D.kills Rep at *; exact h
 | .agg cs, y, h => by
  unfold D.kills; unfold Rep at *
  obtain ⟨vs, e, hl⟩ := h
  exact ⟨vs, e, RepL.kills hk cs vs hl⟩
 | .tup cs, y, h => by
  unfold D.kills; unfold Rep at *
  obtain ⟨vs, e, hl⟩ := h
  exact ⟨vs, e, RepL.kills hk cs vs hl⟩
 | .own j t s es, y, h => by
  unfold D.kills
  cases hm : memB l j with
  | true => simp [Rep]
  | false =>
   have hj : j ∉ l := fun e => by rw [(memB_iff l j).2 e] at hm; cases hm
   simp only [cond_false, Rep] at *
   obtain ⟨e1, e2⟩ := hk.τ j h.1 hj
   rw [e1]
   exact ⟨Nat.lt_of_lt_of_le h.1 hk.n, h.2.1, h.2.2.mono hk.imm e2⟩
 | .optr j t s es i o, y, h => by
  unfold D.kills
  cases hm : memB l j with
  | true => simp [Rep]
  | false =>
   have hj : j ∉ l := fun e => by rw [(memB_iff l j).2 e] at hm; cases hm
   simp only [cond_false, Rep] at *
   obtain ⟨e1, e2⟩ := hk.τ j h.1 hj
   rw [e1]
   exact ⟨Nat.lt_of_lt_of_le h.1 hk.n, h.2.1.mono hk.imm e2, h.2.2⟩
 | .ptr j o, y, h => by
  unfold D.kills Rep at *
  exact ⟨Nat.lt_of_lt_of_le h.1 hk.h, by rw [hk.φ j h.1]; exact h.2⟩
 | .ip cs, y, h => by
  unfold D.kills Rep at *
  obtain ⟨b, o, e, hi, hc⟩ := h
  exact ⟨b, o, e, (hk.imm b hi).1, hc.mono hk.imm _ _ _ (hk.imm b hi).2⟩
 | .fn g cs, y, h => by
  unfold D.kills; unfold Rep at *
  obtain ⟨vs, e, hl⟩ := h
  exact ⟨vs, e, RepL.kills hk cs vs hl⟩
 | .yl l' ps x y cs, u, h => by
  unfold D.kills; unfold Rep at *
  obtain ⟨fn, df, vs, e, hi, hw, hl⟩ := h
  exact ⟨fn, df, vs, e, (hk.imm l' hi).1, (hk.imm l' hi).2.trans hw, RepL.kills hk cs vs hl⟩
theorem RepL.kills {c c' : Cx} {w w' : World} {l : List Nat} (hk : KeepS c c' w w' l) : ∀ (ds : List D) (ys : List Value), RepL c w ds ys → RepL c' w' (killsL l ds) ys
 | [], ys, h => by unfold killsL; unfold RepL at *; exact h
 | d :: ds, ys, h => by
  unfold killsL; unfold RepL at *
  obtain ⟨v, vs', e, h1, h2⟩ := h
  exact ⟨v, vs', e, Rep.kills hk d v h1, RepL.kills hk ds vs' h2⟩
end
theorem killsH_get : ∀ {H : Hp} {l : List Nat} {j : Nat} {cs : Cells}, (killsH l H)[j]? = some (some cs) → ∃ cs', H[j]? = some (some cs') ∧ cs = killsL l cs'
 | [], _, _, _, h => by simp [killsH] at h
 | none :: H, l, j, cs, h => by
  cases j with
  | zero => simp [killsH] at h
  | succ j => simpa using killsH_get (H := H) (by simpa [killsH] using h)
 | some x :: H, l, j, cs, h => by
  cases j with
  | zero => simp [killsH] at h; exact ⟨x, rfl, h.symm⟩
  | succ j => simpa using killsH_get (H := H) (by simpa [killsH] using h)
theorem killsH_length : ∀ (l : List Nat) (H : Hp), (killsH l H).length = H.length
 | _, [] => rfl
 | l, none :: H => by simp [killsH, killsH_length l H]
 | l, some _ :: H => by simp [killsH, killsH_length l H]
structure Thru (c c1 : Cx) (ρ σ : List Nat) (h n : Nat) : Prop where
 imm : c1.imm = c.imm
 φ : ∀ j, j < h → c1.φ j = c.φ (ρ.getD j 0)
 τ : ∀ j, j < n → c1.τ j = c.τ (σ.getD j 0)
 h1 : c1.h = h
 n1 : c1.n = n
 ρb : ∀ j, j < h → ρ.getD j 0 < c.h
 σb : ∀ j, j < n → σ.getD j 0 < c.n
mutual
theorem Rep.thru {c c1 : Cx} {w : World} {ρ σ : List Nat} {h n : Nat} (ht : Thru c c1 ρ σ h n) : ∀ (d : D) (y : Value), refD h n d → Rep c w (d.ren ρ σ) y → Rep c1 w d y
 | .junk, y, hr, hh => by simp [Rep]
 | .f x, y, hr, hh => by unfold D.ren Rep at *; rw [ht.imm]; exact hh
 | .nil, y, hr, hh => by unfold D.ren Rep at *; exact hh
 | .agg cs, y, hr, hh => by
  unfold D.ren at hh; unfold refD at hr; unfold Rep at *
  obtain ⟨vs, e, hl⟩ := hh
  exact ⟨vs, e, RepL.thru ht cs vs hr hl⟩
 | .tup cs, y, hr, hh => by
  unfold D.ren at hh; unfold refD at hr; unfold Rep at *
  obtain ⟨vs, e, hl⟩ := hh
  exact ⟨vs, e, RepL.thru ht cs vs hr hl⟩
 | .fn g cs, y, hr, hh => by
  unfold D.ren at hh; unfold refD at hr; unfold Rep at *
  obtain ⟨vs, e, hl⟩ := hh
  exact ⟨vs, e, RepL.thru ht cs vs hr hl⟩
 | .yl l ps x y cs, u, hr, hh => by
  unfold D.ren at hh; unfold refD at hr; unfold Rep at *
  obtain ⟨fn, df, vs, e, hi, hw, hl⟩ := hh
  exact ⟨fn, df, vs, e, by rw [ht.imm]; exact hi, hw, RepL.thru ht cs vs hr hl⟩
 | .own j t s es, y, hr, hh => by
  unfold D.ren at hh; unfold refD at hr; unfold Rep at *
  rw [ht.τ j hr, ht.imm, ht.n1]
  exact ⟨hr, hh.2.1, hh.2.2⟩
 | .optr j t s es i o, y, hr, hh => by
  unfold D.ren at hh; unfold refD at hr; unfold Rep at *
  rw [ht.τ j hr, ht.imm, ht.n1]
  exact ⟨hr, hh.2.1, hh.2.2⟩
 | .ptr j o, y, hr, hh => by
  unfold D.ren at hh; unfold refD at hr; unfold Rep at *
  rw [ht.φ j hr, ht.h1]
  exact ⟨hr, hh.2⟩
 | .ip cs, y, hr, hh => by unfold D.ren Rep at *; rw [ht.imm]; exact hh
theorem RepL.thru {c c1 : Cx} {w : World} {ρ σ : List Nat} {h n : Nat} (ht : Thru c c1 ρ σ h n) : ∀ (ds : List D) (ys : List Value), refL h n ds → RepL c w (renL ρ σ ds) ys → RepL c1 w ds ys
 | [], ys, hr, hh => by unfold renL at hh; unfold RepL at *; exact hh
 | d :: ds, ys, hr, hh => by
  unfold renL at hh; unfold refL at hr; unfold RepL at *
  obtain ⟨v, vs', e, h1, h2⟩ := hh
  exact ⟨v, vs', e, Rep.thru ht d v hr.1 h1, RepL.thru ht ds vs' hr.2 h2⟩
end
mutual
theorem Rep.back {c c1 : Cx} {w : World} {ρ σ : List Nat} {h n : Nat} (ht : Thru c c1 ρ σ h n) : ∀ (d : D) (y : Value), Rep c1 w d y → Rep c w (d.ren ρ σ) y
 | .junk, y, hh => by simp [D.ren, Rep]
 | .f x, y, hh => by unfold D.ren Rep at *; rw [← ht.imm]; exact hh
 | .nil, y, hh => by unfold D.ren Rep at *; exact hh
 | .agg cs, y, hh => by
  unfold D.ren; unfold Rep at *
  obtain ⟨vs, e, hl⟩ := hh
  exact ⟨vs, e, RepL.back ht cs vs hl⟩
 | .tup cs, y, hh => by
  unfold D.ren; unfold Rep at *
  obtain ⟨vs, e, hl⟩ := hh
  exact ⟨vs, e, RepL.back ht cs vs hl⟩
 | .fn g cs, y, hh => by
  unfold D.ren; unfold Rep at *
  obtain ⟨vs, e, hl⟩ := hh
  exact ⟨vs, e, RepL.back ht cs vs hl⟩
 | .yl l ps x y cs, u, hh => by
  unfold D.ren; unfold Rep at *
  obtain ⟨fn, df, vs, e, hi, hw, hl⟩ := hh
  exact ⟨fn, df, vs, e, by rw [← ht.imm]; exact hi, hw, RepL.back ht cs vs hl⟩
 | .own j t s es, y, hh => by
  unfold D.ren; unfold Rep at *
  obtain ⟨h1, h2, h3⟩ := hh
  rw [ht.n1] at h1
  rw [ht.τ j h1] at h2 h3
  rw [ht.imm] at h3
  exact ⟨ht.σb j h1, h2, h3⟩
 | .optr j t s es i o, y, hh => by
  unfold D.ren; unfold Rep at *
  obtain ⟨h1, h2, h3⟩ := hh
  rw [ht.n1] at h1
  rw [ht.τ j h1] at h2 h3
  rw [ht.imm] at h2
  exact ⟨ht.σb j h1, h2, h3⟩
 | .ptr j o, y, hh => by
  unfold D.ren; unfold Rep at *
  obtain ⟨h1, h2⟩ := hh
  rw [ht.h1] at h1
  rw [ht.φ j h1] at h2
  exact ⟨ht.ρb j h1, h2⟩
 | .ip cs, y, hh => by unfold D.ren Rep at *; rw [← ht.imm]; exact hh
theorem RepL.back {c c1 : Cx} {w : World} {ρ σ : List Nat} {h n : Nat} (ht : Thru c c1 ρ σ h n) : ∀ (ds : List D) (ys : List Value), RepL c1 w ds ys → RepL c w (renL ρ σ ds) ys
 | [], ys, hh => by unfold renL; unfold RepL at *; exact hh
 | d :: ds, ys, hh => by
  unfold renL; unfold RepL at *
  obtain ⟨v, vs', e, h1, h2⟩ := hh
  exact ⟨v, vs', e, Rep.back ht d v h1, RepL.back ht ds vs' h2⟩
end
theorem fitH_length {ρ σ : List Nat} {h n : Nat} : ∀ {rs : List Nat} {os H : Hp}, fitH ρ σ h n rs os H → rs.length = os.length
 | [], [], _, _ => rfl
 | r :: rs, o :: os, H, hf => by unfold fitH at hf; simp [fitH_length hf.2]
 | [], _ :: _, _, hf => hf.elim
 | _ :: _, [], _, hf => hf.elim
theorem fitH_get {ρ σ : List Nat} {h n : Nat} : ∀ {rs : List Nat} {os H : Hp}, fitH ρ σ h n rs os H → ∀ (j : Nat) (cs : Cells), os[j]? = some (some cs) → H[rs.getD j 0]? = some (some (renL ρ σ cs)) ∧ refL h n cs
 | [], [], _, _, j, cs, e => by simp at e
 | r :: rs, o :: os, H, hf, j, cs, e => by
  unfold fitH at hf
  cases j with
  | zero =>
   simp at e
   subst e
   exact hf.1
  | succ j => simpa using fitH_get hf.2 j cs (by simpa using e)
 | [], _ :: _, _, hf, _, _, _ => hf.elim
 | _ :: _, [], _, hf, _, _, _ => hf.elim
theorem putH_length {ρ σ : List Nat} : ∀ (rs : List Nat) (os H : Hp), (putH ρ σ rs os H).length = H.length
 | [], _, _ => rfl
 | _ :: _, [], _ => rfl
 | r :: rs, o :: os, H => by unfold putH; rw [putH_length rs os]; simp
theorem putH_other {ρ σ : List Nat} : ∀ (rs : List Nat) (os H : Hp) (k : Nat), k ∉ rs → (putH ρ σ rs os H)[k]? = H[k]?
 | [], _, _, _, _ => rfl
 | _ :: _, [], _, _, _ => rfl
 | r :: rs, o :: os, H, k, hk => by
  unfold putH
  rw [putH_other rs os _ k (fun h => hk (List.mem_cons_of_mem _ h)), List.getElem?_set_ne (fun h => hk (by rw [h]; exact List.mem_cons_self ..))]
theorem putH_at {ρ σ : List Nat} : ∀ (rs : List Nat) (os H : Hp), rs.Nodup → (∀ r ∈ rs, r < H.length) → ∀ (j : Nat) (hj : j < rs.length) (hj' : j < os.length), (putH ρ σ rs os H)[rs.getD j 0]? = some ((os[j]).map (renL ρ σ))
 | [], _, _, _, _, j, hj, _ => by simp at hj
 | _ :: _, [], _, _, _, j, _, hj' => by simp at hj'
 | r :: rs, o :: os, H, hn, hb, j, hj, hj' => by
  unfold putH
  rw [List.nodup_cons] at hn
  cases j with
  | zero =>
   simp only [List.getD_cons_zero, List.getElem_cons_zero]
   rw [putH_other rs os _ r hn.1, List.getElem?_set_self (hb r (List.mem_cons_self ..))]
  | succ j =>
   simp only [List.getD_cons_succ, List.getElem_cons_succ]
   exact putH_at rs os _ hn.2 (fun q hq => by simpa using hb q (List.mem_cons_of_mem _ hq)) j (by simpa using hj) (by simpa using hj')
section
variable {P : Program}
open Classical in
noncomputable def Cx.merge (c c2 : Cx) (σ : List Nat) : Cx :=
 ⟨c.φ, fun k => if h : ∃ j, j < σ.length ∧ σ.getD j 0 = k then c2.τ h.choose else c.τ k, c2.imm, c.h, c.n⟩
theorem getD_inj {l : List Nat} (hn : l.Nodup) {i j : Nat} (hi : i < l.length) (hj : j < l.length) (h : l.getD i 0 = l.getD j 0) : i = j := by
 rw [List.getD_eq_getElem?_getD, List.getD_eq_getElem?_getD, List.getElem?_eq_getElem hi, List.getElem?_eq_getElem hj] at h
 simp at h
 have hp := List.pairwise_iff_getElem.1 hn
 rcases Nat.lt_trichotomy i j with h1 | h1 | h1
 ·exact absurd h (hp i j hi hj h1)
 ·exact h1
 ·exact absurd h.symm (hp j i hj hi h1)
theorem merge_at {c c2 : Cx} {σ : List Nat} (hn : σ.Nodup) {j : Nat} (hj : j < σ.length) : (c.merge c2 σ).τ (σ.getD j 0) = c2.τ j := by
 have h : ∃ i, i < σ.length ∧ σ.getD i 0 = σ.getD j 0 := ⟨j, hj, rfl⟩
 show (if h : ∃ i, i < σ.length ∧ σ.getD i 0 = σ.getD j 0 then c2.τ h.choose else _) = _
 rw [dif_pos h]
 rw [getD_inj hn h.choose_spec.1 hj h.choose_spec.2]
theorem merge_other {c c2 : Cx} {σ : List Nat} {k : Nat} (hk : k ∉ σ) : (c.merge c2 σ).τ k = c.τ k := by
 show (if h : ∃ i, i < σ.length ∧ σ.getD i 0 = k then c2.τ h.choose else _) = _
 rw [dif_neg]
 rintro ⟨i, hi, e⟩
 apply hk
 rw [← e, List.getD_eq_getElem?_getD, List.getElem?_eq_getElem hi]
 simp
theorem getD_mem {l : List Nat} {j : Nat} (h : j < l.length) : l.getD j 0 ∈ l := by
 rw [List.getD_eq_getElem?_getD, List.getElem?_eq_getElem h]
 simp
theorem call_gen {g : FuncId} {«as» : List D} {Hs : Hp} {R : D → Hp → Prop} {E : List D} {H : Hp} {n : Nat} {K : KD} (ρ σ : List Nat) (hs : Spec P g «as» Hs σ.length R)
  (hρ : ρ.Nodup) (hσ : σ.Nodup) (hρb : ∀ r ∈ ρ, r < H.length) (hσb : ∀ k ∈ σ, k < n) (hfit : fitH ρ σ Hs.length σ.length ρ Hs H) (href : refL Hs.length σ.length «as»)
  (k : ∀ d Hs', R d Hs' → Hs'.length = Hs.length → K (d.ren ρ σ) (killsL σ E) (putH ρ σ ρ Hs' (killsH σ H)) n) : Call P g (renL ρ σ «as») E H n K := by
 refine Call.mk ⟨hs.1, fun B c w ts vs hC hE ha => ?_⟩
 have hlen := fitH_length hfit
 have hget := fitH_get hfit
 have hρm : ∀ j, j < Hs.length → ρ.getD j 0 ∈ ρ := fun j hj => getD_mem (by omega)
 let c1 : Cx := ⟨fun j => c.φ (ρ.getD j 0), fun j => if j < σ.length then c.τ (σ.getD j 0) else nilS, c.imm, Hs.length, σ.length⟩
 have hτ1 : ∀ j, j < σ.length → c1.τ j = c.τ (σ.getD j 0) := fun j hj => by show (if j < σ.length then _ else _) = _; rw [if_pos hj]
 have hτ0 : ∀ j, ¬ j < σ.length → c1.τ j = nilS := fun j hj => by show (if j < σ.length then _ else _) = _; rw [if_neg hj]
 have hτb : ∀ j b, blk (c1.τ j) = some b → j < σ.length ∧ blk (c.τ (σ.getD j 0)) = some b := fun j b hb => by
  by_cases hj : j < σ.length
  ·rw [hτ1 j hj] at hb; exact ⟨hj, hb⟩
  ·rw [hτ0 j hj] at hb; cases hb
 have ht : Thru c c1 ρ σ Hs.length σ.length := ⟨rfl, fun _ _ => rfl, hτ1, rfl, rfl, fun j hj => by rw [hC.hlen]; exact hρb _ (hρm j hj), fun j hj => by rw [hC.nlen]; exact hσb _ (getD_mem hj)⟩
 have hC1 : Con (base c1 w Hs) c1 w Hs σ.length := by
  refine ⟨rfl, rfl, rfl, Nat.le_refl _, fun b _ _ => rfl, fun b hb => hb, fun b hb => ⟨(hC.immB b hb).1, .inl hb⟩, rfl, rfl, Nat.le_refl _, fun _ _ => rfl, fun j cs hj => ?_, fun j cs hj => ?_, fun i j cs ds hi hj e => ?_, fun j b hb => ?_, fun i j b hi hj => ?_, fun j hj => hτ0 j (by omega), hC.glob⟩
  ·obtain ⟨h1, h2⟩ := hget j cs hj
   obtain ⟨C, T, e, hr⟩ := hC.objs _ _ h1
   exact ⟨C, T, e, RepL.thru ht cs _ h2 hr⟩
  ·obtain ⟨h1, h2⟩ := hget j cs hj
   exact ⟨.inl (.inl ⟨j, cs, hj, rfl⟩), (hC.objM _ _ h1).2⟩
  ·obtain ⟨h1, _⟩ := hget i cs hi
   obtain ⟨h2, _⟩ := hget j ds hj
   have := hC.inj _ _ _ _ h1 h2 e
   exact getD_inj hρ (by rw [hlen]; exact (List.getElem?_eq_some_iff.1 hi).1) (by rw [hlen]; exact (List.getElem?_eq_some_iff.1 hj).1) this
  ·obtain ⟨hj, hb'⟩ := hτb j b hb
   obtain ⟨a1, a2, a3, a4⟩ := hC.tags _ b hb'
   exact ⟨a1, a2, .inl (.inr ⟨j, hb⟩), fun i cs hi => a4 _ _ (hget i cs hi).1⟩
  ·obtain ⟨h1, hb1⟩ := hτb i b hi
   obtain ⟨h2, hb2⟩ := hτb j b hj
   exact getD_inj hσ h1 h2 (hC.tagInj _ _ b hb1 hb2)
 refine (hs.2 c1 w vs hC1 (RepL.thru ht «as» vs href ha)).mono ?_
 rintro e w' ⟨d, v, Hs', c2, hR, rfl, hl', hC2, hv⟩
 -- what the callee may have turned
 have hmine : ∀ b, mine c1 Hs b → (∃ j cs, Hs[j]? = some (some cs) ∧ c.φ (ρ.getD j 0) = b) ∨ ∃ j, j < σ.length ∧ blk (c.τ (σ.getD j 0)) = some b := fun b hb => by
  rcases hb with ⟨j, cs, h1, h2⟩ | ⟨j, hb⟩
  ·exact .inl ⟨j, cs, h1, h2⟩
  ·exact .inr ⟨j, hτb j b hb⟩
 have hsame : ∀ b, b < w.heap.size → ¬ mine c1 Hs b → w'.heap[b]? = w.heap[b]? := hC2.old
 have himm : ImmKeep c.imm c2.imm w w' := fun b hb => ⟨hC2.imm0 b hb, hsame b (hC.immB b hb).1 (fun hm => by
  rcases hmine b hm with ⟨j, cs, h1, h2⟩ | ⟨j, _, h2⟩
  ·exact (hC.objM _ _ (hget j cs h1).1).2 (h2 ▸ hb)
  ·exact (hC.tags _ b h2).2.1 hb)⟩
 have htag : ∀ j b, j ∉ σ → blk (c.τ j) = some b → w'.heap[b]? = w.heap[b]? := fun j b hj hb => hsame b (hC.tags j b hb).1 (fun hm => by
  rcases hmine b hm with ⟨i, cs, h1, h2⟩ | ⟨i, h1, h2⟩
  ·exact (hC.tags j b hb).2.2.2 _ _ (hget i cs h1).1 h2
  ·exact hj (by rw [hC.tagInj j _ b hb h2]; exact getD_mem h1))
 let c' := c.merge c2 σ
 have hks : KeepS c c' w w' σ := ⟨himm, Nat.le_refl _, Nat.le_refl _, fun _ _ => rfl, fun j _ hj => ⟨merge_other hj, fun b hb => htag j b hj hb⟩⟩
 have hphi : ∀ j, j < Hs.length → c2.φ j = c.φ (ρ.getD j 0) := fun j hj => hC2.phi j hj
 have ht2 : Thru c' c2 ρ σ Hs.length σ.length := ⟨rfl, hphi, fun j hj => (merge_at hσ hj).symm, by rw [hC2.hlen, hl'], hC2.nlen, fun j hj => by rw [show c'.h = H.length from hC.hlen]; exact hρb _ (hρm j hj), fun j hj => by rw [show c'.n = n from hC.nlen]; exact hσb _ (getD_mem hj)⟩
 have hwsize : w.heap.size ≤ w'.heap.size := hC2.size
 -- the objects behind
 have hobj : ∀ q cs, (putH ρ σ ρ Hs' (killsH σ H))[q]? = some (some cs) → (∃ j ds, q = ρ.getD j 0 ∧ j < Hs.length ∧ Hs'[j]? = some (some ds) ∧ cs = renL ρ σ ds) ∨ (q ∉ ρ ∧ ∃ ds, H[q]? = some (some ds) ∧ cs = killsL σ ds) := fun q cs hq => by
  by_cases hqρ : q ∈ ρ
  ·left
   obtain ⟨j, hj, rfl⟩ := List.getElem_of_mem hqρ
   have hj2 : j < Hs'.length := by omega
   have e1 : ρ[j] = ρ.getD j 0 := by rw [List.getD_eq_getElem?_getD, List.getElem?_eq_getElem hj]; simp
   rw [e1] at hq
   rw [putH_at ρ Hs' (killsH σ H) hρ (fun r hr => by rw [killsH_length]; exact hρb r hr) j hj hj2] at hq
   cases ho : Hs'[j] with
   | none => rw [ho] at hq; simp at hq
   | some ds =>
    rw [ho] at hq
    simp at hq
    exact ⟨j, ds, e1, by omega, by rw [List.getElem?_eq_getElem hj2, ho], hq.symm⟩
  ·right
   rw [putH_other ρ Hs' _ q hqρ] at hq
   obtain ⟨ds, h1, h2⟩ := killsH_get hq
   exact ⟨hqρ, ds, h1, h2⟩
 have hlive : ∀ q cs, (putH ρ σ ρ Hs' (killsH σ H))[q]? = some (some cs) → (∃ j ds, q = ρ.getD j 0 ∧ j < Hs.length ∧ Hs'[j]? = some (some ds) ∧ c.φ q = c2.φ j) ∨ (q ∉ ρ ∧ ∃ ds, H[q]? = some (some ds)) := fun q cs hq => by
  rcases hobj q cs hq with ⟨j, ds, h1, h2, h3, _⟩ | ⟨h1, ds, h2, _⟩
  ·exact .inl ⟨j, ds, h1, h2, h3, by rw [hphi j h2, h1]⟩
  ·exact .inr ⟨h1, ds, h2⟩
 have hτc : ∀ q b, blk (c'.τ q) = some b → (∃ j, j < σ.length ∧ q = σ.getD j 0 ∧ blk (c2.τ j) = some b) ∨ (q ∉ σ ∧ blk (c.τ q) = some b) := fun q b hb => by
  by_cases hq : q ∈ σ
  ·left
   obtain ⟨j, hj, rfl⟩ := List.getElem_of_mem hq
   have e1 : σ[j] = σ.getD j 0 := by rw [List.getD_eq_getElem?_getD, List.getElem?_eq_getElem hj]; simp
   rw [e1] at hb
   exact ⟨j, hj, e1, by rw [← merge_at hσ hj]; exact hb⟩
  ·right
   rw [show c'.τ q = c.τ q from merge_other hq] at hb
   exact ⟨hq, hb⟩
 -- a block of the caller's that was not handed over is none of the callee's
 have hmineB : ∀ b, mine c1 Hs b → (B.m0 b ∨ B.w0.heap.size ≤ b) ∧ b < w.heap.size := fun b hb => by
  rcases hmine b hb with ⟨j, cs, h1, h2⟩ | ⟨j, h1, h2⟩
  ·exact ⟨h2 ▸ (hC.objM _ _ (hget j cs h1).1).1, h2 ▸ hC.objLt (hget j cs h1).1⟩
  ·exact ⟨(hC.tags _ b h2).2.2.1, (hC.tags _ b h2).1⟩
 have hcalleeB : ∀ b, (mine c1 Hs b ∨ w.heap.size ≤ b) → B.m0 b ∨ B.w0.heap.size ≤ b := fun b hb => by
  rcases hb with hb | hb
  ·exact (hmineB b hb).1
  ·exact .inr (Nat.le_trans hC.size hb)
 have hnotObj : ∀ q ds, q ∉ ρ → H[q]? = some (some ds) → ¬ mine c1 Hs (c.φ q) := fun q ds hq h1 hm => by
  rcases hmine _ hm with ⟨j, cs, h2, h3⟩ | ⟨j, h2, h3⟩
  ·have := hC.inj _ _ _ _ (hget j cs h2).1 h1 h3
   exact hq (this ▸ hρm j (List.getElem?_eq_some_iff.1 h2).1)
  ·exact (hC.tags _ _ h3).2.2.2 _ _ h1 rfl
 have hnotTag : ∀ q b, q ∉ σ → blk (c.τ q) = some b → ¬ mine c1 Hs b := fun q b hq h1 hm => by
  rcases hmine _ hm with ⟨j, cs, h2, h3⟩ | ⟨j, h2, h3⟩
  ·exact (hC.tags _ b h1).2.2.2 _ _ (hget j cs h2).1 h3
  ·exact hq (by rw [hC.tagInj q _ b h1 h3]; exact getD_mem h2)
 refine ⟨d.ren ρ σ, v, _, _, n, c', k d Hs' hR hl', rfl, ?_, RepL.kills hks _ _ hE, Rep.back ht2 d v hv⟩
 refine ⟨hC2.os.trans hC.os, hC2.tape.trans hC.tape, hC2.output.trans hC.output, Nat.le_trans hC.size hwsize, fun b hb hm => ?_, fun b hb => (himm b (hC.imm0 b hb)).1, fun b hb => ?_, by rw [putH_length, killsH_length]; exact hC.hlen, hC.nlen, hC.hh, hC.phi, fun q cs hq => ?_, fun q cs hq => ?_, fun p q cs ds hp hq e => ?_, fun q b hb => ?_, fun p q b hp hq => ?_, fun q hq => ?_, hC2.glob⟩
 ·rw [hsame b (Nat.lt_of_lt_of_le hb hC.size) (fun hm2 => ?_)]
  ·exact hC.old b hb hm
  ·rcases (hmineB b hm2).1 with h1 | h1
   ·exact hm h1
   ·omega
 ·obtain ⟨h1, h2⟩ := hC2.immB b hb
  refine ⟨h1, ?_⟩
  rcases h2 with h2 | h2 | h2
  ·exact (hC.immB b h2).2
  ·rcases (hmineB b h2).1 with h3 | h3
   ·exact .inr (.inl h3)
   ·exact .inr (.inr h3)
  ·exact .inr (.inr (Nat.le_trans hC.size h2))
 ·rcases hobj q cs hq with ⟨j, ds, rfl, h2, h3, rfl⟩ | ⟨h1, ds, h2, rfl⟩
  ·obtain ⟨C, T, e, hr⟩ := hC2.objs j ds h3
   rw [hphi j h2] at e
   exact ⟨C, T, e, RepL.back ht2 ds _ hr⟩
  ·obtain ⟨C, T, e, hr⟩ := hC.objs q ds h2
   exact ⟨C, T, by
    show w'.heap[c.φ q]? = _
    rw [hsame _ (hC.objLt h2) (hnotObj q ds h1 h2)]; exact e, RepL.kills hks ds _ hr⟩
 ·rcases hlive q cs hq with ⟨j, ds, h1, h2, h3, h4⟩ | ⟨h1, ds, h2⟩
  ·obtain ⟨a1, a2⟩ := hC2.objM j ds h3
   show (_ ∨ _) ∧ ¬ c2.imm (c.φ q)
   rw [show (c'.φ q) = c2.φ j from h4, h4]
   exact ⟨hcalleeB _ a1, a2⟩
  ·refine ⟨(hC.objM q ds h2).1, fun hi => ?_⟩
   rcases (hC2.immB _ hi).2 with h3 | h3 | h3
   ·exact (hC.objM q ds h2).2 h3
   ·exact hnotObj q ds h1 h2 h3
   ·have := hC.objLt h2
    have h3' : w.heap.size ≤ c.φ q := h3
    omega
 ·have e' : c.φ p = c.φ q := e
  rcases hlive p cs hp with ⟨j, xs, h1, h2, h3, h4⟩ | ⟨h1, xs, h2⟩ <;> rcases hlive q ds hq with ⟨i, ys, g1, g2, g3, g4⟩ | ⟨g1, ys, g2⟩
  ·rw [h4, g4] at e'
   have := hC2.inj _ _ _ _ h3 g3 e'
   rw [h1, g1, this]
  ·exfalso
   have h5 := (hC2.objM j xs h3).1
   rw [← h4, e'] at h5
   rcases h5 with h5 | h5
   ·exact hnotObj q ys g1 g2 h5
   ·have := hC.objLt g2
    have h5' : w.heap.size ≤ c.φ q := h5
    omega
  ·exfalso
   have h5 := (hC2.objM i ys g3).1
   rw [← g4, ← e'] at h5
   rcases h5 with h5 | h5
   ·exact hnotObj p xs h1 h2 h5
   ·have := hC.objLt h2
    have h5' : w.heap.size ≤ c.φ p := h5
    omega
  ·exact hC.inj p q xs ys h2 g2 e'
 ·rcases hτc q b hb with ⟨j, h1, h2, h3⟩ | ⟨h1, h2⟩
  ·obtain ⟨a1, a2, a3, a4⟩ := hC2.tags j b h3
   refine ⟨a1, a2, hcalleeB b a3, fun p cs hp e => ?_⟩
   have e' : c.φ p = b := e
   rcases hlive p cs hp with ⟨i, xs, g1, g2, g3, g4⟩ | ⟨g1, xs, g2⟩
   ·exact a4 i xs g3 (by rw [← g4]; exact e')
   ·rcases a3 with a3 | a3
    ·exact hnotObj p xs g1 g2 (e' ▸ a3)
    ·have := hC.objLt g2
     have a3' : w.heap.size ≤ b := a3
     omega
  ·obtain ⟨a1, a2, a3, a4⟩ := hC.tags q b h2
   refine ⟨Nat.lt_of_lt_of_le a1 hwsize, fun hi => ?_, a3, fun p cs hp e => ?_⟩
   ·rcases (hC2.immB _ hi).2 with h3 | h3 | h3
    ·exact a2 h3
    ·exact hnotTag q b h1 h2 h3
    ·have h3' : w.heap.size ≤ b := h3
     omega
   ·have e' : c.φ p = b := e
    rcases hlive p cs hp with ⟨i, xs, g1, g2, g3, g4⟩ | ⟨g1, xs, g2⟩
    ·have h5 := (hC2.objM i xs g3).1
     rw [← g4, e'] at h5
     rcases h5 with h5 | h5
     ·exact hnotTag q b h1 h2 h5
     ·have h5' : w.heap.size ≤ b := h5
      omega
    ·exact a4 p xs g2 e'
 ·rcases hτc p b hp with ⟨j, h1, h2, h3⟩ | ⟨h1, h2⟩ <;> rcases hτc q b hq with ⟨i, g1, g2, g3⟩ | ⟨g1, g2⟩
  ·rw [h2, g2, hC2.tagInj _ _ b h3 g3]
  ·exfalso
   rcases (hC2.tags j b h3).2.2.1 with h5 | h5
   ·exact hnotTag q b g1 g2 h5
   ·have := (hC.tags q b g2).1
    have h5' : w.heap.size ≤ b := h5
    omega
  ·exfalso
   rcases (hC2.tags i b g3).2.2.1 with h5 | h5
   ·exact hnotTag p b h1 h2 h5
   ·have := (hC.tags p b h2).1
    have h5' : w.heap.size ≤ b := h5
    omega
  ·exact hC.tagInj p q b h2 g2
 ·have hq' : q ∉ σ := fun h => by have := hσb q h; omega
  rw [show c'.τ q = c.τ q from merge_other hq']
  exact hC.high q hq
end
end Go.Proofs.YtlhegfkpgchaeaaGreatDoor.Aw
