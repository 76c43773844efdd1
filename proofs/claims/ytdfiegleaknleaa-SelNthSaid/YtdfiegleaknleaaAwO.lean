/- Weaker words on a state; loops; a function's contract out of its text, and its use at a call. -/
/- A function's contract out of its text, and its use at a call. -/
import Derived.Test.YtdfiegleaknleaaAwM
import Derived.Deep.LoopGhost
namespace Go.Proofs.Ytdfiegleaknleaa.Aw
open Go Go.RowKit Go.Lib
set_option linter.unusedVariables false
set_option linter.unusedSimpArgs false

/-! Freezing. -/
mutual
def D.frz (k : Nat) : D → D
  | .own j t s es => bif Nat.beq j k then .f (.sl es) else .own j t s es
  | .optr j t s es i o => bif Nat.beq j k then .junk else .optr j t s es i o
  | .agg cs => .agg (frzL k cs)
  | .tup cs => .tup (frzL k cs)
  | .fn g cs => .fn g (frzL k cs)
  | .yl ps x y cs => .yl ps x y (frzL k cs)
  | d => d
def frzL (k : Nat) : List D → List D
  | [] => []
  | d :: ds => D.frz k d :: frzL k ds
end
def frzH (k : Nat) : Hp → Hp
  | [] => []
  | none :: h => none :: frzH k h
  | some cs :: h => some (frzL k cs) :: frzH k h
/-! Weaker words. -/
mutual
/-- What is said of a value is said of it still (n0 names ahead, n names and h objects behind). -/
def intoD (n0 n h : Nat) : D → D → Prop
  | d, .junk => True
  | d, .f (.sl es) => (match d with
    | .nil => es = []
    | d => d = .f (.sl es))
  | d, .f (.v x) => d = .f (.v x)
  | d, .nil => d = .nil
  | d, .agg ds => (match d with
    | .agg cs => intoL n0 n h cs ds
    | _ => False)
  | d, .tup ds => (match d with
    | .tup cs => intoL n0 n h cs ds
    | _ => False)
  | d, .fn g ds => (match d with
    | .fn g' cs => g' = g ∧ intoL n0 n h cs ds
    | _ => False)
  | d, .yl ps x y ds => (match d with
    | .yl ps' x' y' cs => ps' = ps ∧ x' = x ∧ y' = y ∧ intoL n0 n h cs ds
    | _ => False)
  | d, .own k t s es => (match d with
    | .nil => es = [] ∧ n0 ≤ k ∧ k < n ∧ 0 < s
    | d => d = .own k t s es ∧ k < n)
  | d, .optr k t s es i o => d = .optr k t s es i o ∧ k < n
  | d, .ptr k o => d = .ptr k o ∧ k < h
  | d, .ip cs => d = .ip cs
def intoL (n0 n h : Nat) : List D → List D → Prop
  | cs, [] => cs = []
  | cs, d :: ds => (match cs with
    | c :: cs => intoD n0 n h c d ∧ intoL n0 n h cs ds
    | [] => False)
end
def intoH (n0 n h : Nat) : Hp → Hp → Prop
  | _, [] => True
  | [], _ :: _ => False
  | _ :: H, none :: H' => intoH n0 n h H H'
  | some cs :: H, some cs' :: H' => intoL n0 n h cs cs' ∧ intoH n0 n h H H'
  | none :: _, some _ :: _ => False
def Into (E : List D) (H : Hp) (n : Nat) (E' : List D) (H' : Hp) (n' : Nat) : Prop := intoL n n' H'.length E E' ∧ intoH n n' H'.length H H'

def Cx.forget (c : Cx) (n h : Nat) : Cx := ⟨c.φ, fun k => if k < n then c.τ k else nilS, c.imm, h, n⟩
section
variable {P : Program} {c : Cx} {w : World} {H : Hp} {n : Nat} {B : Base}
mutual
theorem Rep.frz {c c' : Cx} {w : World} {k : Nat} (hk : Keep c c' w w (some k)) (hb : ∀ b, blk (c.τ k) = some b → c'.imm b) : ∀ (d : D) (y : Value), Rep c w d y → Rep c' w (d.frz k) y
  | .junk, y, h => by simp [D.frz, Rep]
  | .f x, y, h => by unfold D.frz Rep at *; exact h.mono hk.imm
  | .nil, y, h => by unfold D.frz Rep at *; exact h
  | .agg cs, y, h => by
    unfold D.frz; unfold Rep at *
    obtain ⟨vs, e, hl⟩ := h
    exact ⟨vs, e, RepL.frz hk hb cs vs hl⟩
  | .tup cs, y, h => by
    unfold D.frz; unfold Rep at *
    obtain ⟨vs, e, hl⟩ := h
    exact ⟨vs, e, RepL.frz hk hb cs vs hl⟩
  | .own j t s es, y, h => by
    unfold D.frz
    by_cases hj : j = k
    · subst hj
      have : Nat.beq j j = true := by simp
      rw [this]
      unfold cond
      simp only [Rep] at *
      obtain ⟨_, rfl, ho⟩ := h
      exact ho.toF hk.imm hb
    · have : Nat.beq j k = false := beq_ne hj
      rw [this]
      unfold cond
      simp only [Rep] at *
      obtain ⟨e1, e2⟩ := hk.τ j h.1 (by simpa using hj)
      rw [e1]
      exact ⟨Nat.lt_of_lt_of_le h.1 hk.n, h.2.1, h.2.2.mono hk.imm e2⟩
  | .optr j t s es i o, y, h => by
    unfold D.frz
    by_cases hj : j = k
    · subst hj; simp [Rep]
    · have : Nat.beq j k = false := beq_ne hj
      rw [this]
      unfold cond
      simp only [Rep] at *
      obtain ⟨e1, e2⟩ := hk.τ j h.1 (by simpa using hj)
      rw [e1]
      exact ⟨Nat.lt_of_lt_of_le h.1 hk.n, h.2.1.mono hk.imm e2, h.2.2⟩
  | .ptr j o, y, h => by
    unfold D.frz Rep at *
    exact ⟨Nat.lt_of_lt_of_le h.1 hk.h, by rw [hk.φ j h.1]; exact h.2⟩
  | .ip cs, y, h => by
    unfold D.frz Rep at *
    obtain ⟨b, o, e, hi, hc⟩ := h
    exact ⟨b, o, e, (hk.imm b hi).1, hc.mono hk.imm _ _ _ (hk.imm b hi).2⟩
  | .fn g cs, y, h => by
    unfold D.frz; unfold Rep at *
    obtain ⟨vs, e, hl⟩ := h
    exact ⟨vs, e, RepL.frz hk hb cs vs hl⟩
  | .yl ps x y cs, u, h => by
    unfold D.frz; unfold Rep at *
    obtain ⟨l, fn, df, vs, e, hi, hw, hl⟩ := h
    exact ⟨l, fn, df, vs, e, (hk.imm l hi).1, (hk.imm l hi).2.trans hw, RepL.frz hk hb cs vs hl⟩
theorem RepL.frz {c c' : Cx} {w : World} {k : Nat} (hk : Keep c c' w w (some k)) (hb : ∀ b, blk (c.τ k) = some b → c'.imm b) : ∀ (ds : List D) (ys : List Value), RepL c w ds ys → RepL c' w (frzL k ds) ys
  | [], ys, h => by unfold frzL; unfold RepL at *; exact h
  | d :: ds, ys, h => by
    unfold frzL; unfold RepL at *
    obtain ⟨v, vs', e, h1, h2⟩ := h
    exact ⟨v, vs', e, Rep.frz hk hb d v h1, RepL.frz hk hb ds vs' h2⟩
end
theorem frzH_get : ∀ {H : Hp} {k j : Nat} {cs : Cells}, (frzH k H)[j]? = some (some cs) → ∃ cs', H[j]? = some (some cs') ∧ cs = frzL k cs'
  | [], _, _, _, h => by simp [frzH] at h
  | none :: H, k, j, cs, h => by
    cases j with
    | zero => simp [frzH] at h
    | succ j => simpa using frzH_get (H := H) (by simpa [frzH] using h)
  | some x :: H, k, j, cs, h => by
    cases j with
    | zero => simp [frzH] at h; exact ⟨x, rfl, h.symm⟩
    | succ j => simpa using frzH_get (H := H) (by simpa [frzH] using h)
theorem frzH_length : ∀ (k : Nat) (H : Hp), (frzH k H).length = H.length
  | _, [] => rfl
  | k, none :: H => by simp [frzH, frzH_length k H]
  | k, some _ :: H => by simp [frzH, frzH_length k H]
theorem Con.frz {k : Nat} (h : Con B c w H n) : Con B (c.freeze k) w (frzH k H) n ∧ Keep c (c.freeze k) w w (some k) := by
  obtain ⟨h1, k1⟩ := h.freeze (k := k)
  refine ⟨h1.rehp (by rw [frzH_length, killH_length]) (fun j cs hj => ?_), k1⟩
  obtain ⟨cs', hj', rfl⟩ := frzH_get hj
  obtain ⟨C, T, e, hr⟩ := h.objs j cs' hj'
  have hkill : (killH k H)[j]? = some (some (killL k cs')) := by
    have : ∀ (H : Hp) (j : Nat), H[j]? = some (some cs') → (killH k H)[j]? = some (some (killL k cs')) := by
      intro H
      induction H with
      | nil => intro j h; simp at h
      | cons x H ih =>
        intro j h
        cases j with
        | zero => simp at h; subst h; simp [killH]
        | succ j => cases x <;> simpa [killH] using ih j (by simpa using h)
    exact this H j hj'
  exact ⟨_, hkill, C, T, e, RepL.frz k1 (fun b hb => .inr hb) _ _ hr⟩
mutual
theorem Rep.into {n0 n h : Nat} (hi : ∀ k, n0 ≤ k → c.τ k = nilS) (hn : c.n = n0) : ∀ (d' d : D) (v : Value), intoD n0 n h d d' → Rep c w d v → Rep (c.forget n h) w d' v
  | .junk, d, v, h1, h2 => by simp [Rep]
  | .f (.v x), d, v, h1, h2 => by
    unfold intoD at h1
    subst h1
    unfold Rep at *
    exact h2
  | .f (.sl es), d, v, h1, h2 => by
    unfold intoD at h1
    split at h1
    · subst h1
      unfold Rep at h2
      subst h2
      unfold Rep RepF
      exact .inl ⟨⟨_, rfl⟩, rfl⟩
    · subst h1
      unfold Rep at *
      exact h2
  | .nil, d, v, h1, h2 => by
    unfold intoD at h1
    subst h1
    unfold Rep at *
    exact h2
  | .agg ds, d, v, h1, h2 => by
    unfold intoD at h1
    split at h1
    · unfold Rep at *
      obtain ⟨vs, e, hr⟩ := h2
      exact ⟨vs, e, RepL.into hi hn ds _ vs h1 hr⟩
    · exact h1.elim
  | .tup ds, d, v, h1, h2 => by
    unfold intoD at h1
    split at h1
    · unfold Rep at *
      obtain ⟨vs, e, hr⟩ := h2
      exact ⟨vs, e, RepL.into hi hn ds _ vs h1 hr⟩
    · exact h1.elim
  | .fn g ds, d, v, h1, h2 => by
    unfold intoD at h1
    split at h1
    · obtain ⟨rfl, h1⟩ := h1
      unfold Rep at *
      obtain ⟨vs, e, hr⟩ := h2
      exact ⟨vs, e, RepL.into hi hn ds _ vs h1 hr⟩
    · exact h1.elim
  | .yl ps x y ds, d, v, h1, h2 => by
    unfold intoD at h1
    split at h1
    · obtain ⟨rfl, rfl, rfl, h1⟩ := h1
      unfold Rep at *
      obtain ⟨l, fn, df, vs, e, hi', hw, hr⟩ := h2
      exact ⟨l, fn, df, vs, e, hi', hw, RepL.into hi hn ds _ vs h1 hr⟩
    · exact h1.elim
  | .own k t s es, d, v, h1, h2 => by
    unfold intoD at h1
    split at h1
    · obtain ⟨rfl, h3, h4, h5⟩ := h1
      unfold Rep at h2
      subst h2
      have e : (c.forget n h).τ k = nilS := by
        show (if k < n then c.τ k else nilS) = nilS
        rw [if_pos h4, hi k h3]
      unfold Rep
      rw [e]
      exact ⟨h4, rfl, h5, [], ownsM_nil w 0 t s, by unfold RepRows; rfl⟩
    · obtain ⟨rfl, h4⟩ := h1
      unfold Rep at h2
      obtain ⟨_, rfl, h3⟩ := h2
      have e : (c.forget n h).τ k = c.τ k := by
        show (if k < n then c.τ k else nilS) = _
        rw [if_pos h4]
      unfold Rep
      rw [e]
      exact ⟨h4, rfl, h3⟩
  | .optr k t s es i o, d, v, h1, h2 => by
    unfold intoD at h1
    obtain ⟨rfl, h4⟩ := h1
    unfold Rep at h2
    obtain ⟨_, h3⟩ := h2
    have e : (c.forget n h).τ k = c.τ k := by
      show (if k < n then c.τ k else nilS) = _
      rw [if_pos h4]
    unfold Rep
    rw [e]
    exact ⟨h4, h3⟩
  | .ptr k o, d, v, h1, h2 => by
    unfold intoD at h1
    obtain ⟨rfl, h4⟩ := h1
    unfold Rep at *
    exact ⟨h4, h2.2⟩
  | .ip cs, d, v, h1, h2 => by
    unfold intoD at h1
    subst h1
    unfold Rep at *
    exact h2
theorem RepL.into {n0 n h : Nat} (hi : ∀ k, n0 ≤ k → c.τ k = nilS) (hn : c.n = n0) : ∀ (ds' ds : List D) (vs : List Value), intoL n0 n h ds ds' → RepL c w ds vs → RepL (c.forget n h) w ds' vs
  | [], ds, vs, h1, h2 => by
    unfold intoL at h1
    subst h1
    unfold RepL at *
    exact h2
  | d' :: ds', ds, vs, h1, h2 => by
    unfold intoL at h1
    split at h1
    · unfold RepL at *
      obtain ⟨v, vs', e, h3, h4⟩ := h2
      exact ⟨v, vs', e, Rep.into hi hn d' _ v h1.1 h3, RepL.into hi hn ds' _ vs' h1.2 h4⟩
    · exact h1.elim
end
theorem intoH_get {n0 n h : Nat} : ∀ {H H' : Hp}, intoH n0 n h H H' → ∀ (k : Nat) (cs' : Cells), H'[k]? = some (some cs') → ∃ cs, H[k]? = some (some cs) ∧ intoL n0 n h cs cs'
  | _, [], _, k, cs', e => by simp at e
  | [], _ :: _, h1, _, _, _ => h1.elim
  | x :: H, none :: H', h1, k, cs', e => by
    have h1' : intoH n0 n h H H' := by cases x <;> exact h1
    cases k with
    | zero => simp at e
    | succ k => simpa using intoH_get h1' k cs' (by simpa using e)
  | some cs :: H, some ds :: H', h1, k, cs', e => by
    unfold intoH at h1
    cases k with
    | zero => simp at e; subst e; exact ⟨cs, rfl, h1.1⟩
    | succ k => simpa using intoH_get h1.2 k cs' (by simpa using e)
  | none :: H, some ds :: H', h1, _, _, _ => h1.elim
theorem intoH_length {n0 n h : Nat} : ∀ {H H' : Hp}, intoH n0 n h H H' → H'.length ≤ H.length
  | _, [], _ => Nat.zero_le _
  | [], _ :: _, h1 => h1.elim
  | x :: H, none :: H', h1 => by
    have h1' : intoH n0 n h H H' := by cases x <;> exact h1
    simpa using intoH_length h1'
  | some cs :: H, some ds :: H', h1 => by
    unfold intoH at h1
    simpa using intoH_length h1.2
  | none :: H, some ds :: H', h1 => h1.elim
theorem Con.into {H' : Hp} {n' : Nat} (h : Con B c w H n) (hB : B.h0 ≤ H'.length) {E E' : List D} (hi : Into E H n E' H' n') {vs : List Value} (hE : RepL c w E vs) : Con B (c.forget n' H'.length) w H' n' ∧ RepL (c.forget n' H'.length) w E' vs := by
  have hτ : ∀ k b, blk ((c.forget n' H'.length).τ k) = some b → k < n' ∧ blk (c.τ k) = some b := fun k b hb => by
    have hb' : blk (if k < n' then c.τ k else nilS) = some b := hb
    by_cases hk : k < n'
    · rw [if_pos hk] at hb'; exact ⟨hk, hb'⟩
    · rw [if_neg hk] at hb'; cases hb'
  refine ⟨⟨h.os, h.tape, h.output, h.size, h.old, h.imm0, h.immB, rfl, rfl, hB, h.phi, fun k cs hk => ?_, fun k cs hk => ?_, fun j k cs ds hj hk e => ?_, fun k b hb => ?_, fun j k b hj hk => ?_, fun k hk => ?_, h.glob⟩, RepL.into h.high h.nlen E' E vs hi.1 hE⟩
  · obtain ⟨cs0, h1, h2⟩ := intoH_get hi.2 k cs hk
    obtain ⟨C, T, e, hr⟩ := h.objs k cs0 h1
    exact ⟨C, T, e, RepL.into h.high h.nlen _ _ _ h2 hr⟩
  · obtain ⟨cs0, h1, _⟩ := intoH_get hi.2 k cs hk
    exact h.objM k cs0 h1
  · obtain ⟨cs0, h1, _⟩ := intoH_get hi.2 j cs hj
    obtain ⟨ds0, h2, _⟩ := intoH_get hi.2 k ds hk
    exact h.inj j k cs0 ds0 h1 h2 e
  · obtain ⟨_, hb'⟩ := hτ k b hb
    obtain ⟨a1, a2, a3, a4⟩ := h.tags k b hb'
    exact ⟨a1, a2, a3, fun j cs hj => by obtain ⟨cs0, h1, _⟩ := intoH_get hi.2 j cs hj; exact a4 j cs0 h1⟩
  · exact h.tagInj j k b (hτ j b hj).2 (hτ k b hk).2
  · show (if k < n' then _ else nilS) = nilS
    rw [if_neg (by omega)]

/-! Loops. -/
/-- A list, laid out. -/
def layK : List D → (List D → Prop) → Prop
  | [], K => K []
  | x :: l, K => layK l (fun l' => K (x :: l'))
theorem layK_eq : ∀ (l : List D) (K : List D → Prop), layK l K = K l
  | [], _ => rfl
  | x :: l, K => by unfold layK; rw [layK_eq l]
theorem step_loop {T : Tab} (hT : TabOk P 0 T) {k : Code} {Q : X → List D → Hp → Nat → Prop} {E : List D} {α : Type} (pat : α → List D) (hp : α → Hp) (n1 : Nat) (I : α → Prop) (μ : α → Nat) (a0 : α)
    (h0 : I a0) (hlen : ∀ a, (hp a).length = H.length) (hinto : Into E H n (pat a0) (hp a0) n1)
    (round : ∀ a, I a → layK (pat a) fun E => awp P T k (fun x E' H' n' => match x with
      | .normal => ∃ a', I a' ∧ μ a' < μ a ∧ Into E' H' n' (pat a') (hp a') n1
      | x => Q x E' H' n') E (hp a) n1) : Step P (.loop k) Q E H n := by
  refine Step.mk fun B c w a hC hE hd => ?_
  have hB : B.h0 ≤ H.length := by rw [← hC.hlen]; exact hC.hh
  obtain ⟨hC1, hE1⟩ := hC.into (by rw [hlen]; exact hB) hinto hE
  refine wp_loop_ghost (fun m a w => ∃ x c, μ x = m ∧ I x ∧ Con B c w (hp x) n1 ∧ RepL c w (pat x) a.tmps.toList ∧ a.defers = []) (μ a0) ⟨a0, _, rfl, h0, hC1, hE1, hd⟩ ?_
  rintro m a w ⟨x, c, rfl, hI, hC, hE, hd⟩
  have hr := round x hI
  rw [layK_eq] at hr
  refine wp_mono (awp_sound hT k hr B c w a hC hE hd) ?_
  rintro e a' w' ⟨y, E', H', n', c', rfl, h1, h2, h3, h4⟩
  cases y with
  | normal =>
    obtain ⟨x', h5, h6, h7⟩ := h1
    obtain ⟨h8, h9⟩ := h2.into (by rw [hlen]; exact hB) h7 h3
    exact ⟨μ x', h6, x', _, rfl, h5, h8, h9, h4⟩
  | exit id => exact ⟨.exit id, E', H', n', c', rfl, h1, h2, h3, h4⟩
  | ret => exact ⟨.ret, E', H', n', c', rfl, h1, h2, h3, h4⟩
theorem step_freeze {q : Code} {Q : X → List D → Hp → Nat → Prop} {E : List D} (k : Nat) (h : Step P q Q (frzL k E) (frzH k H) n) : Step P q Q E H n :=
  Step.mk fun B c w a hC hE hd => by
    obtain ⟨h1, k1⟩ := hC.frz (k := k)
    exact h.open B _ w a h1 (RepL.frz k1 (fun b hb => .inr hb) _ _ hE) hd
theorem call_freeze {g : FuncId} {args E : List D} {K : KD} (k : Nat) (h : Call P g (frzL k args) (frzL k E) (frzH k H) n K) : Call P g args E H n K :=
  Call.mk ⟨h.open.1, fun B c w ts vs hC hE ha => by
    obtain ⟨h1, k1⟩ := hC.frz (k := k)
    exact h.open.2 B _ w ts vs h1 (RepL.frz k1 (fun b hb => .inr hb) _ _ hE) (RepL.frz k1 (fun b hb => .inr hb) _ _ ha)⟩
end
end Go.Proofs.Ytdfiegleaknleaa.Aw

namespace Go.Proofs.Ytdfiegleaknleaa.Aw
open Go Go.RowKit Go.Lib
set_option linter.unusedVariables false
set_option linter.unusedSimpArgs false

/-- Where a call begins. -/
def mine (c : Cx) (H : Hp) (b : Nat) : Prop := (∃ k cs, H[k]? = some (some cs) ∧ c.φ k = b) ∨ ∃ k, blk (c.τ k) = some b
def base (c : Cx) (w : World) (H : Hp) : Base := ⟨w, mine c H, c.imm, c.φ, H.length⟩
/-- A function's contract. -/
def Spec (P : Program) (g : FuncId) (args : List D) (H : Hp) (n : Nat) (R : D → Hp → Prop) : Prop :=
  FnOk P g ∧ ∀ (c : Cx) (w : World) (vs : List Value), Con (base c w H) c w H n → RepL c w args vs →
    Calls P g vs.toArray w (fun e w' => ∃ d v H' c', R d H' ∧ e = .returned v ∧ H'.length = H.length ∧ Con (base c w H) c' w' H' n ∧ Rep c' w' d v)
theorem Spec.mono {P : Program} {g : FuncId} {args : List D} {H : Hp} {n : Nat} {R R' : D → Hp → Prop} (h : Spec P g args H n R) (hR : ∀ d H, R d H → R' d H) : Spec P g args H n R' :=
  ⟨h.1, fun c w vs hC hr => (h.2 c w vs hC hr).mono fun e w' ⟨d, v, H', c', h1, h2⟩ => ⟨d, v, H', c', hR _ _ h1, h2⟩⟩

/-! The end of a function. -/
structure Fin (d : D) (H : Hp) (n h0 n0 : Nat) (R : D → Hp → Prop) : Prop where of ::
  out : ∀ (B : Base) (c : Cx) (w : World) (v : Value), B.h0 = h0 → Con B c w H n → Rep c w d v → ∃ d' H' c', R d' H' ∧ H'.length = h0 ∧ Con B c' w H' n0 ∧ Rep c' w d' v
theorem Fin.mk {d : D} {H : Hp} {n h0 n0 : Nat} {R : D → Hp → Prop} (d' : D) (H' : Hp) (hR : R d' H') (hl : H'.length = h0) (hi : Into [d] H n [d'] H' n0) : Fin d H n h0 n0 R := ⟨fun B c w v hB hC hv => by
  obtain ⟨h1, h2⟩ := hC.into (by omega) hi (repL_cons hv repL_nil)
  exact ⟨d', H', _, hR, hl, h1, (repL_cons_iff.1 h2).1⟩⟩
theorem Fin.frz {d : D} {H : Hp} {n h0 n0 : Nat} {R : D → Hp → Prop} (k : Nat) (h : Fin (d.frz k) (frzH k H) n h0 n0 R) : Fin d H n h0 n0 R := ⟨fun B c w v hB hC hv => by
  obtain ⟨h1, k1⟩ := hC.frz (k := k)
  exact h.out B _ w v hB h1 (Rep.frz k1 (fun b hb => .inr hb) _ _ hv)⟩
def retK (T : Tab) : List ResultVar → List D → Hp → (List D → Prop) → Prop
  | [], _, _, K => K []
  | .tmp t :: r, E, H, K => evK E (.tmp t) fun d => retK T r E H fun ds => K (d :: ds)
  | .cell a t :: r, E, H, K => loadD T t (ev E (.tmp a)) H fun d => retK T r E H fun ds => K (d :: ds)
def oneK (ds : List D) (K : D → Prop) : Prop := match ds with
  | [d] => K d
  | ds => K (.tup ds)
/-- What is asked where a function's text ends. -/
def Ends (T : Tab) (rs : List ResultVar) (h0 n0 : Nat) (R : D → Hp → Prop) (x : X) (E : List D) (H : Hp) (n : Nat) : Prop :=
  match x with
  | .exit _ => False
  | _ => retK T rs E H fun ds => oneK ds fun d => Fin d H n h0 n0 R
def padK (a : List D) : Nat → List D
  | 0 => a
  | n + 1 => match a with
    | [] => .junk :: padK [] n
    | d :: ds => d :: padK ds n
theorem padK_eq : ∀ (n : Nat) (a : List D), padK a n = a ++ List.replicate (n - a.length) .junk
  | 0, a => by simp [padK]
  | n + 1, [] => by simp [padK, padK_eq n [], List.replicate_succ]
  | n + 1, d :: ds => by
    simp only [padK, padK_eq n ds, List.cons_append, List.length_cons]
    rw [show n + 1 - (ds.length + 1) = n - ds.length by omega]
section
variable {P : Program}
def resOne (ts : Array Value) : ResultVar → Sem Value
  | .tmp t => pure (ts.getD t undef)
  | .cell a t => do loadVar t (← asAddr (ts.getD a undef))
theorem results_eq (fn : Func) (ts : Array Value) : results fn ts = (do
    let vs ← fn.results.mapM (resOne ts)
    pure (if h : vs.size = 1 then vs[0] else .tuple vs)) := rfl
theorem retK_sound {T : Tab} (hT : TabOk P 0 T) {B : Base} {c : Cx} {w : World} {H : Hp} {n : Nat} (hC : Con B c w H n) {E : List D} {ts : Array Value} (hE : RepL c w E ts.toList) : ∀ (rs : List ResultVar) (K : List D → Prop), retK T rs E H K →
    ∃ ds vs, K ds ∧ RepL c w ds vs ∧ (rs.mapM (resOne ts)).run P w = .ok vs w
  | [], K, h => ⟨[], [], h, repL_nil, rfl⟩
  | .tmp t :: r, K, h => by
    unfold retK at h
    rw [evK_eq] at h
    obtain ⟨ds, vs, h1, h2, h3⟩ := retK_sound hT hC hE r _ h
    have hv : Rep c w (ev E (.tmp t)) (ts.getD t undef) := rep_ev (a := ⟨ts, []⟩) hE (.tmp t)
    exact ⟨_, _, h1, repL_cons hv h2, by simp [List.mapM_cons, resOne, h3]⟩
  | .cell a t :: r, K, h => by
    unfold retK at h
    have hp : Rep c w (ev E (.tmp a)) (ts.getD a undef) := rep_ev (a := ⟨ts, []⟩) hE (.tmp a)
    obtain ⟨d, u, h, hl, hu⟩ := loadD_sound hT hC hp h
    have hl := hl w (Below.refl _ _)
    obtain ⟨ds, vs, h1, h2, h3⟩ := retK_sound hT hC hE r _ h
    refine ⟨_, _, h1, repL_cons hu h2, ?_⟩
    have : ∃ ad, ts.getD a undef = .pointer (some ad) := by
      simp only [Instr.loadAt, Sem.run_bind] at hl
      generalize ts.getD a undef = z at hl
      cases z with
      | pointer p => cases p with
        | none => simp [Instr.sureAddr] at hl
        | some ad => exact ⟨ad, rfl⟩
      | _ => simp [Instr.sureAddr] at hl
    obtain ⟨ad, had⟩ := this
    rw [had] at hl
    simp [Instr.loadAt, Instr.sureAddr] at hl
    simp [List.mapM_cons, resOne, had, asAddr, hl, h3]
theorem spec_sem {T : Tab} (hT : TabOk P 0 T) {g : FuncId} {fn : Func} {k : Code} {args : List D} {H : Hp} {n : Nat} {R : D → Hp → Prop} (hf : P.funcs[g]? = some fn) (hnm : (fn.name == "runtime.NumGoroutine") = false) (hb : fn.body = some k)
    (h : CSem P k (Ends T fn.results.toList H.length n R) (padK args fn.ntmps) H n) : Spec P g args H n R := by
  refine ⟨⟨fn, hf, hnm, by rw [hb]; rfl⟩, fun c w vs hC hr => ?_⟩
  refine calls_of_wp hf hb ?_
  have hE : RepL c w (padK args fn.ntmps) (vs.toArray ++ Array.replicate (fn.ntmps - vs.toArray.size) undef).toList := by
    rw [padK_eq]
    simp only [Array.toList_append, Array.toList_replicate, List.size_toArray]
    rw [hr.length]
    refine hr.append ?_
    have := repL_junk (c := c) (w := w) (List.replicate (fn.ntmps - args.length) undef)
    simpa using this
  refine wp_mono (h _ c w _ hC hE rfl) ?_
  rintro e a w' ⟨x, E', H', n', c', rfl, h1, h2, h3, h4⟩
  have fin : (retK T fn.results.toList E' H' fun ds => oneK ds fun d => Fin d H' n' H.length n R) → a.defers = [] ∧ ∃ v, (results fn a.tmps).run P w' = .ok v w' ∧ (∃ d v' H'' c'', R d H'' ∧ Ending.returned v = .returned v' ∧ H''.length = H.length ∧ Con (base c w H) c'' w' H'' n ∧ Rep c'' w' d v') := fun h1 => by
    obtain ⟨ds, us, h5, h6, h7⟩ := retK_sound hT h2 h3 _ _ h1
    have hres : (results fn a.tmps).run P w' = .ok (if h : us.toArray.size = 1 then us.toArray[0] else .tuple us.toArray) w' := by
      rw [results_eq, Sem.run_bind, Array.mapM_eq_mapM_toList]
      simp only [Sem.run_map, h7, Result.andThen_ok, Sem.run_pure]
    have hrep : ∃ d, Fin d H' n' H.length n R ∧ Rep c' w' d (if h : us.toArray.size = 1 then us.toArray[0] else .tuple us.toArray) := by
      by_cases h1 : ∃ d, ds = [d]
      · obtain ⟨d, rfl⟩ := h1
        unfold RepL at h6
        obtain ⟨v, vs', rfl, h8, h9⟩ := h6
        unfold RepL at h9
        subst h9
        exact ⟨d, h5, by simpa using h8⟩
      · have hl := h6.length
        have h5' : Fin (.tup ds) H' n' H.length n R := by
          unfold oneK at h5
          split at h5
          · exact absurd ⟨_, rfl⟩ h1
          · exact h5
        rw [dif_neg]
        · exact ⟨_, h5', by unfold Rep; exact ⟨us, rfl, h6⟩⟩
        · intro h2
          have : us.length = 1 := by simpa using h2
          rw [hl] at this
          obtain ⟨d, rfl⟩ : ∃ d, ds = [d] := by
            cases ds with
            | nil => simp at this
            | cons d r => cases r with
              | nil => exact ⟨d, rfl⟩
              | cons _ _ => simp at this
          exact h1 ⟨d, rfl⟩
    obtain ⟨d, hF, hd⟩ := hrep
    have hF' : ∀ (B : Base) (c : Cx) (w : World) (v : Value), B.h0 = H.length → Con B c w H' n' → Rep c w d v → ∃ d' H' c', R d' H' ∧ H'.length = H.length ∧ Con B c' w H' n ∧ Rep c' w d' v := by
      exact hF.out
    obtain ⟨d', H'', c'', g1, g2, g3, g4⟩ := hF' _ c' w' _ rfl h2 hd
    exact ⟨h4, _, hres, d', _, H'', c'', g1, rfl, g2, g3, g4⟩
  cases x with
  | normal => exact fin h1
  | exit id => exact h1.elim
  | ret => exact fin h1
theorem spec_mk {T : Tab} (hT : TabOk P 0 T) {g : FuncId} {fn : Func} {k : Code} {args : List D} {H : Hp} {n : Nat} {R : D → Hp → Prop} (hf : P.funcs[g]? = some fn) (hnm : (fn.name == "runtime.NumGoroutine") = false) (hb : fn.body = some k)
    (h : layK (padK args fn.ntmps) fun E => awp P T k (Ends T fn.results.toList H.length n R) E H n) : Spec P g args H n R := by
  rw [layK_eq] at h
  exact spec_sem hT hf hnm hb (awp_sound hT k h)
end
end Go.Proofs.Ytdfiegleaknleaa.Aw

