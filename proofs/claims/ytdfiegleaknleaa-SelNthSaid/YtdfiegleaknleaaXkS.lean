/- Tokens farther on in a text; tokens on the two sides of a seam. -/
import Derived.Test.YtdfiegleaknleaaXtA
namespace Go.Proofs.Ytdfiegleaknleaa.Aw
open Go Go.RowKit Go.Lib
set_option linter.unusedVariables false
set_option linter.unusedSimpArgs false
set_option linter.unusedSectionVars false
set_option maxRecDepth 100000
/-! The same text farther on. -/
structure Shift (k : Nat) (l l' : List Int) : Prop where
  see : ∀ i, see l' (k + i) = see l i
  len : l'.length = k + l.length
section
variable {k : Nat} {l l' : List Int} (h : Shift k l l')
include h
theorem Shift.see1 (i : Nat) : Aw.see l' (k + i + 1) = Aw.see l (i + 1) := h.see (i + 1)
theorem Shift.see2 (i : Nat) : Aw.see l' (k + i + 2) = Aw.see l (i + 2) := h.see (i + 2)
theorem Shift.escape (p : Nat) : Aw.escape l' (k + p) = Aw.escape l p := by unfold Aw.escape; rw [h.see, h.see1]
theorem Shift.escape1 (p : Nat) : Aw.escape l' (k + p + 1) = Aw.escape l (p + 1) := h.escape (p + 1)
theorem Shift.hexRun : ∀ (f p : Nat) (n : Int), Aw.hexRun l' f (k + p) n = (k + (Aw.hexRun l f p n).1, (Aw.hexRun l f p n).2)
  | 0, p, n => rfl
  | f + 1, p, n => by
    unfold Aw.hexRun
    rw [h.see]
    split
    · exact Shift.hexRun f (p + 1) _
    · rfl
theorem Shift.escapedV (p : Nat) : Aw.escapedV l' (k + p) = Aw.escapedV l p := by
  unfold Aw.escapedV
  have := h.hexRun 6 (p + 1) 0
  rw [h.see1, show k + p + 1 = k + (p + 1) from rfl, this]
theorem Shift.escapedP (p : Nat) : Aw.escapedP l' (k + p) = k + Aw.escapedP l p := by
  unfold Aw.escapedP
  have := h.hexRun 6 (p + 1) 0
  rw [h.see1, show k + p + 1 = k + (p + 1) from rfl, this]
  dsimp only
  rw [h.see]
  split
  · rfl
  · split <;> rfl
theorem Shift.nameRun : ∀ (f p : Nat) (bs : List UInt8), Aw.nameRun l' f (k + p) bs = ((Aw.nameRun l f p bs).1, k + (Aw.nameRun l f p bs).2)
  | 0, p, bs => rfl
  | f + 1, p, bs => by
    unfold Aw.nameRun
    rw [h.see, h.escape, h.escapedV, h.escapedP]
    split
    · exact Shift.nameRun f (p + 1) _
    · split
      · exact Shift.nameRun f _ _
      · rfl
theorem Shift.name (p : Nat) : Aw.nameS l' (k + p) = Aw.nameS l p ∧ Aw.nameP l' (k + p) = k + Aw.nameP l p := by
  have hl := h.len
  unfold Aw.nameS Aw.nameP
  rw [nameRun_fuel l' (l'.length + 1) (l.length + 1) (k + p) [] (by omega) (by omega), h.nameRun]
  exact ⟨rfl, rfl⟩
theorem Shift.name1 (p : Nat) : Aw.nameS l' (k + p + 1) = Aw.nameS l (p + 1) ∧ Aw.nameP l' (k + p + 1) = k + Aw.nameP l (p + 1) := h.name (p + 1)
theorem Shift.begins (p : Nat) : Aw.begins l' (k + p) = Aw.begins l p := by unfold Aw.begins; rw [h.see, h.see1, h.escape, h.escape1]
theorem Shift.begins1 (p : Nat) : Aw.begins l' (k + p + 1) = Aw.begins l (p + 1) := h.begins (p + 1)
theorem Shift.number (p : Nat) : Aw.number l' (k + p) = Aw.number l p := by unfold Aw.number; rw [h.see, h.see1, h.see2]
theorem Shift.digRun : ∀ (f p : Nat) (bs : List UInt8), Aw.digRun l' f (k + p) bs = ((Aw.digRun l f p bs).1, k + (Aw.digRun l f p bs).2)
  | 0, p, bs => rfl
  | f + 1, p, bs => by
    unfold Aw.digRun
    rw [h.see]
    split
    · exact Shift.digRun f (p + 1) _
    · rfl
theorem Shift.dig (p : Nat) (bs : List UInt8) : Aw.digRun l' (l'.length + 1) (k + p) bs = ((Aw.digRun l (l.length + 1) p bs).1, k + (Aw.digRun l (l.length + 1) p bs).2) := by
  have hl := h.len
  rw [digRun_fuel l' (l'.length + 1) (l.length + 1) (k + p) bs (by omega) (by omega), h.digRun]
theorem Shift.numInt (p : Nat) : Aw.numInt l' (k + p) = ((Aw.numInt l p).1, k + (Aw.numInt l p).2) := by
  unfold Aw.numInt numSgn
  rw [h.see]
  split
  · exact h.dig (p + 1) _
  · exact h.dig p _
theorem Shift.numB (p : Nat) : Aw.numB l' (k + p) = ((Aw.numB l p).1, k + (Aw.numB l p).2.1, (Aw.numB l p).2.2) := by
  unfold Aw.numB
  rw [h.numInt]
  dsimp only
  rw [h.see, h.see1]
  split
  · have := h.dig ((Aw.numInt l p).2 + 1) ((Aw.numInt l p).1 ++ [46])
    rw [← Nat.add_assoc] at this
    rw [this]
  · rfl
theorem Shift.numeric (p : Nat) : Aw.numericT l' (k + p) = Aw.numericT l p ∧ Aw.numericP l' (k + p) = k + Aw.numericP l p := by
  unfold Aw.numericT Aw.numericP
  rw [h.numB]
  dsimp only
  rw [h.begins, h.see, (h.name _).1, (h.name _).2]
  refine ⟨rfl, ?_⟩
  split
  · rfl
  · split <;> rfl
theorem Shift.strRun (e : Int) : ∀ (f p : Nat) (bs : List UInt8), Aw.strRun l' e f (k + p) bs = ((Aw.strRun l e f p bs).1, k + (Aw.strRun l e f p bs).2)
  | 0, p, bs => rfl
  | f + 1, p, bs => by
    unfold Aw.strRun
    rw [h.see, h.see1, h.escapedV, h.escapedP]
    split
    · rfl
    split
    · rfl
    split
    · rfl
    split
    · split
      · exact Shift.strRun e f (p + 1) bs
      split
      · exact Shift.strRun e f (p + 2) bs
      · exact Shift.strRun e f _ _
    · exact Shift.strRun e f (p + 1) _
theorem Shift.str (p : Nat) : Aw.strT l' (k + p) = Aw.strT l p ∧ Aw.strP l' (k + p) = k + Aw.strP l p := by
  have hl := h.len
  unfold Aw.strT Aw.strP
  have := h.strRun (Aw.see l p) (l.length + 1) (p + 1) []
  rw [h.see, strRun_fuel l' _ (l'.length + 1) (l.length + 1) (k + p + 1) [] (by omega) (by omega), show k + p + 1 = k + (p + 1) from rfl, this]
  exact ⟨rfl, rfl⟩
theorem Shift.commentRun : ∀ (f p : Nat), Aw.commentEnd l' f (k + p) = k + Aw.commentEnd l f p
  | 0, p => rfl
  | f + 1, p => by
    unfold Aw.commentEnd
    rw [h.see, h.see1]
    split
    · exact Shift.commentRun f (p + 1)
    · rfl
theorem Shift.comment (p : Nat) : Aw.commentEnd l' (l'.length + 1) (k + p + 2) = k + Aw.commentEnd l (l.length + 1) (p + 2) := by
  have hl := h.len
  rw [commentEnd_fuel l' (l'.length + 1) (l.length + 1) (k + p + 2) (by omega) (by omega)]
  exact h.commentRun _ (p + 2)
theorem Shift.whiteRun : ∀ (f p : Nat), Aw.whiteEnd l' f (k + p) = k + Aw.whiteEnd l f p
  | 0, p => rfl
  | f + 1, p => by
    unfold Aw.whiteEnd
    rw [h.see]
    split
    · exact Shift.whiteRun f (p + 1)
    · rfl
theorem Shift.white (p : Nat) : Aw.whiteEnd l' (l'.length + 1) (k + p) = k + Aw.whiteEnd l (l.length + 1) p := by
  have hl := h.len
  rw [whiteEnd_fuel l' (l'.length + 1) (l.length + 1) (k + p) (by omega) (by omega)]
  exact h.whiteRun _ p
theorem Shift.tokNext (p : Nat) : Aw.tokNext l' (k + p) = ((Aw.tokNext l p).1, k + (Aw.tokNext l p).2) := by
  unfold Aw.tokNext
  rw [h.see, h.see1, h.comment, h.white, (h.str p).1, (h.str p).2, h.escape1, (h.name1 p).1, (h.name1 p).2, h.number, (h.numeric p).1, (h.numeric p).2, h.begins1, h.begins, (h.name p).1, (h.name p).2, h.see]
  repeat' split
  all_goals rfl
theorem Shift.tokRun : ∀ (f p : Nat) (ts : List Tok), Aw.tokRun l' f (k + p) ts = Aw.tokRun l f p ts
  | 0, p, ts => rfl
  | f + 1, p, ts => by
    unfold Aw.tokRun
    rw [h.see, h.tokNext]
    split
    · exact Shift.tokRun f _ _
    · rfl
end
theorem tokRun_acc (l : List Int) : ∀ (f p : Nat) (ts : List Tok), tokRun l f p ts = ts ++ tokRun l f p []
  | 0, p, ts => by simp [tokRun]
  | f + 1, p, ts => by
    unfold tokRun
    split
    · rw [tokRun_acc l f _ (ts ++ _), tokRun_acc l f _ ([] ++ _)]
      simp
    · simp
theorem shift_app (X Y : List Int) : Shift X.length Y (X ++ Y) := ⟨fun i => by unfold see; rw [List.getElem?_append_right (by omega), Nat.add_sub_cancel_left], by simp⟩
/-- From a place on, the tokens are those of the rest. -/
theorem tokens_app {X Y : List Int} {us : List Tok} (h : Toks (X ++ Y) 0 X.length us) : tokens (X ++ Y) = us ++ tokens Y := by
  unfold tokens
  have hs := shift_app X Y
  rw [h _ _ (by omega), show ([] : List Tok) ++ us = us from rfl, tokRun_acc]
  congr 1
  have := hs.tokRun ((X ++ Y).length - X.length + 1) 0 []
  refine this.trans ?_
  rw [List.length_append, Nat.add_sub_cancel_left]
/-! A seam: what stands ahead of a slash or a semicolon is read as it is alone. -/
structure Seam (l l' : List Int) : Prop where
  same : ∀ i, i < l.length → see l' i = see l i
  len : l.length ≤ l'.length
  dull : see l' l.length = 47 ∨ see l' l.length = 59 ∨ see l' l.length = -1
  plain : ∀ i, see l i ≠ 92 ∧ see l i ≠ 34 ∧ see l i ≠ 39 ∧ see l i ≠ 47
theorem see_none {l : List Int} {i : Nat} (h : l.length ≤ i) : see l i = -1 := by unfold see; rw [List.getElem?_eq_none h]
section
variable {l l' : List Int} (h : Seam l l')
include h
theorem Seam.at (p : Nat) (hp : p ≤ l.length) : see l' p = see l p ∨ (p = l.length ∧ see l p = -1 ∧ (see l' p = 47 ∨ see l' p = 59 ∨ see l' p = -1)) := by
  rcases Nat.lt_or_ge p l.length with h1 | h1
  · exact .inl (h.same p h1)
  · obtain rfl : p = l.length := by omega
    exact .inr ⟨rfl, see_none h1, h.dull⟩
theorem Seam.is (p : Nat) (hp : p ≤ l.length) (c : Int) (hc : c ≠ -1 ∧ c ≠ 47 ∧ c ≠ 59) : (see l' p = c) = (see l p = c) := by
  rcases h.at p hp with e | ⟨_, e1, e2⟩
  · rw [e]
  · exact propext ⟨fun e => by omega, fun e => by omega⟩
theorem Seam.lt (p : Nat) (hp : p ≤ l.length) (c : Int) (hc : c ≠ -1) (e : see l p = c) : p < l.length := by
  rcases Nat.lt_or_ge p l.length with h1 | h1
  · exact h1
  · rw [see_none h1] at e; omega
theorem Seam.pred {f : Int → Bool} (hf : f 47 = false ∧ f 59 = false ∧ f (-1) = false) (p : Nat) (hp : p ≤ l.length) : f (see l' p) = f (see l p) := by
  rcases h.at p hp with e | ⟨_, e1, e2⟩
  · rw [e]
  · rw [e1, hf.2.2]
    rcases e2 with e2 | e2 | e2 <;> rw [e2] <;> simp [hf]
theorem Seam.predLt {f : Int → Bool} (hf : f (-1) = false) (p : Nat) (hp : p ≤ l.length) (e : f (see l p) = true) : p < l.length := by
  rcases Nat.lt_or_ge p l.length with h1 | h1
  · exact h1
  · rw [see_none h1, hf] at e; cases e
theorem Seam.escape (p : Nat) : Aw.escape l p = false := by
  unfold Aw.escape
  rw [decide_eq_false (h.plain p).1]
  rfl
theorem Seam.escape' (p : Nat) (hp : p ≤ l.length) : Aw.escape l' p = false := by
  unfold Aw.escape
  rw [decide_eq_false (by rw [h.is p hp 92 (by decide)]; exact (h.plain p).1)]
  rfl
theorem Seam.nameRun : ∀ (f p : Nat) (bs : List UInt8), p ≤ l.length → Aw.nameRun l' f p bs = Aw.nameRun l f p bs
  | 0, p, bs, hp => rfl
  | f + 1, p, bs, hp => by
    unfold Aw.nameRun
    rw [h.pred (f := namePoint) (by decide) p hp, h.escape, h.escape' p hp]
    split
    · rename_i h1
      have h2 := h.predLt (f := namePoint) (by decide) p hp h1
      rw [h.same p h2]
      exact Seam.nameRun f (p + 1) _ (by omega)
    · rfl
theorem Seam.name (p : Nat) (hp : p ≤ l.length) : Aw.nameS l' p = Aw.nameS l p ∧ Aw.nameP l' p = Aw.nameP l p := by
  have hl := h.len
  unfold Aw.nameS Aw.nameP
  rw [h.nameRun _ p [] hp, nameRun_fuel l (l'.length + 1) (l.length + 1) p [] (by omega) (by omega)]
  exact ⟨rfl, rfl⟩
theorem Seam.begins (p : Nat) (hp : p ≤ l.length) : Aw.begins l' p = Aw.begins l p := by
  unfold Aw.begins
  simp only [h.is p hp 45 (by decide)]
  rw [h.escape p, h.escape (p + 1), h.escape' p hp, h.pred (f := nameStart) (by decide) p hp]
  split
  · rename_i e
    have h2 := h.lt p hp 45 (by decide) e
    simp only [h.is (p + 1) (by omega) 45 (by decide)]
    rw [h.pred (f := nameStart) (by decide) (p + 1) (by omega), h.escape' (p + 1) (by omega)]
  · rfl
theorem Seam.number (p : Nat) (hp : p < l.length) : Aw.number l' p = Aw.number l p := by
  have e46 : ∀ q, q ≤ l.length → (decide (see l' q = 46) && digit (see l' (q + 1))) = (decide (see l q = 46) && digit (see l (q + 1))) := fun q hq => by
    by_cases e : see l q = 46
    · have h2 := h.lt q hq 46 (by decide) e
      simp only [h.is q hq 46 (by decide)]
      rw [h.pred (f := digit) (by decide) (q + 1) (by omega)]
    · have e' : ¬ see l' q = 46 := by rw [h.is q hq 46 (by decide)]; exact e
      rw [decide_eq_false e, decide_eq_false e']
      rfl
  unfold Aw.number
  rw [h.same p hp]
  split
  · rw [h.pred (f := digit) (by decide) (p + 1) (by omega), e46 (p + 1) (by omega)]
  · rw [← h.same p hp, e46 p (by omega), h.same p hp]
theorem Seam.digRun : ∀ (f p : Nat) (bs : List UInt8), p ≤ l.length → Aw.digRun l' f p bs = Aw.digRun l f p bs
  | 0, p, bs, hp => rfl
  | f + 1, p, bs, hp => by
    unfold Aw.digRun
    rw [h.pred (f := digit) (by decide) p hp]
    split
    · rename_i h1
      have h2 := h.predLt (f := digit) (by decide) p hp h1
      rw [h.same p h2]
      exact Seam.digRun f (p + 1) _ (by omega)
    · rfl
theorem Seam.dig (p : Nat) (bs : List UInt8) (hp : p ≤ l.length) : Aw.digRun l' (l'.length + 1) p bs = Aw.digRun l (l.length + 1) p bs := by
  have hl := h.len
  rw [h.digRun _ p bs hp, digRun_fuel l (l'.length + 1) (l.length + 1) p bs (by omega) (by omega)]
theorem Seam.numInt (p : Nat) (hp : p < l.length) : Aw.numInt l' p = Aw.numInt l p ∧ (Aw.numInt l p).2 ≤ l.length := by
  unfold Aw.numInt numSgn
  rw [h.same p hp]
  split
  · exact ⟨h.dig _ _ (by dsimp only; omega), (digRun_le l _ _ _ (by dsimp only; omega)).2⟩
  · exact ⟨h.dig _ _ (by dsimp only; omega), (digRun_le l _ _ _ (by dsimp only; omega)).2⟩
theorem Seam.numB (p : Nat) (hp : p < l.length) : Aw.numB l' p = Aw.numB l p ∧ (Aw.numB l p).2.1 ≤ l.length := by
  obtain ⟨h1, h2⟩ := h.numInt p hp
  unfold Aw.numB
  rw [h1]
  by_cases e : see l (Aw.numInt l p).2 = 46
  · have h3 := h.lt _ h2 46 (by decide) e
    simp only [h.is _ h2 46 (by decide)]
    rw [h.pred (f := digit) (by decide) _ (by omega)]
    split
    · rw [h.dig _ _ (by omega)]
      exact ⟨rfl, (digRun_le l _ _ _ (by omega)).2⟩
    · exact ⟨rfl, h2⟩
  · have e' : ¬ see l' (Aw.numInt l p).2 = 46 := by rw [h.is _ h2 46 (by decide)]; exact e
    rw [if_neg (fun x => e' x.1), if_neg (fun x => e x.1)]
    exact ⟨rfl, h2⟩
theorem Seam.numeric (p : Nat) (hp : p < l.length) : Aw.numericT l' p = Aw.numericT l p ∧ Aw.numericP l' p = Aw.numericP l p := by
  obtain ⟨h1, h2⟩ := h.numB p hp
  unfold Aw.numericT Aw.numericP
  rw [h1]
  rcases hb : Aw.numB l p with ⟨bs, q, w⟩
  rw [hb] at h2
  dsimp only at h2 ⊢
  simp only [h.is q h2 37 (by decide)]
  rw [h.begins q h2, (h.name q h2).1, (h.name q h2).2]
  exact ⟨rfl, rfl⟩
theorem Seam.whiteRun : ∀ (f p : Nat), p ≤ l.length → Aw.whiteEnd l' f p = Aw.whiteEnd l f p
  | 0, p, hp => rfl
  | f + 1, p, hp => by
    unfold Aw.whiteEnd
    rw [h.pred (f := Aw.white) (by decide) p hp]
    split
    · rename_i h1
      have h2 := h.predLt (f := Aw.white) (by decide) p hp h1
      exact Seam.whiteRun f (p + 1) (by omega)
    · rfl
theorem Seam.white (p : Nat) (hp : p ≤ l.length) : Aw.whiteEnd l' (l'.length + 1) p = Aw.whiteEnd l (l.length + 1) p := by
  have hl := h.len
  rw [h.whiteRun _ p hp, whiteEnd_fuel l (l'.length + 1) (l.length + 1) p (by omega) (by omega)]
theorem Seam.tokNext (p : Nat) (hp : p < l.length) : Aw.tokNext l' p = Aw.tokNext l p ∧ (Aw.tokNext l p).2 ≤ l.length := by
  have hpl := h.plain p
  have ns : ∀ c, ¬ (see l p = 47 ∧ c) := fun c hc => hpl.2.2.2 hc.1
  unfold Aw.tokNext
  rw [h.same p hp, if_neg (c := see l p = 47 ∧ see l' (p + 1) = 42) (ns _), if_neg (c := see l p = 47 ∧ see l (p + 1) = 42) (ns _)]
  rw [h.white p (by omega), if_neg (c := see l p = 34 ∨ see l p = 39) (by omega), if_neg (c := see l p = 34 ∨ see l p = 39) (by omega), h.escape, h.escape' (p + 1) (by omega), h.pred (f := namePoint) (by decide) (p + 1) (by omega), (h.name (p + 1) (by omega)).1, (h.name (p + 1) (by omega)).2, h.number p hp, (h.numeric p hp).1, (h.numeric p hp).2, h.begins (p + 1) (by omega), h.begins p (by omega), (h.name p (by omega)).1, (h.name p (by omega)).2]
  have hn1 := nameP_le (l := l) (p := p + 1) (by omega)
  have hn0 := nameP_le (l := l) (p := p) (by omega)
  simp only [h.is _ hn0.2 40 (by decide)]
  refine ⟨by first | trivial | rfl, ?_⟩
  split
  · exact (whiteEnd_le l _ _ (by omega)).2
  split
  · exact hn1.2
  split
  · exact (numericP_gt (by assumption)).2
  split
  · exact hn1.2
  split
  · split
    · rename_i e
      have := h.lt _ hn0.2 40 (by decide) e
      dsimp only
      omega
    · exact hn0.2
  split
  · dsimp only; omega
  · dsimp only; omega
theorem Seam.toks : ∀ (m p : Nat), l.length - p = m → p ≤ l.length → ∃ us, Toks l' p l.length us ∧ ∀ f, l.length - p < f → tokRun l f p [] = us
  | m, p, hm, hp => by
    by_cases h0 : p = l.length
    · subst h0
      refine ⟨[], Toks.nil, fun f hf => ?_⟩
      match f, hf with
      | f + 1, _ => unfold tokRun; rw [see_none (Nat.le_refl _), if_neg (by decide)]
    · have hlt : p < l.length := by omega
      have hs : 0 ≤ see l p := by
        unfold Aw.see
        rw [List.getElem?_eq_getElem hlt]
        dsimp only
        split
        · exact (right_le (by assumption)).1
        · decide
      obtain ⟨h1, h2⟩ := h.tokNext p hlt
      have h3 := tokNext_gt hs
      obtain ⟨us, h4, h5⟩ := Seam.toks (l.length - (Aw.tokNext l p).2) (Aw.tokNext l p).2 rfl h2
      refine ⟨(Aw.tokNext l p).1 ++ us, ?_, fun f hf => ?_⟩
      · exact (Toks.one (by rw [h.same p hlt]; exact hs) (h1.trans rfl)).trans h4
      · match f, hf with
        | f + 1, _ =>
          unfold tokRun
          rw [if_pos hs, tokRun_acc, h5 f (by omega)]
          rfl
  termination_by m p => l.length - p
  decreasing_by omega
end
theorem see_val {l : List Int} {i : Nat} {c : Int} (h : see l i = c) (hc : 0 ≤ c ∧ c ≠ 65533) : c ∈ l := by
  unfold see at h
  split at h
  · omega
  · rename_i x hx
    split at h
    · subst h; exact List.mem_of_getElem? hx
    · omega
theorem tokens_seam {A R : List Int} (hA : ∀ c ∈ A, c ≠ 92 ∧ c ≠ 34 ∧ c ≠ 39 ∧ c ≠ 47) (hR : R = [] ∨ ∃ c r, R = c :: r ∧ (c = 47 ∨ c = 59)) : tokens (A ++ R) = tokens A ++ tokens R := by
  have hsm : Seam A (A ++ R) := ⟨fun i hi => by unfold see; rw [List.getElem?_append_left hi], by simp, by
    rcases hR with rfl | ⟨c, r, rfl, hc⟩
    · right; right
      rw [List.append_nil]
      exact see_none (Nat.le_refl _)
    · have := (see_cons (l := A ++ c :: r) (p := A.length) (c := c) (r := r) (by simp) (by omega)).1
      rw [this]
      omega, fun i => ⟨fun e => (hA 92 (see_val e (by decide))).1 rfl, fun e => (hA 34 (see_val e (by decide))).2.1 rfl, fun e => (hA 39 (see_val e (by decide))).2.2.1 rfl, fun e => (hA 47 (see_val e (by decide))).2.2.2 rfl⟩⟩
  obtain ⟨us, h1, h2⟩ := hsm.toks _ 0 rfl (Nat.zero_le _)
  rw [tokens_app h1]
  congr 1
  exact (h2 _ (by omega)).symm
end Go.Proofs.Ytdfiegleaknleaa.Aw
