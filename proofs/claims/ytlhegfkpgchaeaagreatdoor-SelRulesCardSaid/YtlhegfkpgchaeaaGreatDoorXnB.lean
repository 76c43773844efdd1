/- The tokens of a text that ends with a rule, and of what stands behind it. -/
import Derived.Test.YtlhegfkpgchaeaaGreatDoorXnA
import Derived.Test.YtlhegfkpgchaeaaGreatDoorXkT
namespace Go.Proofs.YtlhegfkpgchaeaaGreatDoor.Aw
open Go Go.RowKit Go.Lib
set_option linter.unusedVariables false
set_option linter.unusedSimpArgs false
set_option linter.unusedSectionVars false
structure CutAt (N : Nat) (l l' : List Int) : Prop where
 same : ∀ i, i < N → see l' i = see l i
 dull : (see l N = 32 ∧ see l' N = -1) ∨ (see l N = 123 ∧ see l' N = 123)
 len : N ≤ l.length
 len' : N ≤ l'.length
section
variable {N : Nat} {l l' : List Int} (h : CutAt N l l')
include h
theorem CutAt.pred {f : Int → Bool} (hf : f 32 = false ∧ f 123 = false ∧ f (-1) = false) {p : Nat} (hp : p ≤ N) : f (see l' p) = f (see l p) := by
 rcases Nat.lt_or_ge p N with h1 | h1
 ·rw [h.same p h1]
 ·obtain rfl : p = N := by omega
  rcases h.dull with ⟨e1, e2⟩ | ⟨e1, e2⟩ <;> rw [e1, e2] <;> simp [hf]
theorem CutAt.lt {f : Int → Bool} (hf : f 32 = false ∧ f 123 = false) {p : Nat} (hp : p ≤ N) (e : f (see l p) = true) : p < N := by
 rcases Nat.lt_or_ge p N with h1 | h1
 ·exact h1
 ·obtain rfl : p = N := by omega
  rcases h.dull with ⟨e1, _⟩ | ⟨e1, _⟩ <;> rw [e1] at e <;> simp [hf] at e
theorem CutAt.is {p : Nat} (hp : p ≤ N) (c : Int) (hc : c ≠ 32 ∧ c ≠ 123 ∧ c ≠ -1) : (see l' p = c) = (see l p = c) := by
 rcases Nat.lt_or_ge p N with h1 | h1
 ·rw [h.same p h1]
 ·obtain rfl : p = N := by omega
  rcases h.dull with ⟨e1, e2⟩ | ⟨e1, e2⟩ <;> exact propext ⟨fun e => by omega, fun e => by omega⟩
theorem CutAt.ltI {p : Nat} (hp : p ≤ N) {c : Int} (hc : c ≠ 32 ∧ c ≠ 123) (e : see l p = c) : p < N := by
 rcases Nat.lt_or_ge p N with h1 | h1
 ·exact h1
 ·obtain rfl : p = N := by omega
  rcases h.dull with ⟨e1, _⟩ | ⟨e1, _⟩ <;> omega
theorem CutAt.escape {p : Nat} (hp : p ≤ N) (hq : p + 1 ≠ N) : Aw.escape l' p = Aw.escape l p := by
 unfold Aw.escape
 simp only [h.is hp 92 (by decide)]
 by_cases e : see l p = 92
 ·have := h.ltI hp (by decide) e
  rw [h.same (p + 1) (by omega)]
 ·rw [decide_eq_false e]
  rfl
theorem CutAt.hexRun : ∀ (k p : Nat) (n : Int), p ≤ N → Aw.hexRun l' k p n = Aw.hexRun l k p n ∧ (Aw.hexRun l k p n).1 ≤ N
 | 0, p, n, hp => ⟨rfl, hp⟩
 | k + 1, p, n, hp => by
  have e := h.pred (f := fun c => decide (0 ≤ hex c)) (by decide) hp
  unfold Aw.hexRun
  simp only [decide_eq_decide] at e
  simp only [e]
  split
  ·rename_i h1
   have h2 := h.lt (f := fun c => decide (0 ≤ hex c)) (by decide) hp (by simpa using h1)
   rw [h.same p h2]
   exact CutAt.hexRun k (p + 1) _ (by omega)
  ·exact ⟨rfl, hp⟩
theorem CutAt.escaped {p : Nat} (hp : p + 1 < N) (hq : escapedP l p ≤ N) : escapedV l' p = escapedV l p ∧ escapedP l' p = escapedP l p := by
 obtain ⟨e1, e2⟩ := h.hexRun 6 (p + 1) 0 (by omega)
 unfold escapedV escapedP at *
 rw [h.same (p + 1) hp, e1]
 refine ⟨rfl, ?_⟩
 dsimp only at *
 split
 ·rfl
 ·rename_i h0
  rw [if_neg h0] at hq
  generalize (Aw.hexRun l 6 (p + 1) 0).1 = q at *
  rcases Nat.lt_or_ge q N with h1 | h1
  ·rw [h.same q h1]
  ·obtain rfl : q = N := by omega
   rcases h.dull with ⟨e3, e4⟩ | ⟨e3, e4⟩
   ·rw [e3, if_pos (by decide)] at hq
    omega
   ·rw [e3, e4]
theorem CutAt.escP {p : Nat} (hp : p + 1 = N) : escapedP l p = N + 1 := by
 unfold escapedP
 rw [hp, if_pos]
 ·omega
 ·rcases h.dull with ⟨e3, _⟩ | ⟨e3, _⟩ <;> rw [e3] <;> decide
theorem CutAt.escT {p : Nat} (hp : p + 1 = N) (e : see l p = 92) : Aw.escape l p = true := by
 unfold Aw.escape
 rw [hp, e]
 rcases h.dull with ⟨e3, _⟩ | ⟨e3, _⟩ <;> rw [e3] <;> decide
theorem CutAt.nameRun : ∀ (f p : Nat) (bs : List UInt8), p ≤ N → l.length - p < f → (Aw.nameRun l f p bs).2 ≤ N → Aw.nameRun l' f p bs = Aw.nameRun l f p bs
 | 0, p, bs, hp, hf, hq => rfl
 | f + 1, p, bs, hp, hf, hq => by
  have hl := h.len
  have ge : ∀ f q bs, q ≤ l.length → q ≤ (Aw.nameRun l f q bs).2 := fun f q bs hh => (nameRun_le l f q bs hh).1
  unfold Aw.nameRun at hq ⊢
  rw [h.pred (f := namePoint) (by decide) hp]
  split
  ·rename_i h1
   have h2 := h.lt (f := namePoint) (by decide) hp h1
   rw [if_pos h1] at hq
   rw [h.same p h2]
   exact CutAt.nameRun f (p + 1) _ (by omega) (by omega) hq
  ·rename_i h1
   rw [if_neg h1] at hq
   by_cases hpn : p + 1 = N
   ·by_cases e : see l p = 92
    ·exfalso
     have e1 := h.escT hpn e
     have e2 := escapedP_le e1
     rw [if_pos e1] at hq
     have := ge f (escapedP l p) (bs ++ putB (escapedV l p)) e2.2
     have := h.escP hpn
     omega
    ·have e1 : Aw.escape l p = false := by unfold Aw.escape; rw [decide_eq_false e]; rfl
     have e2 : Aw.escape l' p = false := by unfold Aw.escape; rw [decide_eq_false (by rw [h.is hp 92 (by decide)]; exact e)]; rfl
     rw [e1, e2, if_neg (by simp), if_neg (by simp)]
   ·rw [h.escape hp hpn]
    split
    ·rename_i h3
     rw [if_pos h3] at hq
     have e2 := escapedP_le h3
     have g := ge f (escapedP l p) (bs ++ putB (escapedV l p)) e2.2
     have hpl : p < N := h.ltI hp (c := 92) (by decide) (by simp only [Aw.escape, Bool.and_eq_true, decide_eq_true_eq] at h3; exact h3.1.1)
     obtain ⟨e3, e4⟩ := h.escaped (p := p) (by omega) (by omega)
     rw [e3, e4]
     exact CutAt.nameRun f _ _ (by omega) (by omega) hq
    ·rfl
theorem CutAt.name {p : Nat} (hp : p ≤ N) (hq : nameP l p ≤ N) : nameS l' p = nameS l p ∧ nameP l' p = nameP l p := by
 have hl := h.len
 have hl' := h.len'
 unfold nameS nameP at *
 have e : ∀ (m : List Int), Aw.nameRun m (m.length + 1) p [] = Aw.nameRun m (m.length + l.length + l'.length + 1) p [] := fun m => nameRun_fuel m _ _ _ _ (by omega) (by omega)
 rw [e l] at hq
 rw [e l', e l]
 have e2 := nameRun_fuel l (l.length + l.length + l'.length + 1) (l'.length + l.length + l'.length + 1) p [] (by omega) (by omega)
 rw [e2] at hq ⊢
 rw [h.nameRun _ p [] hp (by omega) hq]
 exact ⟨rfl, rfl⟩
theorem CutAt.begins {p : Nat} (hp : p ≤ N) (hq : Aw.begins l p = true → nameP l p ≤ N) : Aw.begins l' p = Aw.begins l p := by
 have hl := h.len
 have nx : ∀ q, q ≤ N → (Aw.escape l q = true → nameP l p ≤ N ∧ escapedP l q ≤ nameP l p) → Aw.escape l' q = Aw.escape l q := fun q hqN hx => by
  by_cases hqn : q + 1 = N
  ·by_cases e : see l q = 92
   ·exfalso
    have e1 := h.escT hqn e
    have := hx e1
    have := h.escP hqn
    omega
   ·have e1 : Aw.escape l q = false := by unfold Aw.escape; rw [decide_eq_false e]; rfl
    have e2 : Aw.escape l' q = false := by unfold Aw.escape; rw [decide_eq_false (by rw [h.is hqN 92 (by decide)]; exact e)]; rfl
    rw [e1, e2]
  ·exact h.escape hqN hqn
 have ge : ∀ f q bs, q ≤ l.length → q ≤ (Aw.nameRun l f q bs).2 := fun f q bs hh => (nameRun_le l f q bs hh).1
 unfold Aw.begins
 simp only [h.is hp 45 (by decide)]
 by_cases e : see l p = 45
 ·have h2 := h.ltI hp (c := 45) (by decide) e
  rw [if_pos e, if_pos e]
  simp only [h.is (p := p + 1) (by omega) 45 (by decide)]
  rw [h.pred (f := nameStart) (by decide) (p := p + 1) (by omega)]
  rw [nx (p + 1) (by omega) (fun hx => ?_)]
  have hb : Aw.begins l p = true := by unfold Aw.begins; rw [if_pos e, hx]; simp
  refine ⟨hq hb, ?_⟩
  have e2 := escapedP_le hx
  unfold nameP
  rw [Aw.nameRun, if_pos (by rw [e]; decide)]
  obtain ⟨k, hk⟩ : ∃ k, l.length = k + 1 := ⟨l.length - 1, by omega⟩
  rw [hk, Aw.nameRun]
  have hn : namePoint (see l (p + 1)) = false := by
   have : see l (p + 1) = 92 := by simp only [Aw.escape, Bool.and_eq_true, decide_eq_true_eq] at hx; exact hx.1.1
   rw [this]; decide
  rw [hn, if_neg (by simp), if_pos hx]
  exact ge _ _ _ e2.2
 ·rw [if_neg e, if_neg e, h.pred (f := nameStart) (by decide) hp]
  rw [nx p hp (fun hx => ?_)]
  have hb : Aw.begins l p = true := by unfold Aw.begins; rw [if_neg e, hx]; simp
  refine ⟨hq hb, ?_⟩
  have e2 := escapedP_le hx
  unfold nameP
  have hn : namePoint (see l p) = false := by
   have : see l p = 92 := by simp only [Aw.escape, Bool.and_eq_true, decide_eq_true_eq] at hx; exact hx.1.1
   rw [this]; decide
  rw [Aw.nameRun, hn, if_neg (by simp), if_pos hx]
  exact ge _ _ _ e2.2
end
section
variable {N : Nat} {l l' : List Int} (h : CutAt N l l')
include h
theorem CutAt.digRun : ∀ (f p : Nat) (bs : List UInt8), p ≤ N → Aw.digRun l' f p bs = Aw.digRun l f p bs ∧ (Aw.digRun l f p bs).2 ≤ N
 | 0, p, bs, hp => ⟨rfl, hp⟩
 | f + 1, p, bs, hp => by
  unfold Aw.digRun
  rw [h.pred (f := digit) (by decide) hp]
  split
  ·rename_i h1
   have h2 := h.lt (f := digit) (by decide) hp h1
   rw [h.same p h2]
   exact CutAt.digRun f (p + 1) _ (by omega)
  ·exact ⟨rfl, hp⟩
theorem CutAt.dig (p : Nat) (bs : List UInt8) (hp : p ≤ N) : Aw.digRun l' (l'.length + 1) p bs = Aw.digRun l (l.length + 1) p bs ∧ (Aw.digRun l (l.length + 1) p bs).2 ≤ N := by
 have hl := h.len
 have hl' := h.len'
 have e : ∀ (m : List Int), Aw.digRun m (m.length + 1) p bs = Aw.digRun m (m.length + l.length + l'.length + 1) p bs := fun m => digRun_fuel m _ _ _ _ (by omega) (by omega)
 rw [e l', e l, digRun_fuel l (l.length + l.length + l'.length + 1) (l'.length + l.length + l'.length + 1) p bs (by omega) (by omega)]
 exact h.digRun _ p bs hp
theorem CutAt.number {p : Nat} (hp : p < N) : Aw.number l' p = Aw.number l p := by
 have e46 : ∀ q, q ≤ N → (decide (see l' q = 46) && digit (see l' (q + 1))) = (decide (see l q = 46) && digit (see l (q + 1))) := fun q hq => by
  by_cases e : see l q = 46
  ·have h2 := h.ltI hq (c := 46) (by decide) e
   simp only [h.is hq 46 (by decide)]
   rw [h.pred (f := digit) (by decide) (p := q + 1) (by omega)]
  ·have e' : ¬ see l' q = 46 := by rw [h.is hq 46 (by decide)]; exact e
   rw [decide_eq_false e, decide_eq_false e']
   rfl
 unfold Aw.number
 rw [h.same p hp]
 split
 ·rw [h.pred (f := digit) (by decide) (p := p + 1) (by omega), e46 (p + 1) (by omega)]
 ·rw [← h.same p hp, e46 p (by omega), h.same p hp]
theorem CutAt.numInt {p : Nat} (hp : p < N) : Aw.numInt l' p = Aw.numInt l p ∧ (Aw.numInt l p).2 ≤ N := by
 unfold Aw.numInt numSgn
 rw [h.same p hp]
 split
 ·exact h.dig _ _ (by dsimp only; omega)
 ·exact h.dig _ _ (by dsimp only; omega)
theorem CutAt.numB {p : Nat} (hp : p < N) : Aw.numB l' p = Aw.numB l p ∧ (Aw.numB l p).2.1 ≤ N := by
 obtain ⟨h1, h2⟩ := h.numInt hp
 unfold Aw.numB
 rw [h1]
 by_cases e : see l (Aw.numInt l p).2 = 46
 ·have h3 := h.ltI h2 (c := 46) (by decide) e
  simp only [h.is h2 46 (by decide)]
  rw [h.pred (f := digit) (by decide) (p := (Aw.numInt l p).2 + 1) (by omega)]
  split
  ·have := h.dig ((Aw.numInt l p).2 + 1) ((Aw.numInt l p).1 ++ [46]) (by omega)
   rw [this.1]
   exact ⟨rfl, this.2⟩
  ·exact ⟨rfl, h2⟩
 ·have e' : ¬ see l' (Aw.numInt l p).2 = 46 := by rw [h.is h2 46 (by decide)]; exact e
  rw [if_neg (fun x => e' x.1), if_neg (fun x => e x.1)]
  exact ⟨rfl, h2⟩
theorem CutAt.numeric {p : Nat} (hp : p < N) (hq : numericP l p ≤ N) : Aw.numericT l' p = Aw.numericT l p ∧ Aw.numericP l' p = Aw.numericP l p := by
 obtain ⟨h1, h2⟩ := h.numB hp
 unfold Aw.numericT Aw.numericP at *
 rw [h1]
 rcases hb : Aw.numB l p with ⟨bs, q, w⟩
 rw [hb] at h2 hq
 dsimp only at h2 hq ⊢
 have hbg : Aw.begins l q = true → nameP l q ≤ N := fun e => by rw [if_pos e] at hq; exact hq
 simp only [h.is h2 37 (by decide)]
 rw [h.begins h2 hbg]
 by_cases e : Aw.begins l q = true
 ·have := h.name h2 (hbg e)
  rw [if_pos e, if_pos e, if_pos e, if_pos e, this.1, this.2]
  exact ⟨rfl, rfl⟩
 ·rw [if_neg e, if_neg e, if_neg e, if_neg e]
  exact ⟨rfl, rfl⟩
theorem CutAt.whiteRun : ∀ (f p : Nat), p ≤ N → l.length - p < f → Aw.whiteEnd l f p ≤ N → Aw.whiteEnd l' f p = Aw.whiteEnd l f p
 | 0, p, hp, hf, hq => rfl
 | f + 1, p, hp, hf, hq => by
  have hl := h.len
  unfold Aw.whiteEnd at hq ⊢
  rcases Nat.lt_or_ge p N with h1 | h1
  ·rw [h.same p h1]
   split
   ·rename_i h2
    rw [if_pos h2] at hq
    exact CutAt.whiteRun f (p + 1) (by omega) (by omega) hq
   ·rfl
  ·obtain rfl : p = N := by omega
   rcases h.dull with ⟨e1, e2⟩ | ⟨e1, e2⟩
   ·exfalso
    rw [e1, if_pos (by decide)] at hq
    rcases Nat.lt_or_ge p l.length with h3 | h3
    ·have := (whiteEnd_le l f (p + 1) (by omega)).1
     omega
    ·have : see l p = -1 := by unfold see; rw [List.getElem?_eq_none h3]
     omega
   ·rw [e1, e2, if_neg (by decide), if_neg (by decide)]
theorem CutAt.white {p : Nat} (hp : p ≤ N) (hq : Aw.whiteEnd l (l.length + 1) p ≤ N) : Aw.whiteEnd l' (l'.length + 1) p = Aw.whiteEnd l (l.length + 1) p := by
 have hl := h.len
 have hl' := h.len'
 have e : ∀ (m : List Int), Aw.whiteEnd m (m.length + 1) p = Aw.whiteEnd m (m.length + l.length + l'.length + 1) p := fun m => whiteEnd_fuel m _ _ _ (by omega) (by omega)
 rw [e l] at hq
 rw [e l', e l]
 have e2 := whiteEnd_fuel l (l.length + l.length + l'.length + 1) (l'.length + l.length + l'.length + 1) p (by omega) (by omega)
 rw [e2] at hq ⊢
 exact h.whiteRun _ p hp (by omega) hq
theorem CutAt.seeN : N < l.length := by
 rcases Nat.lt_or_ge N l.length with h3 | h3
 ·exact h3
 ·have : see l N = -1 := by unfold see; rw [List.getElem?_eq_none h3]
  rcases h.dull with ⟨e1, _⟩ | ⟨e1, _⟩ <;> omega
theorem CutAt.commentRun : ∀ (f p : Nat), p ≤ N → l.length - p < f → Aw.commentEnd l f p + 2 ≤ N → Aw.commentEnd l' f p = Aw.commentEnd l f p
 | 0, p, hp, hf, hq => rfl
 | f + 1, p, hp, hf, hq => by
  have hl := h.seeN
  rcases Nat.lt_or_ge (p + 1) N with h1 | h1
  ·unfold Aw.commentEnd at hq ⊢
   rw [h.same p (by omega), h.same (p + 1) h1]
   split
   ·rename_i h2
    rw [if_pos h2] at hq
    exact CutAt.commentRun f (p + 1) (by omega) (by omega) hq
   ·rfl
  ·have := (commentEnd_le l (f + 1) p (by omega)).1
   omega
theorem CutAt.comment {p : Nat} (hp : p ≤ N) (hq : Aw.commentEnd l (l.length + 1) p + 2 ≤ N) : Aw.commentEnd l' (l'.length + 1) p = Aw.commentEnd l (l.length + 1) p := by
 have hl := h.len
 have hl' := h.len'
 have e : ∀ (m : List Int), Aw.commentEnd m (m.length + 1) p = Aw.commentEnd m (m.length + l.length + l'.length + 1) p := fun m => commentEnd_fuel m _ _ _ (by omega) (by omega)
 rw [e l] at hq
 rw [e l', e l]
 have e2 := commentEnd_fuel l (l.length + l.length + l'.length + 1) (l'.length + l.length + l'.length + 1) p (by omega) (by omega)
 rw [e2] at hq ⊢
 exact h.commentRun _ p hp (by omega) hq
theorem CutAt.strRun (e : Int) (he : e = 34 ∨ e = 39) : ∀ (f p : Nat) (bs : List UInt8), p ≤ N → l.length - p < f → (Aw.strRun l e f p bs).2 ≤ N → Aw.strRun l' e f p bs = Aw.strRun l e f p bs
 | 0, p, bs, hp, hf, hq => rfl
 | f + 1, p, bs, hp, hf, hq => by
  have hl := h.seeN
  have ge : ∀ f q bs, q ≤ l.length → q ≤ (Aw.strRun l e f q bs).2 := fun f q bs hh => (strRun_le l e f q bs hh).1
  unfold Aw.strRun at hq ⊢
  rcases Nat.lt_or_ge p N with h1 | h1
  ·rw [h.same p h1]
   split
   ·rfl
   rename_i g1
   rw [if_neg g1] at hq
   split
   ·rfl
   rename_i g2
   rw [if_neg g2] at hq
   split
   ·rfl
   rename_i g3
   rw [if_neg g3] at hq
   split
   ·rename_i g4
    rw [if_pos g4] at hq
    rcases Nat.lt_or_ge (p + 1) N with h2 | h2
    ·rw [h.same (p + 1) h2]
     split
     ·rename_i g5
      rw [if_pos g5] at hq
      exact CutAt.strRun e he f _ _ (by omega) (by omega) hq
     rename_i g5
     rw [if_neg g5] at hq
     split
     ·rename_i g6
      rw [if_pos g6] at hq
      exact CutAt.strRun e he f _ _ (by omega) (by omega) hq
     ·rename_i g6
      rw [if_neg g6] at hq
      have e2 := escapedP_le (escape_of g4 g5 g6)
      have g := ge f (escapedP l p) (bs ++ putB (escapedV l p)) e2.2
      obtain ⟨e3, e4⟩ := h.escaped h2 (by omega)
      rw [e3, e4]
      exact CutAt.strRun e he f _ _ (by omega) (by omega) hq
    ·exfalso
     obtain rfl : N = p + 1 := by omega
     have hd : ¬ see l (p + 1) < 0 ∧ ¬ see l (p + 1) = 10 := by rcases h.dull with ⟨e1, _⟩ | ⟨e1, _⟩ <;> omega
     rw [if_neg hd.1, if_neg hd.2] at hq
     have e2 := escapedP_le (escape_of g4 hd.1 hd.2)
     have g := ge f (escapedP l p) (bs ++ putB (escapedV l p)) e2.2
     have := h.escP (p := p) rfl
     omega
   ·rename_i g4
    rw [if_neg g4] at hq
    exact CutAt.strRun e he f _ _ (by omega) (by omega) hq
  ·exfalso
   obtain rfl : p = N := by omega
   have hd : ¬ see l p < 0 ∧ ¬ see l p = e ∧ ¬ see l p = 10 ∧ ¬ see l p = 92 := by rcases h.dull with ⟨e1, _⟩ | ⟨e1, _⟩ <;> omega
   rw [if_neg hd.1, if_neg hd.2.1, if_neg hd.2.2.1, if_neg hd.2.2.2] at hq
   have := ge f (p + 1) (bs ++ putB (see l p)) (by omega)
   omega
theorem CutAt.str {p : Nat} (hp : p < N) (he : see l p = 34 ∨ see l p = 39) (hq : strP l p ≤ N) : strT l' p = strT l p ∧ strP l' p = strP l p := by
 have hl := h.len
 have hl' := h.len'
 unfold strT strP at *
 rw [h.same p hp]
 have e : ∀ (m : List Int), Aw.strRun m (see l p) (m.length + 1) (p + 1) [] = Aw.strRun m (see l p) (m.length + l.length + l'.length + 1) (p + 1) [] := fun m => strRun_fuel m _ _ _ _ _ (by omega) (by omega)
 rw [e l] at hq
 rw [e l', e l]
 have e2 := strRun_fuel l (see l p) (l.length + l.length + l'.length + 1) (l'.length + l.length + l'.length + 1) (p + 1) [] (by omega) (by omega)
 rw [e2] at hq ⊢
 rw [h.strRun _ he _ _ _ hp (by omega) hq]
 exact ⟨rfl, rfl⟩
theorem CutAt.tokNext {p : Nat} (hp : p < N) (hq : (Aw.tokNext l p).2 ≤ N) : Aw.tokNext l' p = Aw.tokNext l p := by
 have hl := h.len
 unfold Aw.tokNext at hq ⊢
 rw [h.same p hp]
 simp only [h.is (p := p + 1) hp 42 (by decide)]
 by_cases g1 : see l p = 47 ∧ see l (p + 1) = 42
 ·rw [if_pos g1] at hq ⊢
  rw [if_pos g1]
  dsimp only at hq
  have h2 := h.ltI (p := p + 1) hp (c := 42) (by decide) g1.2
  rw [h.comment (p := p + 2) (by omega) hq]
 rw [if_neg g1] at hq ⊢
 rw [if_neg g1]
 by_cases g2 : Aw.white (see l p) = true
 ·rw [if_pos g2] at hq ⊢
  rw [if_pos g2, h.white (by omega) hq]
 rw [if_neg g2] at hq ⊢
 rw [if_neg g2]
 by_cases g3 : see l p = 34 ∨ see l p = 39
 ·rw [if_pos g3] at hq ⊢
  rw [if_pos g3, (h.str hp g3 hq).1, (h.str hp g3 hq).2]
 rw [if_neg g3] at hq ⊢
 rw [if_neg g3]
 have ge : ∀ f q bs, q ≤ l.length → q ≤ (Aw.nameRun l f q bs).2 := fun f q bs hh => (nameRun_le l f q bs hh).1
 by_cases g4 : see l p = 35 ∧ (namePoint (see l (p + 1)) = true ∨ Aw.escape l (p + 1) = true)
 ·rw [if_pos g4] at hq ⊢
  dsimp only at hq
  have hn := h.name (p := p + 1) hp hq
  rw [hn.1, hn.2, if_pos]
  refine ⟨g4.1, ?_⟩
  rw [h.pred (f := namePoint) (by decide) (p := p + 1) hp]
  rcases g4.2 with g | g
  ·exact .inl g
  ·right
   by_cases hpn : p + 1 + 1 = N
   ·exfalso
    have e2 := escapedP_le g
    have h9 : namePoint (see l (p + 1)) = false := by
     have : see l (p + 1) = 92 := by simp only [Aw.escape, Bool.and_eq_true, decide_eq_true_eq] at g; exact g.1.1
     rw [this]; decide
    unfold nameP at hq
    rw [Aw.nameRun, h9, if_neg (by simp), if_pos g] at hq
    have := ge l.length (escapedP l (p + 1)) ([] ++ putB (escapedV l (p + 1))) e2.2
    have := h.escP hpn
    omega
   ·rw [h.escape hp hpn]
    exact g
 rw [if_neg g4] at hq
 rw [if_neg g4]
 have g4' : ¬ (see l p = 35 ∧ (namePoint (see l' (p + 1)) = true ∨ Aw.escape l' (p + 1) = true)) := by
  rintro ⟨e1, e2⟩
  rw [h.pred (f := namePoint) (by decide) (p := p + 1) hp] at e2
  refine g4 ⟨e1, ?_⟩
  rcases e2 with e2 | e2
  ·exact .inl e2
  ·right
   by_cases hpn : p + 1 + 1 = N
   ·refine h.escT hpn ?_
    simp only [Aw.escape, Bool.and_eq_true, decide_eq_true_eq] at e2
    have := e2.1.1
    rwa [h.is (p := p + 1) hp 92 (by decide)] at this
   ·rw [h.escape hp hpn] at e2
    exact e2
 rw [if_neg g4', h.number hp]
 by_cases g5 : Aw.number l p = true
 ·rw [if_pos g5] at hq ⊢
  rw [if_pos g5, (h.numeric hp hq).1, (h.numeric hp hq).2]
 rw [if_neg g5] at hq ⊢
 rw [if_neg g5]
 by_cases g6 : see l p = 64 ∧ Aw.begins l (p + 1) = true
 ·rw [if_pos g6] at hq ⊢
  dsimp only at hq
  have hn := h.name (p := p + 1) hp hq
  rw [h.begins (p := p + 1) hp (fun _ => hq), if_pos g6, hn.1, hn.2]
 rw [if_neg g6] at hq
 rw [if_neg g6]
 have g6' : ¬ (see l p = 64 ∧ Aw.begins l' (p + 1) = true) := by
  rintro ⟨e1, e2⟩
  by_cases e3 : Aw.begins l (p + 1) = true
  ·exact g6 ⟨e1, e3⟩
  ·rw [h.begins (p := p + 1) hp (fun e => absurd e e3)] at e2
   exact e3 e2
 rw [if_neg g6']
 by_cases g7 : Aw.begins l p = true
 ·rw [if_pos g7] at hq ⊢
  have hq2 : nameP l p ≤ N := by
   split at hq
   ·dsimp only at hq; omega
   ·exact hq
  have hn := h.name (p := p) (by omega) hq2
  rw [h.begins (by omega) (fun _ => hq2), if_pos g7, hn.1, hn.2]
  simp only [h.is hq2 40 (by decide)]
 ·rw [if_neg g7] at hq ⊢
  rw [h.begins (by omega) (fun e => absurd e g7), if_neg g7]
end
structure HasQ (N : Nat) (l : List Int) : Prop where
 s0 : see l N = 32
 s1 : see l (N + 1) = 113
 s2 : see l (N + 2) = 123
 s3 : see l (N + 3) = 125
 len : N + 4 ≤ l.length
theorem tok_brace {l : List Int} {p : Nat} {c k : Int} (h : see l p = c) (hc : (c = 123 ∧ k = 14) ∨ (c = 125 ∧ k = 15)) : tokNext l p = ([{ kind := k }], p + 1) := by
 unfold tokNext begins number escape
 rw [h]
 rcases hc with ⟨rfl, rfl⟩ | ⟨rfl, rfl⟩ <;> simp [white, digit, nameStart, sign]
section
variable {N : Nat} {l : List Int} (h : HasQ N l)
include h
theorem HasQ.white : tokNext l N = ([{ kind := 9 }], N + 1) := by
 have hl := h.len
 unfold tokNext
 rw [h.s0, if_neg (fun e => absurd e.1 (by decide)), if_pos (by decide)]
 have : whiteEnd l (l.length + 1) N = N + 1 := by
  obtain ⟨k, hk⟩ : ∃ k, l.length = k + 1 := ⟨l.length - 1, by omega⟩
  rw [hk, whiteEnd, h.s0, if_pos (by decide), whiteEnd, h.s1, if_neg (by decide)]
 rw [this]
theorem HasQ.nameFrom (f : Nat) (bs : List UInt8) : nameRun l (f + 2) (N + 1) bs = (bs ++ putB 113, N + 2) := by
 rw [nameRun, h.s1, if_pos (by decide), nameRun, h.s2, if_neg (by decide)]
 have : escape l (N + 2) = false := by unfold escape; rw [h.s2]; rfl
 rw [this, if_neg (by simp)]
theorem HasQ.ident : tokNext l (N + 1) = ([{ kind := 1, text := nameS l (N + 1) }], N + 2) := by
 have hl := h.len
 have hn : nameP l (N + 1) = N + 2 := by
  unfold nameP
  obtain ⟨k, hk⟩ : ∃ k, l.length = k + 1 := ⟨l.length - 1, by omega⟩
  rw [hk, h.nameFrom]
 have hb : begins l (N + 1) = true := by unfold begins; rw [h.s1, if_neg (by decide)]; rfl
 have hnum : number l (N + 1) = false := by unfold number; rw [h.s1, if_neg (by decide)]; rfl
 unfold tokNext
 rw [hnum, hb, hn, h.s1, h.s2]
 rfl
theorem HasQ.nameRun2 : ∀ (f p : Nat) (bs : List UInt8), p ≤ N → l.length - p < f → (nameRun l f p bs).2 ≤ N ∨ (nameRun l f p bs).2 = N + 2
 | 0, p, bs, hp, hf => by omega
 | f + 1, p, bs, hp, hf => by
  have hl := h.len
  unfold nameRun
  rcases Nat.lt_or_ge p N with h1 | h1
  ·split
   ·exact HasQ.nameRun2 f (p + 1) _ (by omega) (by omega)
   split
   ·rename_i h3
    have e2 := escapedP_le h3
    have hb : escapedP l p ≤ N + 1 := by
     unfold escapedP
     split
     ·omega
     ·rename_i h4
      have hx : ∀ (k q : Nat) (n : Int), q ≤ N → (hexRun l k q n).1 ≤ N := by
       intro k
       induction k with
       | zero => intro q n hq; exact hq
       | succ k ih =>
        intro q n hq
        unfold hexRun
        split
        ·rename_i h5
         rcases Nat.lt_or_ge q N with h6 | h6
         ·exact ih (q + 1) _ h6
         ·obtain rfl : q = N := by omega
          rw [h.s0] at h5
          exact absurd h5 (by decide)
        ·exact hq
      have := hx 6 (p + 1) 0 (by omega)
      dsimp only
      split <;> omega
    rcases Nat.lt_or_ge (escapedP l p) (N + 1) with h5 | h5
    ·exact HasQ.nameRun2 f _ _ (by omega) (by omega)
    ·have e5 : escapedP l p = N + 1 := by omega
     rw [e5]
     obtain ⟨k, rfl⟩ : ∃ k, f = k + 2 := ⟨f - 2, by omega⟩
     rw [h.nameFrom]
     exact .inr rfl
   ·exact .inl hp
  ·obtain rfl : p = N := by omega
   have : escape l p = false := by unfold escape; rw [h.s0]; rfl
   rw [h.s0, if_neg (by decide), this, if_neg (by simp)]
   exact .inl (Nat.le_refl _)
theorem HasQ.nameP2 {p : Nat} (hp : p ≤ N) : nameP l p ≤ N ∨ nameP l p = N + 2 := h.nameRun2 _ _ _ hp (by omega)
theorem HasQ.whiteRun : ∀ (f p : Nat), p ≤ N → l.length - p < f → whiteEnd l f p < N ∨ whiteEnd l f p = N + 1
 | 0, p, hp, hf => by omega
 | f + 1, p, hp, hf => by
  have hl := h.len
  unfold whiteEnd
  rcases Nat.lt_or_ge p N with h1 | h1
  ·split
   ·exact HasQ.whiteRun f (p + 1) (by omega) (by omega)
   ·exact .inl h1
  ·obtain rfl : p = N := by omega
   rw [h.s0, if_pos (by decide)]
   obtain ⟨k, rfl⟩ : ∃ k, f = k + 1 := ⟨f - 1, by omega⟩
   rw [whiteEnd, h.s1, if_neg (by decide)]
   exact .inr rfl
theorem HasQ.digRun2 : ∀ (f p : Nat) (bs : List UInt8), p ≤ N → (digRun l f p bs).2 ≤ N
 | 0, p, bs, hp => hp
 | f + 1, p, bs, hp => by
  unfold digRun
  split
  ·rename_i h1
   rcases Nat.lt_or_ge p N with h2 | h2
   ·exact HasQ.digRun2 f (p + 1) _ h2
   ·obtain rfl : p = N := by omega
    rw [h.s0] at h1
    exact absurd h1 (by decide)
  ·exact hp
theorem HasQ.numB2 {p : Nat} (hp : p < N) : (numB l p).2.1 ≤ N := by
 have hi : (numInt l p).2 ≤ N := by
  unfold numInt numSgn
  split
  ·exact h.digRun2 _ _ _ hp
  ·exact h.digRun2 _ _ _ (Nat.le_of_lt hp)
 unfold numB
 split
 ·rename_i h1
  refine h.digRun2 _ _ _ ?_
  rcases Nat.lt_or_ge (numInt l p).2 N with h2 | h2
  ·exact h2
  ·have e : (numInt l p).2 = N := by omega
   rw [e, h.s0] at h1
   exact absurd h1.1 (by decide)
 ·exact hi
inductive Cross (l : List Int) (N p : Nat) : Prop where
 | white (h : tokNext l p = ([{ kind := 9 }], N + 1))
 | name (k : Tok) (hk : Neu k.kind) (h : tokNext l p = ([k], N + 2))
 | str (h : see l p = 34 ∨ see l p = 39) (e : tokNext l p = ([strT l p], strP l p)) (hq : N < strP l p)
 | comment (e : tokNext l p = ([], commentEnd l (l.length + 1) (p + 2) + 2)) (hq : N < commentEnd l (l.length + 1) (p + 2) + 2) (h : see l p = 47 ∧ see l (p + 1) = 42)
omit h in
theorem neu_of {k : Int} (h : k = 1 ∨ k = 2 ∨ k = 3 ∨ k = 6 ∨ k = 7 ∨ k = 8 ∨ k = 9 ∨ k = 10) : Neu k := by unfold Neu; omega
theorem HasQ.cross {p : Nat} (hp : p < N) (hq : N < (tokNext l p).2) : Cross l N p := by
 have hl := h.len
 unfold tokNext at hq
 by_cases g1 : see l p = 47 ∧ see l (p + 1) = 42
 ·rw [if_pos g1] at hq
  exact .comment (by unfold tokNext; rw [if_pos g1]) hq g1
 rw [if_neg g1] at hq
 by_cases g2 : Aw.white (see l p) = true
 ·rw [if_pos g2] at hq
  dsimp only at hq
  have := h.whiteRun (l.length + 1) p (by omega) (by omega)
  exact .white (by unfold tokNext; rw [if_neg g1, if_pos g2, show whiteEnd l (l.length + 1) p = N + 1 by omega])
 rw [if_neg g2] at hq
 by_cases g3 : see l p = 34 ∨ see l p = 39
 ·rw [if_pos g3] at hq
  exact .str g3 (by unfold tokNext; rw [if_neg g1, if_neg g2, if_pos g3]) hq
 rw [if_neg g3] at hq
 by_cases g4 : see l p = 35 ∧ (namePoint (see l (p + 1)) = true ∨ escape l (p + 1) = true)
 ·rw [if_pos g4] at hq
  dsimp only at hq
  have := h.nameP2 (p := p + 1) hp
  exact .name { kind := 3, text := nameS l (p + 1) } (neu_of (by simp)) (by unfold tokNext; rw [if_neg g1, if_neg g2, if_neg g3, if_pos g4, show nameP l (p + 1) = N + 2 by omega])
 rw [if_neg g4] at hq
 by_cases g5 : number l p = true
 ·rw [if_pos g5] at hq
  dsimp only at hq
  have h2 := h.numB2 hp
  have hb : numericP l p = N + 2 ∧ Neu (numericT l p).kind := by
   unfold numericP at hq ⊢
   unfold numericT
   rcases hb : numB l p with ⟨bs, q, w⟩
   rw [hb] at h2 hq
   dsimp only at h2 hq ⊢
   by_cases e : begins l q = true
   ·rw [if_pos e] at hq ⊢
    rw [if_pos e]
    have := h.nameP2 h2
    exact ⟨by omega, neu_of (by simp)⟩
   ·exfalso
    rw [if_neg e] at hq
    split at hq
    ·rename_i e2
     rcases Nat.lt_or_ge q N with h3 | h3
     ·omega
     ·have e3 : q = N := by omega
      rw [e3, h.s0] at e2
      omega
    ·omega
  exact .name _ hb.2 (by unfold tokNext; rw [if_neg g1, if_neg g2, if_neg g3, if_neg g4, if_pos g5, hb.1])
 rw [if_neg g5] at hq
 by_cases g6 : see l p = 64 ∧ begins l (p + 1) = true
 ·rw [if_pos g6] at hq
  dsimp only at hq
  have := h.nameP2 (p := p + 1) hp
  exact .name { kind := 2, text := nameS l (p + 1) } (neu_of (by simp)) (by unfold tokNext; rw [if_neg g1, if_neg g2, if_neg g3, if_neg g4, if_neg g5, if_pos g6, show nameP l (p + 1) = N + 2 by omega])
 rw [if_neg g6] at hq
 by_cases g7 : begins l p = true
 ·rw [if_pos g7] at hq
  have hn := h.nameP2 (p := p) (by omega)
  have hnn : nameP l p = N + 2 := by
   rcases hn with hn | hn
   ·exfalso
    split at hq
    ·rename_i e
     dsimp only at hq
     have e3 : nameP l p = N := by omega
     rw [e3, h.s0] at e
     omega
    ·dsimp only at hq
     omega
   ·exact hn
  exact .name { kind := 1, text := nameS l p } (neu_of (by simp)) (by unfold tokNext; rw [if_neg g1, if_neg g2, if_neg g3, if_neg g4, if_neg g5, if_neg g6, if_pos g7, hnn, h.s2]; rfl)
 ·exfalso
  rw [if_neg g7] at hq
  split at hq <;> (dsimp only at hq; omega)
end
theorem cnt_mono {n : RawV → Nat} (hn : ∀ x y : RawV, x.pre = y.pre → n x = n y) (U W : List Tok) (m : Nat) : ∀ i, U.length - i ≤ m → i ≤ U.length → cntR n (rulesAt U i) ≤ cntR n (rulesAt (U ++ W) i) := by
 have hl : (U ++ W).length = U.length + W.length := List.length_append
 have base : ∀ i j, U.length ≤ i → cntR n (rulesAt U i) ≤ cntR n (rulesAt (U ++ W) j) := fun i j hi => by rw [rulesAt_out hi]; exact Nat.zero_le _
 induction m with
 | zero => intro i hm hi; exact base i i (by omega)
 | succ m ih =>
  intro i hm hi
  rcases Nat.lt_or_ge i U.length with h1 | h1
  ·rw [rulesAt_step (t := U ++ W) (by omega), rulesAt_step h1, tk_appL h1]
   split
   ·exact ih (i + 1) (by omega) (by omega)
   split
   ·have hg := atP_gt h1
    rcases Nat.lt_or_ge (findP U (i + 1) 12 14) U.length with h2 | h2
    ·have e : findP (U ++ W) (i + 1) 12 14 = findP U (i + 1) 12 14 := findP_app W _ _ (Nat.le_refl _) h2
     by_cases hc : skipE U (findP U (i + 1) 12 14) = []
     ·have e2 : atP (U ++ W) i = atP U i := by unfold atP; rw [e, skipP_app W h2 hc]
      rw [e2]
      exact ih _ (by omega) hg.2
     ·have e3 : atP U i = U.length := by unfold atP; exact skipP_open h2 hc
      exact base _ _ (by omega)
    ·have h3 : findP U (i + 1) 12 14 = U.length := Nat.le_antisymm (findP_le ..) h2
     have e3 : atP U i = U.length := by unfold atP; rw [h3, skipP_out (Nat.le_refl _)]
     exact base _ _ (by omega)
   ·rcases Nat.lt_or_ge (findP U i 14 14) U.length with h2 | h2
    ·have e : findP (U ++ W) i 14 14 = findP U i 14 14 := findP_app W _ _ (Nat.le_refl _) h2
     have g1 := findP_ge (t := U) (i := i) 14 14 hi
     have g2 := skipP_gt h2
     rw [e, if_neg (by omega), if_neg (by omega), pre_app W (by omega)]
     have en : ∀ x y z, n { pre := x, block := y } = n { pre := x, block := z } := fun x y z => hn _ _ rfl
     rw [cntR_cons, cntR_cons, en _ _ (innerT (U ++ W) (findP U i 14 14))]
     refine Nat.add_le_add_left ?_ _
     by_cases hc : skipE U (findP U i 14 14) = []
     ·rw [skipP_app W h2 hc]
      exact ih _ (by omega) g2.2
     ·rw [skipP_open h2 hc]
      exact base _ _ (Nat.le_refl _)
    ·have h3 : findP U i 14 14 = U.length := Nat.le_antisymm (findP_le ..) h2
     rw [if_pos h3]
     exact Nat.zero_le _
  ·exact base i i h1
theorem see_nn {l : List Int} {i : Nat} (h : i < l.length) : 0 ≤ see l i := by
 unfold see
 rw [List.getElem?_eq_getElem h]
 dsimp only
 split
 ·exact (right_le (by assumption)).1
 ·decide
section
variable {N : Nat} {l : List Int} (h : HasQ N l)
include h
theorem HasQ.toksB : Toks l (N + 2) (N + 4) [{ kind := 14 }, { kind := 15 }] :=
 (Toks.one (by rw [h.s2]; decide) (tok_brace h.s2 (.inl ⟨rfl, rfl⟩))).trans (Toks.one (by rw [h.s3]; decide) (tok_brace h.s3 (.inr ⟨rfl, rfl⟩)))
theorem HasQ.toksI : Toks l (N + 1) (N + 4) [{ kind := 1, text := nameS l (N + 1) }, { kind := 14 }, { kind := 15 }] :=
 (Toks.one (by rw [h.s1]; decide) h.ident).trans h.toksB
theorem HasQ.toksW : Toks l N (N + 4) [{ kind := 9 }, { kind := 1, text := nameS l (N + 1) }, { kind := 14 }, { kind := 15 }] :=
 (Toks.one (by rw [h.s0]; decide) h.white).trans h.toksI
theorem HasQ.escP {p : Nat} (hp : p < N) : escapedP l p ≤ N + 1 := by
 have hx : ∀ (k q : Nat) (n : Int), q ≤ N → (hexRun l k q n).1 ≤ N := by
  intro k
  induction k with
  | zero => intro q n hq; exact hq
  | succ k ih =>
   intro q n hq
   unfold hexRun
   split
   ·rename_i h5
    rcases Nat.lt_or_ge q N with h6 | h6
    ·exact ih (q + 1) _ h6
    ·obtain rfl : q = N := by omega
     rw [h.s0] at h5
     exact absurd h5 (by decide)
   ·exact hq
 unfold escapedP
 split
 ·omega
 ·have := hx 6 (p + 1) 0 (by omega)
  dsimp only
  split <;> omega
theorem HasQ.strRun (hl : l.length = N + 4) (e : Int) (he : e = 34 ∨ e = 39) : ∀ (f p : Nat) (bs : List UInt8), p ≤ N + 4 → N + 4 - p < f → (strRun l e f p bs).2 ≤ N ∨ (strRun l e f p bs).2 = N + 4
 | 0, p, bs, hp, hf => by omega
 | f + 1, p, bs, hp, hf => by
  unfold Aw.strRun
  rcases Nat.lt_or_ge p N with h1 | h1
  ·rw [if_neg (by have := see_nn (l := l) (i := p) (by omega); omega)]
   split
   ·exact .inl h1
   split
   ·exact .inl (Nat.le_of_lt h1)
   split
   ·rename_i g4
    rw [if_neg (by have := see_nn (l := l) (i := p + 1) (by omega); omega)]
    split
    ·exact HasQ.strRun hl e he f _ _ (by omega) (by omega)
    ·rename_i g6
     have e2 := escapedP_le (escape_of g4 (by have := see_nn (l := l) (i := p + 1) (by omega); omega) g6)
     have := h.escP h1
     exact HasQ.strRun hl e he f _ _ (by omega) (by omega)
   ·exact HasQ.strRun hl e he f _ _ (by omega) (by omega)
  ·rcases Nat.lt_or_ge p (N + 4) with h2 | h2
   ·have hc : see l p = 32 ∨ see l p = 113 ∨ see l p = 123 ∨ see l p = 125 := by
     have : p = N ∨ p = N + 1 ∨ p = N + 2 ∨ p = N + 3 := by omega
     rcases this with rfl | rfl | rfl | rfl
     ·exact .inl h.s0
     ·exact .inr (.inl h.s1)
     ·exact .inr (.inr (.inl h.s2))
     ·exact .inr (.inr (.inr h.s3))
    rw [if_neg (by omega), if_neg (by omega), if_neg (by omega), if_neg (by omega)]
    exact HasQ.strRun hl e he f _ _ (by omega) (by omega)
   ·have : see l p = -1 := see_none (by omega)
    rw [if_pos (by omega)]
    exact .inr (by dsimp only; omega)
end
theorem strRun_kindQ (l : List Int) (e : Int) : ∀ (f p : Nat) (bs : List UInt8), (strRun l e f p bs).1.kind ≠ 14
 | 0, p, bs => by show (0 : Int) ≠ 14; decide
 | f + 1, p, bs => by
  unfold strRun
  split
  ·show (4 : Int) ≠ 14; decide
  split
  ·show (4 : Int) ≠ 14; decide
  split
  ·show (5 : Int) ≠ 14; decide
  split
  ·split
   ·exact strRun_kindQ l e f _ _
   split
   ·exact strRun_kindQ l e f _ _
   ·exact strRun_kindQ l e f _ _
  ·exact strRun_kindQ l e f _ _
theorem commentEnd_at (l : List Int) : ∀ (f p : Nat), l.length - p < f → see l (commentEnd l f p) < 0 ∨ (see l (commentEnd l f p) = 42 ∧ see l (commentEnd l f p + 1) = 47)
 | 0, p, hf => by omega
 | f + 1, p, hf => by
  unfold commentEnd
  split
  ·rename_i h1
   refine commentEnd_at l f (p + 1) ?_
   rcases Nat.lt_or_ge p l.length with h2 | h2
   ·omega
   ·have : see l p = -1 := see_none h2
    omega
  ·omega
def EndT (l : List Int) (p : Nat) (us : List Tok) : Prop := ∀ (f : Nat) (ts : List Tok), l.length - p < f → tokRun l f p ts = ts ++ us
theorem Toks.ends {l : List Int} {p q : Nat} {us : List Tok} (h : Toks l p q us) (hq : l.length ≤ q) : EndT l p us := fun f ts hf => by
 rw [h f ts hf, tokRun, see_none hq, if_neg (by decide)]
theorem Toks.andEnd {l : List Int} {p q : Nat} {us vs : List Tok} (h : Toks l p q us) (k : EndT l q vs) : EndT l p (us ++ vs) := fun f ts hf => by
 rw [h f ts hf, k _ _ (by omega), List.append_assoc]
structure SeamQ (A : List Int) (p : Nat) (U : List Tok) : Prop where
 some : ∃ q, Toks A p q U
 next : (∃ V a b, Tail V a b ∧ ∀ B, Toks (A ++ [32, 113, 123, 125] ++ B) p (A.length + 4) (U ++ (V ++ [a, b]))) ∨ (∃ V, No14 V ∧ EndT (A ++ [32, 113, 123, 125]) p (U ++ V))
theorem see_app {A B : List Int} {i : Nat} (h : i < A.length) : see (A ++ B) i = see A i := by unfold see; rw [List.getElem?_append_left h]
theorem see_appR {A B : List Int} (i : Nat) : see (A ++ B) (A.length + i) = see B i := by unfold see; rw [List.getElem?_append_right (by omega), Nat.add_sub_cancel_left]
theorem hasQ (A B : List Int) : HasQ A.length (A ++ [32, 113, 123, 125] ++ B) := by
 have e : ∀ i, see (A ++ [32, 113, 123, 125] ++ B) (A.length + i) = see ([32, 113, 123, 125] ++ B) i := fun i => by rw [List.append_assoc]; exact see_appR i
 exact ⟨e 0, e 1, e 2, e 3, by simp⟩
theorem seamQ (A : List Int) (m : Nat) : ∀ p, A.length - p ≤ m → p ≤ A.length → ∃ U, SeamQ A p U := by
 have hX : HasQ A.length (A ++ [32, 113, 123, 125]) := by have := hasQ A []; rwa [List.append_nil] at this
 have hlX : (A ++ [32, 113, 123, 125]).length = A.length + 4 := by simp
 have c1 : CutAt A.length (A ++ [32, 113, 123, 125]) A := ⟨fun i hi => (see_app hi).symm, .inl ⟨hX.s0, see_none (Nat.le_refl _)⟩, by omega, Nat.le_refl _⟩
 have c2 : ∀ B, CutAt (A.length + 2) (A ++ [32, 113, 123, 125]) (A ++ [32, 113, 123, 125] ++ B) := fun B => ⟨fun i hi => see_app (by omega), .inr ⟨hX.s2, (hasQ A B).s2⟩, by omega, by rw [List.length_append]; omega⟩
 have last : ∃ U, SeamQ A A.length U := ⟨[], ⟨A.length, Toks.nil⟩, .inl ⟨[{ kind := 9 }, { kind := 1, text := nameS (A ++ [32, 113, 123, 125]) (A.length + 1) }], { kind := 14 }, { kind := 15 }, ⟨fun k hk => by
   rcases List.mem_cons.1 hk with rfl | hk
   ·exact neu_of (by simp)
   ·have := List.mem_singleton.1 hk
    rw [this]
    exact neu_of (by simp), rfl, rfl⟩, fun B => by
   have := (hasQ A B).toksW
   have e : nameS (A ++ [32, 113, 123, 125] ++ B) (A.length + 1) = nameS (A ++ [32, 113, 123, 125]) (A.length + 1) := ((c2 B).name (p := A.length + 1) (by omega) (by have := hX.ident; have h2 := hX.nameFrom (A.length + 3) []; unfold nameP; rw [hlX, h2]; exact Nat.le_refl _)).1
   rw [e] at this
   exact this⟩⟩
 induction m with
 | zero =>
  intro p hm hp
  obtain rfl : p = A.length := by omega
  exact last
 | succ m ih =>
  intro p hm hp
  rcases Nat.lt_or_ge p A.length with h1 | h1
  ·have s1 := see_nn h1
   have s2 := see_nn (l := A ++ [32, 113, 123, 125]) (i := p) (by omega)
   have s3 : ∀ B, 0 ≤ see (A ++ [32, 113, 123, 125] ++ B) p := fun B => see_nn (by rw [List.length_append]; omega)
   have hg := tokNext_gt s2
   rcases Nat.lt_or_ge A.length (tokNext (A ++ [32, 113, 123, 125]) p).2 with h2 | h2
   ·refine ⟨[], ⟨p, Toks.nil⟩, ?_⟩
    cases hX.cross h1 h2 with
    | white h =>
     left
     refine ⟨[{ kind := 9 }, { kind := 1, text := nameS (A ++ [32, 113, 123, 125]) (A.length + 1) }], { kind := 14 }, { kind := 15 }, ⟨fun k hk => by
      rcases List.mem_cons.1 hk with rfl | hk
      ·exact neu_of (by simp)
      ·have := List.mem_singleton.1 hk
       rw [this]
       exact neu_of (by simp), rfl, rfl⟩, fun B => ?_⟩
     have e := (c2 B).tokNext (p := p) (by omega) (by rw [h]; dsimp only; omega)
     have e2 : nameS (A ++ [32, 113, 123, 125] ++ B) (A.length + 1) = nameS (A ++ [32, 113, 123, 125]) (A.length + 1) := ((c2 B).name (p := A.length + 1) (by omega) (by have h2 := hX.nameFrom (A.length + 3) []; unfold nameP; rw [hlX, h2]; exact Nat.le_refl _)).1
     have := (Toks.one (s3 B) (e.trans h)).trans (hasQ A B).toksI
     rw [e2] at this
     exact this
    | name k hk h =>
     left
     refine ⟨[k], { kind := 14 }, { kind := 15 }, ⟨fun x hx => by rw [List.mem_singleton.1 hx]; exact hk, rfl, rfl⟩, fun B => ?_⟩
     have e := (c2 B).tokNext (p := p) (by omega) (by rw [h]; exact Nat.le_refl _)
     exact (Toks.one (s3 B) (e.trans h)).trans (hasQ A B).toksB
    | str hs e hq =>
     right
     have hend : strP (A ++ [32, 113, 123, 125]) p = A.length + 4 := by
      unfold strP at hq ⊢
      rcases hX.strRun hlX _ hs ((A ++ [32, 113, 123, 125]).length + 1) (p + 1) [] (by omega) (by omega) with g | g
      ·omega
      ·exact g
     refine ⟨[strT (A ++ [32, 113, 123, 125]) p], ⟨fun k hk => ?_⟩, ?_⟩
     ·rw [List.mem_singleton.1 hk]
      exact strRun_kindQ _ _ _ _ _
     ·rw [hend] at e
      exact (Toks.one s2 e).ends (by omega)
    | comment e hq hc =>
     right
     refine ⟨[], ⟨fun k hk => by simp at hk⟩, ?_⟩
     have hr := commentEnd_at (A ++ [32, 113, 123, 125]) ((A ++ [32, 113, 123, 125]).length + 1) (p + 2) (by omega)
     have : (A ++ [32, 113, 123, 125]).length ≤ commentEnd (A ++ [32, 113, 123, 125]) ((A ++ [32, 113, 123, 125]).length + 1) (p + 2) := by
      generalize commentEnd (A ++ [32, 113, 123, 125]) ((A ++ [32, 113, 123, 125]).length + 1) (p + 2) = r at *
      rcases Nat.lt_or_ge r (A ++ [32, 113, 123, 125]).length with h3 | h3
      ·exfalso
       have g0 := see_nn h3
       have : r + 1 = A.length ∨ r = A.length ∨ r = A.length + 1 ∨ r = A.length + 2 ∨ r = A.length + 3 := by omega
       have q0 := hX.s0
       have q1 := hX.s1
       have q2 := hX.s2
       have q3 := hX.s3
       rcases this with g | rfl | rfl | rfl | rfl
       ·rw [g, q0] at hr
        omega
       ·omega
       ·omega
       ·omega
       ·omega
      ·exact h3
     exact (Toks.one s2 e).ends (by omega)
   ·obtain ⟨U, hU, hn⟩ := ih _ (by omega) h2
    have e1 := c1.tokNext h1 h2
    have e2 : ∀ B, tokNext (A ++ [32, 113, 123, 125] ++ B) p = tokNext (A ++ [32, 113, 123, 125]) p := fun B => (c2 B).tokNext (by omega) (by omega)
    refine ⟨(tokNext (A ++ [32, 113, 123, 125]) p).1 ++ U, ?_, ?_⟩
    ·obtain ⟨q, hq⟩ := hU
     have e3 : tokNext A p = ((tokNext (A ++ [32, 113, 123, 125]) p).1, (tokNext (A ++ [32, 113, 123, 125]) p).2) := e1
     exact ⟨q, (Toks.one s1 e3).trans hq⟩
    ·rcases hn with ⟨V, a, b, hT, hB⟩ | ⟨V, hV, hE⟩
     ·refine .inl ⟨V, a, b, hT, fun B => ?_⟩
      rw [List.append_assoc (tokNext (A ++ [32, 113, 123, 125]) p).1]
      have e3 : tokNext (A ++ [32, 113, 123, 125] ++ B) p = ((tokNext (A ++ [32, 113, 123, 125]) p).1, (tokNext (A ++ [32, 113, 123, 125]) p).2) := e2 B
      exact (Toks.one (s3 B) e3).trans (hB B)
     ·refine .inr ⟨V, hV, ?_⟩
      rw [List.append_assoc]
      have e3 : tokNext (A ++ [32, 113, 123, 125]) p = ((tokNext (A ++ [32, 113, 123, 125]) p).1, (tokNext (A ++ [32, 113, 123, 125]) p).2) := rfl
      exact (Toks.one s2 e3).andEnd hE
  ·obtain rfl : p = A.length := by omega
   exact last
theorem rules_seam {n : RawV → Nat} (hn : ∀ x y : RawV, x.pre = y.pre → n x = n y) (A B : List Int)
  (hc : cntR n (rulesV (tokens (A ++ [32, 113, 123, 125]))) = cntR n (rulesV (tokens A)) + 1) :
  rulesV (tokens (A ++ [32, 113, 123, 125] ++ B)) = rulesV (tokens (A ++ [32, 113, 123, 125])) ++ rulesV (tokens B) := by
 obtain ⟨U, ⟨q, hq⟩, hn2⟩ := seamQ A _ 0 (Nat.le_refl _) (Nat.zero_le _)
 have hlX : (A ++ [32, 113, 123, 125]).length = A.length + 4 := by simp
 obtain ⟨W, hW⟩ : ∃ W, tokens A = U ++ W := by
  unfold tokens
  rw [hq _ _ (by omega), tokRun_acc]
  exact ⟨_, rfl⟩
 have hmono : cntR n (rulesV U) ≤ cntR n (rulesV (tokens A)) := by rw [hW]; exact cnt_mono hn U W _ 0 (Nat.le_refl _) (Nat.zero_le _)
 rcases hn2 with ⟨V, a, b, hT, hB⟩ | ⟨V, hV, hE⟩
 ·have eX : ∀ B, tokens (A ++ [32, 113, 123, 125] ++ B) = (U ++ (V ++ [a, b])) ++ tokens B := fun B => tokens_app (by rw [hlX]; exact hB B)
  have e0 := eX []
  rw [List.append_nil, show tokens [] = [] from rfl, List.append_nil] at e0
  rw [e0] at hc ⊢
  rw [eX B]
  refine rules_parts hn hT (W := []) ⟨fun k hk => by simp at hk⟩ ?_ (tokens B)
  rw [List.append_nil]
  omega
 ·exfalso
  have e0 : tokens (A ++ [32, 113, 123, 125]) = U ++ V := hE _ [] (by omega)
  have := cnt_no14 hn hV (U := U) _ 0 (Nat.le_refl _) (Nat.zero_le _)
  have e1 : cntR n (rulesV (U ++ V)) = cntR n (rulesV U) := this
  rw [e0, e1] at hc
  omega
end Go.Proofs.YtlhegfkpgchaeaaGreatDoor.Aw
