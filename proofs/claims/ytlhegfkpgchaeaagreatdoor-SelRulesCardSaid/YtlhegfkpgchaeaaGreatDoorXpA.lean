/- The program's reader of selectors reads what the reference's picker reads. -/
import Derived.Test.YtlhegfkpgchaeaaGreatDoorXsF
namespace Go.Proofs.YtlhegfkpgchaeaaGreatDoor.Aw
open Go Go.RowKit Go.Lib
set_option linter.unusedVariables false
set_option linter.unusedSimpArgs false
structure Same {α : Type} (s : α × Bool × Nat) (r : α × Nat × Bool) : Prop where
 ok : r.2.2 = false → s.2.1 = true ∧ s.1 = r.1 ∧ s.2.2 = r.2.1
 bad : r.2.2 = true → s.2.1 = false
theorem same_op (t : List Tok) (i : Nat) : ((rOp t i).1 = 0 ∧ (sOp t i).2.1 = false) ∨ ((rOp t i).1 ≠ 0 ∧ sOp t i = ((rOp t i).1, true, (rOp t i).2)) := by
 unfold rOp sOp
 by_cases h1 : isD t i 61 = true
 ·rw [if_pos h1, if_pos h1]; exact .inr ⟨by simp, rfl⟩
 ·rw [if_neg h1, if_neg h1]
  by_cases h2 : (tk t i).kind = 10 ∧ isD t (i + 1) 61 = true
  ·rw [if_pos h2]
   by_cases h3 : opIx (tk t i).c = 0
   ·rw [if_neg (fun h => h.2.1 h3)]; exact .inl ⟨h3, rfl⟩
   ·rw [if_pos ⟨h2.1, h3, h2.2⟩]; exact .inr ⟨h3, rfl⟩
  ·rw [if_neg h2, if_neg (fun h => h2 ⟨h.1, h.2.2⟩)]; exact .inl ⟨rfl, rfl⟩
theorem same_is {α : Type} (t : List Tok) (v : α) (j : Nat) (k : Int) : Same (v, sIs t j k) (v, j + 1, decide ((tk t j).kind ≠ k)) := by
 unfold sIs
 split
 ·exact ⟨fun _ => ⟨rfl, rfl, rfl⟩, fun h => by simp_all⟩
 ·exact ⟨fun h => by simp_all, fun _ => rfl⟩
theorem same_attr (t : List Tok) (i : Nat) : Same (sAttr t i) (rAttr t i) := by
 unfold sAttr rAttr
 by_cases h1 : (tk t (ws t i)).kind = 1
 ·have h1' : ¬ (tk t (ws t i)).kind ≠ 1 := by simpa using h1
  rw [if_neg h1', if_neg h1']
  by_cases h2 : (tk t (ws t (ws t i + 1))).kind = 19
  ·rw [if_pos h2, if_pos h2]; exact ⟨fun _ => ⟨rfl, rfl, rfl⟩, fun h => by simp at h⟩
  ·rw [if_neg h2, if_neg h2]
   rcases same_op t (ws t (ws t i + 1)) with ⟨h3, h4⟩ | ⟨h3, h4⟩
   ·rw [if_pos h4, if_pos h3]; exact ⟨fun h => by simp at h, fun _ => rfl⟩
   ·rw [h4, if_neg (by simp), if_neg h3]
    dsimp only
    split
    ·exact ⟨fun h => by simp at h, fun _ => rfl⟩
    ·exact same_is ..
 ·have h1' : (tk t (ws t i)).kind ≠ 1 := h1
  rw [if_pos h1', if_pos h1']; exact ⟨fun h => by simp at h, fun _ => rfl⟩
theorem same_nth (t : List Tok) (i : Nat) : Same (sNth t i) (rNth t i) := by
 unfold sNth rNth
 rcases rNthP (tk t (ws t i)) with ⟨p, b⟩
 cases b with
 | true => exact ⟨fun h => by simp at h, fun _ => rfl⟩
 | false =>
  simp only [Bool.false_eq_true, if_false, Bool.false_or]
  exact same_is ..
structure NestSame (b : Bool) (sn : SNest) (rn : Nest) (t : List Tok) : Prop where
 deep : b = true → ∀ i, (rn i).2.2 = true
 ok : b = false → ∀ i, i ≤ t.length → (rn i).2.2 = false → (sn i).2.1 = true ∧ (sn i).1 = (rn i).1 ∧ (rn i).2.1 = (sn i).2.2 + 1 ∧ (tk t (sn i).2.2).kind = 17
 bad : b = false → ∀ i, i ≤ t.length → (rn i).2.2 = true → (sn i).2.1 = true → (tk t (sn i).2.2).kind ≠ 17
theorem same_nested {b : Bool} {sn : SNest} {rn : Nest} {t : List Tok} (h : NestSame b sn rn t) (kind : Int) (i : Nat) (hi : i ≤ t.length) :
  Same (sNested b sn t kind i) (({ kind := kind, list := (rn i).1.map selRow } : Psd), (rn i).2.1, (rn i).2.2) := by
 unfold sNested
 cases b with
 | true =>
  rw [if_pos rfl]
  have := h.deep rfl i
  exact ⟨fun h => by simp_all, fun _ => rfl⟩
 | false =>
  rw [if_neg (by simp)]
  refine ⟨fun hb => ?_, fun hb => ?_⟩
  ·obtain ⟨h1, h2, h3, h4⟩ := h.ok rfl i hi hb
   rw [if_pos h1, sIs_of h4, h2]
   exact ⟨rfl, rfl, h3.symm⟩
  ·have := h.bad rfl i hi hb
   split
   ·rename_i hs
    rw [sIs_ne (this hs)]
   ·rfl
theorem same_pseudo {b : Bool} {sn : SNest} {rn : Nest} {t : List Tok} (h : NestSame b sn rn t) (i : Nat) (hi : i ≤ t.length) : Same (sPseudo b sn t i) (rPseudo rn t i) := by
 unfold sPseudo rPseudo
 by_cases h1 : (tk t i).kind = 1
 ·rw [if_pos h1, if_pos h1]
  unfold fiveN
  split
  ·exact ⟨fun _ => ⟨by simp; omega, rfl, rfl⟩, fun h => by simp at h⟩
  ·exact ⟨fun h => by simp at h, fun _ => by simp⟩
 rw [if_neg h1, if_neg h1]
 by_cases h2 : (tk t i).kind = 20
 ·have := tk_lt (t := t) (i := i) (by omega)
  have h2' : ¬ (tk t i).kind ≠ 20 := by simpa using h2
  rw [if_neg h2', if_neg h2']
  by_cases h3 : lower (tk t i).text = nthB
  ·rw [if_pos h3, if_pos h3]; exact same_nth ..
  rw [if_neg h3, if_neg h3]
  by_cases h4 : lower (tk t i).text = notB
  ·rw [if_pos h4, if_pos h4]; exact same_nested h 7 (i + 1) (by omega)
  rw [if_neg h4, if_neg h4]
  by_cases h5 : lower (tk t i).text = isB
  ·rw [if_pos h5, if_pos h5]; exact same_nested h 8 (i + 1) (by omega)
  rw [if_neg h5, if_neg h5]
  exact ⟨fun h => by simp at h, fun _ => rfl⟩
 ·have h2' : (tk t i).kind ≠ 20 := h2
  rw [if_pos h2', if_pos h2']; exact ⟨fun h => by simp at h, fun _ => rfl⟩
structure CmpSame (t : List Tok) (s : Cmp × Bool × Nat) (r : Cmp × Nat × Bool) : Prop where
 ok : r.2.2 = false → (s.2.1 = true ∧ s.1 = r.1 ∧ s.2.2 = r.2.1) ∨ (s.2.1 = false ∧ isD t r.2.1 46 = true)
 bad : r.2.2 = true → s.2.1 = false
theorem same_cmpRun {b : Bool} {sn : SNest} {rn : Nest} {t : List Tok} (h : NestSame b sn rn t) (hF : ∀ i, i ≤ t.length → Far t i (rn i).2.1 (rn i).2.2) : ∀ (f g i n : Nat) (c : Cmp), i ≤ t.length → t.length - i < f → t.length - i < g → CmpSame t (sCmpRun b sn t f i (decide (n ≠ 0)) c) (rCmpRun rn t g i n c)
 | 0, _, _, _, _, _, h1, _ => by omega
 | f + 1, 0, _, _, _, _, _, h2 => by omega
 | f + 1, g + 1, i, n, c, hi, h1, h2 => by
  have et : (true : Bool) = decide (n + 1 ≠ 0) := by simp
  have go : ∀ (c' : Cmp) (p : Nat), i < p → p ≤ t.length → sSimple b sn t i c = (c', true, true, p) → rCmpRun rn t (g + 1) i n c = rCmpRun rn t g p (n + 1) c' → CmpSame t (sCmpRun b sn t (f + 1) i (decide (n ≠ 0)) c) (rCmpRun rn t (g + 1) i n c) := fun c' p h3 h4 hS hR => by
   rw [sCmpRun, hS, hR]
   simp only [Bool.true_eq_false, if_false]
   rw [et]
   exact same_cmpRun h hF f g _ _ _ (by omega) (by omega) (by omega)
  have stop : ∀ (c' : Cmp) (p : Nat) (r : Cmp × Nat × Bool), sSimple b sn t i c = (c', true, false, p) → (r.2.2 = false → isD t r.2.1 46 = true) → rCmpRun rn t (g + 1) i n c = r → CmpSame t (sCmpRun b sn t (f + 1) i (decide (n ≠ 0)) c) (rCmpRun rn t (g + 1) i n c) := fun c' p r hS h3 hR => by
   rw [sCmpRun, hS, hR]
   simp only [if_true]
   exact ⟨fun h => .inr ⟨rfl, h3 h⟩, fun _ => rfl⟩
  by_cases c3 : (tk t i).kind = 3
  ·have := tk_lt (t := t) (i := i) (by omega)
   exact go _ (i + 1) (by omega) (by omega) (by rw [sSimple, if_pos c3]) (by rw [rCmpRun, if_pos c3])
  by_cases c46 : isD t i 46 = true
  ·have hlt := isD_lt c46
   by_cases c1 : (tk t (i + 1)).kind = 1
   ·have := tk_lt (t := t) (i := i + 1) (by omega)
    exact go _ (i + 2) (by omega) (by omega) (by rw [sSimple, if_neg c3, if_pos c46, sIs_of c1]) (by rw [rCmpRun, if_neg c3, if_pos ⟨c46, c1⟩])
   ·have hk := (isD_iff.1 c46).1
    have c46' : ¬ (isD t i 46 = true ∧ (tk t (i + 1)).kind = 1) := fun h => c1 h.2
    have c18 : ¬ (tk t i).kind = 18 := by omega
    have c11 : ¬ (tk t i).kind = 11 := by omega
    exact stop _ (i + 1) _ (by rw [sSimple, if_neg c3, if_pos c46, sIs_ne c1]) (fun _ => c46) (by rw [rCmpRun, if_neg c3, if_neg c46', if_neg c18, if_neg c11])
  have c46' : ¬ (isD t i 46 = true ∧ (tk t (i + 1)).kind = 1) := fun h => c46 h.1
  by_cases c18 : (tk t i).kind = 18
  ·have := tk_lt (t := t) (i := i) (by omega)
   have hs := same_attr t (i + 1)
   have hf := rAttr_far (t := t) (i := i + 1) (by omega)
   rcases hr : rAttr t (i + 1) with ⟨v, p, bad⟩
   rcases hv : sAttr t (i + 1) with ⟨v', ok, p'⟩
   simp only [hr, hv] at hs hf
   cases bad with
   | false =>
    obtain ⟨g1, g2, g3⟩ := hs.ok rfl
    have hf := hf.ok rfl
    simp only at g1 g2 g3 hf
    subst g1 g2 g3
    exact go _ p' (by omega) (by omega) (by rw [sSimple, if_neg c3, if_neg c46, if_pos c18, hv]) (by rw [rCmpRun, if_neg c3, if_neg c46', if_pos c18, hr]; rfl)
   | true =>
    have g1 := hs.bad rfl
    simp only at g1
    subst g1
    exact stop _ p' ({ c with atts := c.atts ++ [v] }, p, true) (by rw [sSimple, if_neg c3, if_neg c46, if_pos c18, hv]) (fun h => by cases h) (by rw [rCmpRun, if_neg c3, if_neg c46', if_pos c18, hr]; rfl)
  by_cases c11 : (tk t i).kind = 11
  ·have := tk_lt (t := t) (i := i) (by omega)
   have hs := same_pseudo h (i + 1) (by omega)
   have hf := rPseudo_far hF (i := i + 1) (by omega)
   rcases hr : rPseudo rn t (i + 1) with ⟨v, p, bad⟩
   rcases hv : sPseudo b sn t (i + 1) with ⟨v', ok, p'⟩
   simp only [hr, hv] at hs hf
   cases bad with
   | false =>
    obtain ⟨g1, g2, g3⟩ := hs.ok rfl
    have hf := hf.ok rfl
    simp only at g1 g2 g3 hf
    subst g1 g2 g3
    exact go _ p' (by omega) (by omega) (by rw [sSimple, if_neg c3, if_neg c46, if_neg c18, if_pos c11, hv]) (by rw [rCmpRun, if_neg c3, if_neg c46', if_neg c18, if_pos c11, hr]; rfl)
   | true =>
    have g1 := hs.bad rfl
    simp only at g1
    subst g1
    exact stop _ p' ({ c with pss := c.pss ++ [v] }, p, true) (by rw [sSimple, if_neg c3, if_neg c46, if_neg c18, if_pos c11, hv]) (fun h => by cases h) (by rw [rCmpRun, if_neg c3, if_neg c46', if_neg c18, if_pos c11, hr]; rfl)
  have hS : sSimple b sn t i c = (c, false, true, i) := by rw [sSimple, if_neg c3, if_neg c46, if_neg c18, if_neg c11]
  have hR : rCmpRun rn t (g + 1) i n c = (c, i, decide (n = 0)) := by rw [rCmpRun, if_neg c3, if_neg c46', if_neg c18, if_neg c11]
  rw [sCmpRun, hS, hR]
  simp only [Bool.true_eq_false, if_false, if_true]
  refine ⟨fun h => .inl ⟨?_, rfl, rfl⟩, fun h => ?_⟩
  ·simpa using h
  ·simpa using h
theorem same_cmp {b : Bool} {sn : SNest} {rn : Nest} {t : List Tok} (h : NestSame b sn rn t) (hF : ∀ i, i ≤ t.length → Far t i (rn i).2.1 (rn i).2.2) (i : Nat) (hi : i ≤ t.length) : CmpSame t (sCmp b sn t i) (rCmp rn t i) := by
 unfold sCmp rCmp sSign
 by_cases c1 : (tk t i).kind = 1
 ·have := tk_lt (t := t) (i := i) (by omega)
  rw [if_pos c1, if_pos c1]
  exact same_cmpRun h hF _ _ (i + 1) 1 _ (by omega) (by omega) (by omega)
 ·rw [if_neg c1, if_neg c1]
  by_cases c42 : isD t i 42 = true
  ·have := isD_lt c42
   rw [if_pos c42, if_pos c42]
   exact same_cmpRun h hF _ _ (i + 1) 1 _ (by omega) (by omega) (by omega)
  ·rw [if_neg c42, if_neg c42]
   exact same_cmpRun h hF _ _ i 0 _ (by omega) (by omega) (by omega)
structure SelSame (t : List Tok) (q : Int) (s : Selr × Bool × Nat) (r : Selr × Nat × Bool) : Prop where
 ok : r.2.2 = false → (s.2.1 = true ∧ s.1 = r.1 ∧ s.2.2 = r.2.1) ∨ (s.2.1 = false ∧ q = 0 ∧ (tk t r.2.1).kind = 17)
 bad : r.2.2 = true → s.2.1 = false
theorem ws_self {t : List Tok} {i : Nat} (h : (tk t i).kind ≠ 9) : ws t i = i := by
 unfold ws wsTo
 rw [if_neg h]
theorem cmp_end {b : Bool} {sn : SNest} {t : List Tok} {i : Nat} (h : (tk t i).kind = 17) : (sCmp b sn t i).2.1 = false := by
 have h42 : ¬ isD t i 42 = true := by simp [isD, h]
 have h46 : ¬ isD t i 46 = true := by simp [isD, h]
 have h1 : ¬ (tk t i).kind = 1 := by omega
 have h3 : ¬ (tk t i).kind = 3 := by omega
 have h18 : ¬ (tk t i).kind = 18 := by omega
 have h11 : ¬ (tk t i).kind = 11 := by omega
 have hs : sSign t i 42 = (false, i) := by rw [sSign, if_neg h42]
 have hS : ∀ c, sSimple b sn t i c = (c, false, true, i) := fun c => by rw [sSimple, if_neg h3, if_neg h46, if_neg h18, if_neg h11]
 rw [sCmp, if_neg h1, hs, sCmpRun, hS]
 rfl
theorem same_selRun {b : Bool} {sn : SNest} {rn : Nest} {t : List Tok} {q : Int} (hq : 0 ≤ q) (h : NestSame b sn rn t) (hF : ∀ i, i ≤ t.length → Far t i (rn i).2.1 (rn i).2.2) : ∀ (f g i : Nat) (cb : Int) (ps : Selr), i ≤ t.length → t.length - i < f → t.length - i < g → SelSame t q (sSelRun b sn t q f i cb ps) (rSelRun rn t g i cb ps)
 | 0, _, _, _, _, _, h1, _ => by omega
 | f + 1, 0, _, _, _, _, _, h2 => by omega
 | f + 1, g + 1, i, cb, ps, hi, h1, h2 => by
  have hc := same_cmp h hF i hi
  have hf := rCmp_far hF hi
  unfold sSelRun rSelRun
  rcases hr : rCmp rn t i with ⟨c, p, bad⟩
  rcases hs : sCmp b sn t i with ⟨c', ok, p'⟩
  simp only [hr, hs] at hc hf ⊢
  cases bad with
  | true =>
   have := hc.bad rfl
   simp only at this
   subst this
   rw [if_pos rfl, if_pos rfl]
   exact ⟨fun h => by simp at h, fun _ => rfl⟩
  | false =>
   have hok := hf.ok rfl
   have k1 := ws_le t p
   have k2 := ws_le t (ws t p + 1)
   rw [if_neg (by simp : ¬ (false = true))]
   rcases hc.ok rfl with ⟨g1, g2, g3⟩ | ⟨g1, g2⟩
   ·simp only at g1 g2 g3
    subst g1 g2 g3
    simp only [Bool.true_eq_false, if_false]
    unfold sComb
    by_cases hp : 0 < pcomb t (ws t p')
    ·have := pcomb_lt hp
     rw [if_pos hp, if_pos hp]
     simp only [Bool.true_eq_false, if_false]
     rw [if_neg (by omega)]
     exact same_selRun hq h hF f g _ _ _ (by omega) (by omega) (by omega)
    ·rw [if_neg hp, if_neg hp]
     cases he : pends t (ws t p') with
     | true =>
      simp only [if_true]
      cases hse : sEnds t (ws t p') q with
      | true =>
       simp only [if_true, Bool.true_eq_false, if_false]
       exact ⟨fun _ => .inl ⟨rfl, rfl, rfl⟩, fun h => by simp at h⟩
      | false =>
       have h17 : (tk t (ws t p')).kind = 17 ∧ q = 0 := by
        simp only [pends, sEnds, Bool.or_eq_true, decide_eq_true_eq, Bool.or_eq_false_iff, Bool.and_eq_false_imp, decide_eq_false_iff_not] at he hse
        omega
       simp only [Bool.false_eq_true, if_false]
       refine ⟨fun _ => .inr ⟨?_, h17.2, h17.1⟩, fun h => by simp at h⟩
       split
       ·rfl
       ·rw [if_neg (by omega)]
        cases f with
        | zero => rfl
        | succ f =>
         unfold sSelRun
         rw [if_pos (cmp_end h17.1)]
     | false =>
      have hse : sEnds t (ws t p') q = false := by
       simp only [pends, sEnds, Bool.or_eq_false_iff, decide_eq_false_iff_not, Bool.and_eq_false_imp, decide_eq_true_eq] at he ⊢
       refine ⟨he.1, fun h => absurd h he.2⟩
      simp only [hse, Bool.false_eq_true, if_false]
      by_cases hb : p' < ws t p'
      ·rw [if_neg (by simpa using hb), if_neg (by omega), if_neg (by simpa using hb)]
       exact same_selRun hq h hF f g _ _ _ (by omega) (by omega) (by omega)
      ·rw [if_pos (by simpa using hb), if_pos (by simpa using hb)]
       exact ⟨fun h => by simp at h, fun _ => rfl⟩
   ·simp only at g1 g2
    subst g1
    have hk := isD_iff.1 g2
    have hlt := isD_lt g2
    have hw : ws t p = p := ws_self (by omega)
    have hp : pcomb t p = 0 := by simp [pcomb, isD, hk]
    have he : pends t p = false := by simp [pends, hk]; omega
    rw [hw, hp, he, if_pos rfl, if_neg (by omega)]
    simp only [Bool.false_eq_true, if_false, Nat.lt_irrefl, not_false_eq_true, if_true]
    exact ⟨fun h => by simp at h, fun _ => rfl⟩
structure ListSame (t : List Tok) (q : Int) (s : List Selr × Bool × Nat) (r : List Selr × Nat × Bool) : Prop where
 ok : r.2.2 = false → s.2.1 = true ∧ s.1 = r.1 ∧ if q = 0 then s.2.2 = r.2.1 ∧ t.length ≤ s.2.2 else r.2.1 = s.2.2 + 1 ∧ (tk t s.2.2).kind = 17
 bad : r.2.2 = true → s.2.1 = true → if q = 0 then s.2.2 < t.length else (tk t s.2.2).kind ≠ 17
theorem same_listRun {b : Bool} {sn : SNest} {rn : Nest} {t : List Tok} {q : Int} (hq : 0 ≤ q) (h : NestSame b sn rn t) (hF : ∀ i, i ≤ t.length → Far t i (rn i).2.1 (rn i).2.2) : ∀ (f g i : Nat) (out : List Selr), i ≤ t.length → t.length - i < f → t.length - i < g → ListSame t q (sListRun b sn t q f i out) (rListRun rn t q g i out)
 | 0, _, _, _, _, h1, _ => by omega
 | f + 1, 0, _, _, _, _, h2 => by omega
 | f + 1, g + 1, i, out, hi, h1, h2 => by
  have k1 := ws_le t i
  have hc := same_selRun hq h hF (t.length + 1) (t.length + 1) (ws t i) 0 [] (by omega) (by omega) (by omega)
  have hf := rSelRun_far hF (t.length + 1) (ws t i) 0 [] (by omega)
  rw [← rSel, ← sSel] at hc
  rw [← rSel] at hf
  rcases hr : rSel rn t (ws t i) with ⟨c, p, bad⟩
  rcases hs : sSel b sn t q (ws t i) with ⟨c', ok, p'⟩
  simp only [hr, hs] at hc hf
  have hok := hf.ok
  cases bad with
  | true =>
   have := hc.bad rfl
   simp only at this
   subst this
   rw [sListRun, rListRun, hr, hs]
   simp only [if_true]
   exact ⟨fun h => by simp at h, fun _ h => by simp at h⟩
  | false =>
   have hok := hok rfl
   have hok : ws t i + 1 ≤ p ∧ p ≤ t.length := hok
   rcases hc.ok rfl with ⟨g1, g2, g3⟩ | ⟨g1, g2, g3⟩
   ·have g1 : ok = true := g1
    have g2 : c' = c := g2
    have g3 : p' = p := g3
    subst g1 g2 g3
    by_cases c13 : (tk t p').kind = 13
    ·have := tk_lt (t := t) (i := p') (by omega)
     rw [sListRun, rListRun, hr, hs]
     simp only [Bool.true_eq_false, Bool.false_eq_true, if_false]
     rw [if_pos c13, if_pos c13]
     exact same_listRun hq h hF f g _ _ (by omega) (by omega) (by omega)
    ·rw [sListRun, rListRun, hr, hs]
     simp only [Bool.true_eq_false, Bool.false_eq_true, if_false]
     rw [if_neg c13, if_neg c13]
     by_cases h0 : t.length ≤ p' ∧ q = 0
     ·rw [if_pos h0]
      exact ⟨fun _ => ⟨rfl, rfl, by rw [if_pos h0.2]; exact ⟨rfl, h0.1⟩⟩, fun h => by simp at h⟩
     ·rw [if_neg h0]
      by_cases h17 : (tk t p').kind = 17 ∧ 0 < q
      ·rw [if_pos h17]
       exact ⟨fun _ => ⟨rfl, rfl, by rw [if_neg (by omega)]; exact ⟨rfl, h17.1⟩⟩, fun h => by simp at h⟩
      ·rw [if_neg h17]
       refine ⟨fun h => by simp at h, fun _ _ => ?_⟩
       split
       ·dsimp only; omega
       ·dsimp only; omega
   ·have g1 : ok = false := g1
    have g3 : (tk t p).kind = 17 := g3
    subst g1 g2
    have c13 : ¬ (tk t p).kind = 13 := by omega
    have hlt := tk_lt (t := t) (i := p) (by omega)
    have h0 : ¬ (t.length ≤ p ∧ (0 : Int) = 0) := by omega
    have h17 : ¬ ((tk t p).kind = 17 ∧ (0 : Int) < 0) := by omega
    rw [sListRun, rListRun, hr, hs]
    rw [if_pos rfl, if_neg (by simp : ¬ (false = true)), if_neg c13, if_neg h0, if_neg h17]
    exact ⟨fun h => by simp at h, fun _ h => by simp at h⟩
theorem same_nest (t : List Tok) : ∀ (k : Nat) (q : Int), 0 ≤ q → q + k = 8 → ∀ i, i ≤ t.length → ListSame t q (sNest t (k + 1) q i) (rNest t (k + 1) q i)
 | 0, q, h0, h1, i, hi => by
  unfold sNest rNest sList rList
  refine same_listRun h0 ⟨fun _ i => by simp [rNest], fun h => ?_, fun h => ?_⟩ (rNest_far t 0 (q + 1)) _ _ _ _ hi (by omega) (by omega)
  ·simp at h; omega
  ·simp at h; omega
 | k + 1, q, h0, h1, i, hi => by
  have ih := same_nest t k (q + 1) (by omega) (by omega)
  rw [sNest, rNest, sList, rList]
  refine same_listRun h0 ⟨fun h => ?_, fun _ i hi hb => ?_, fun _ i hi hb hs => ?_⟩ (rNest_far t (k + 1) (q + 1)) _ _ _ _ hi (by omega) (by omega)
  ·simp at h; omega
  ·obtain ⟨g1, g2, g3⟩ := (ih i hi).ok hb
   rw [if_neg (by omega)] at g3
   exact ⟨g1, g2, g3⟩
  ·have := (ih i hi).bad hb hs
   rw [if_neg (by omega)] at this
   exact this
theorem parse_same (t : List Tok) : sParse t = rSelectors t := by
 have h := same_nest t 8 0 (by omega) (by omega) 0 (by omega)
 unfold sParse rSelectors
 split
 ·rfl
 ·obtain ⟨h1, h2⟩ := h
  rcases hr : rNest t 9 0 0 with ⟨l, p, bad⟩
  rcases hs : sNest t 9 0 0 with ⟨l', ok, p'⟩
  simp only [show (8 : Nat) + 1 = 9 from rfl, hr, hs, if_true] at h1 h2
  cases bad with
  | true =>
   rw [if_pos rfl, if_pos]
   cases ok with
   | false => exact .inl rfl
   | true => exact .inr (h2 rfl rfl)
  | false =>
   obtain ⟨g1, g2, g3, g4⟩ := h1 rfl
   subst g1 g2
   rw [if_neg (by simp; omega), if_neg (by simp)]
end Go.Proofs.YtlhegfkpgchaeaaGreatDoor.Aw
