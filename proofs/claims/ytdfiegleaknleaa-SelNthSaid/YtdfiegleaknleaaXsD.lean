/- The program's reader of selectors: how far it goes; simple and compound. -/
import Derived.Test.YtdfiegleaknleaaXsC
namespace Go.Proofs.Ytdfiegleaknleaa.Aw
open Go Go.RowKit Go.Lib
set_option linter.unusedVariables false
set_option linter.unusedSimpArgs false
set_option maxRecDepth 100000
structure SFar (t : List Tok) (i : Nat) (ok : Bool) (p : Nat) : Prop where
  up : p ≤ t.length + 4
  ok : ok = true → i ≤ p ∧ p ≤ t.length
theorem sIs_far {t : List Tok} {i j : Nat} {k : Int} (hk : k ≠ 0) (hj : j ≤ t.length + 3) (h : (tk t j).kind = k → i ≤ j) : SFar t i (sIs t j k).1 (sIs t j k).2 := by
  unfold sIs
  split
  · rename_i h1
    have := tk_lt (t := t) (i := j) (by omega)
    exact ⟨by dsimp only; omega, fun _ => by have := h h1; dsimp only; omega⟩
  · exact ⟨by dsimp only; omega, by simp⟩
theorem sOp_far {t : List Tok} {i : Nat} (h : (sOp t i).2.1 = true) : (sOp t i).2.2 ≤ t.length := by
  unfold sOp at h ⊢
  split
  · rename_i h1
    have := isD_lt h1
    exact this
  · split
    · rename_i h1
      have := isD_lt h1.2.2
      exact this
    · simp_all
theorem sAttr_far {t : List Tok} {i : Nat} (hi : i ≤ t.length) : SFar t i (sAttr t i).2.1 (sAttr t i).2.2 := by
  unfold sAttr
  have k1 := ws_le t i
  have k2 := ws_le t (ws t i + 1)
  have k3 := sOp_le t (ws t (ws t i + 1))
  have k4 := fun h => sOp_far (t := t) (i := ws t (ws t i + 1)) h
  generalize sOp t (ws t (ws t i + 1)) = r at k3 k4
  have k5 := ws_le t r.2.2
  have k6 := ws_le t (ws t r.2.2 + 1)
  split
  · exact ⟨by dsimp only; omega, by simp⟩
  have h1 := tk_lt (t := t) (i := ws t i) (by omega)
  split
  · have := tk_lt (t := t) (i := ws t (ws t i + 1)) (by omega)
    exact ⟨by dsimp only; omega, fun _ => by dsimp only; omega⟩
  split
  · exact ⟨by dsimp only; omega, by simp⟩
  have h3 := k4 (by simp_all)
  split
  · exact ⟨by dsimp only; omega, by simp⟩
  · exact sIs_far (by omega) (by omega) (fun _ => by omega)
theorem sNth_far {t : List Tok} {i : Nat} (hi : i ≤ t.length) : SFar t i (sNth t i).2.1 (sNth t i).2.2 := by
  unfold sNth
  have k1 := ws_le t i
  have k2 := ws_le t (ws t i + 1)
  split
  · exact ⟨by dsimp only; omega, by simp⟩
  · exact sIs_far (by omega) (by omega) (fun _ => by omega)
theorem sNested_far {b : Bool} {nest : SNest} {t : List Tok} (hU : ∀ a, a ≤ t.length → SFar t a (nest a).2.1 (nest a).2.2) {kind : Int} {i : Nat} (hi : i ≤ t.length) : SFar t i (sNested b nest t kind i).2.1 (sNested b nest t kind i).2.2 := by
  have hu := hU i hi
  unfold sNested
  split
  · exact ⟨by dsimp only; omega, by simp⟩
  split
  · rename_i h
    have := hu.ok h
    exact sIs_far (by omega) (by omega) (fun _ => by omega)
  · exact ⟨hu.up, by simp⟩
theorem sPseudo_far {b : Bool} {nest : SNest} {t : List Tok} (hU : ∀ a, a ≤ t.length → SFar t a (nest a).2.1 (nest a).2.2) {i : Nat} (hi : i ≤ t.length) : SFar t i (sPseudo b nest t i).2.1 (sPseudo b nest t i).2.2 := by
  unfold sPseudo
  split
  · have := tk_lt (t := t) (i := i) (by omega)
    exact ⟨by dsimp only; omega, fun _ => by dsimp only; omega⟩
  split
  · exact ⟨by dsimp only; omega, by simp⟩
  have := tk_lt (t := t) (i := i) (by omega)
  split
  · have := sNth_far (t := t) (i := i + 1) (by omega)
    exact ⟨this.up, fun h => by have := this.ok h; omega⟩
  split
  · have := sNested_far (b := b) hU (kind := 7) (i := i + 1) (by omega)
    exact ⟨this.up, fun h => by have := this.ok h; omega⟩
  split
  · have := sNested_far (b := b) hU (kind := 8) (i := i + 1) (by omega)
    exact ⟨this.up, fun h => by have := this.ok h; omega⟩
  · exact ⟨by dsimp only; omega, by simp⟩
def sSimple (b : Bool) (nest : SNest) (t : List Tok) (i : Nat) (c : Cmp) : Cmp × Bool × Bool × Nat :=
  if (tk t i).kind = 3 then ({ c with ids := c.ids ++ [(tk t i).text] }, true, true, i + 1)
  else if isD t i 46 = true then ({ c with cls := c.cls ++ [(tk t (i + 1)).text] }, true, sIs t (i + 1) 1)
  else if (tk t i).kind = 18 then ({ c with atts := c.atts ++ [(sAttr t (i + 1)).1] }, true, (sAttr t (i + 1)).2)
  else if (tk t i).kind = 11 then ({ c with pss := c.pss ++ [(sPseudo b nest t (i + 1)).1] }, true, (sPseudo b nest t (i + 1)).2)
  else (c, false, true, i)
theorem sSimple_far {b : Bool} {nest : SNest} {t : List Tok} (hU : ∀ a, a ≤ t.length → SFar t a (nest a).2.1 (nest a).2.2) {i : Nat} (hi : i ≤ t.length) (c : Cmp) :
    SFar t i (sSimple b nest t i c).2.2.1 (sSimple b nest t i c).2.2.2 ∧ ((sSimple b nest t i c).2.1 = true → (sSimple b nest t i c).2.2.1 = true → i < (sSimple b nest t i c).2.2.2) := by
  unfold sSimple
  split
  · have := tk_lt (t := t) (i := i) (by omega)
    exact ⟨⟨by dsimp only; omega, fun _ => by dsimp only; omega⟩, fun _ _ => by dsimp only; omega⟩
  split
  · rename_i h
    have := isD_lt h
    have := sIs_far (t := t) (i := i + 1) (j := i + 1) (k := 1) (by omega) (by omega) (fun _ => Nat.le_refl _)
    exact ⟨⟨this.up, fun h => by have := this.ok h; dsimp only; omega⟩, fun _ h => by have := this.ok h; dsimp only; omega⟩
  split
  · have := tk_lt (t := t) (i := i) (by omega)
    have := sAttr_far (t := t) (i := i + 1) (by omega)
    exact ⟨⟨this.up, fun h => by have := this.ok h; dsimp only; omega⟩, fun _ h => by have := this.ok h; dsimp only; omega⟩
  split
  · have := tk_lt (t := t) (i := i) (by omega)
    have := sPseudo_far (b := b) hU (i := i + 1) (by omega)
    exact ⟨⟨this.up, fun h => by have := this.ok h; dsimp only; omega⟩, fun _ h => by have := this.ok h; dsimp only; omega⟩
  · exact ⟨⟨by dsimp only; omega, fun _ => by dsimp only; omega⟩, fun h => by simp at h⟩
def sCmpRun (b : Bool) (nest : SNest) (t : List Tok) : Nat → Nat → Bool → Cmp → Cmp × Bool × Nat
  | 0, i, s, c => ({}, false, i)
  | f + 1, i, s, c =>
    if (sSimple b nest t i c).2.2.1 = false then ({}, false, (sSimple b nest t i c).2.2.2)
    else if (sSimple b nest t i c).2.1 = false then ((sSimple b nest t i c).1, s, (sSimple b nest t i c).2.2.2)
    else sCmpRun b nest t f (sSimple b nest t i c).2.2.2 true (sSimple b nest t i c).1
def sCmp (b : Bool) (nest : SNest) (t : List Tok) (i : Nat) : Cmp × Bool × Nat :=
  if (tk t i).kind = 1 then sCmpRun b nest t (t.length + 2) (i + 1) true { tag := lower (tk t i).text }
  else sCmpRun b nest t (t.length + 2) (sSign t i 42).2 (sSign t i 42).1 {}
theorem sCmpRun_fuel {b : Bool} {nest : SNest} {t : List Tok} (hU : ∀ a, a ≤ t.length → SFar t a (nest a).2.1 (nest a).2.2) : ∀ (f g i : Nat) (s : Bool) (c : Cmp), i ≤ t.length → t.length - i < f → t.length - i < g → sCmpRun b nest t f i s c = sCmpRun b nest t g i s c
  | 0, _, _, _, _, _, h, _ => by omega
  | f + 1, 0, _, _, _, _, _, h => by omega
  | f + 1, g + 1, i, s, c, hi, h1, h2 => by
    obtain ⟨hs1, hs2⟩ := sSimple_far (b := b) hU hi c
    unfold sCmpRun
    split
    · rfl
    split
    · rfl
    · rename_i g1 g2
      have := hs2 (by simpa using g2) (by simpa using g1)
      have := hs1.ok (by simpa using g1)
      exact sCmpRun_fuel hU f g _ _ _ (by omega) (by omega) (by omega)
theorem sCmpRun_far {b : Bool} {nest : SNest} {t : List Tok} (hU : ∀ a, a ≤ t.length → SFar t a (nest a).2.1 (nest a).2.2) : ∀ (f i : Nat) (s : Bool) (c : Cmp), i ≤ t.length → SFar t i (sCmpRun b nest t f i s c).2.1 (sCmpRun b nest t f i s c).2.2 ∧ ((sCmpRun b nest t f i s c).2.1 = true → s = false → i < (sCmpRun b nest t f i s c).2.2)
  | 0, i, s, c, hi => ⟨⟨by unfold sCmpRun; dsimp only; omega, by simp [sCmpRun]⟩, by simp [sCmpRun]⟩
  | f + 1, i, s, c, hi => by
    obtain ⟨hs1, hs2⟩ := sSimple_far (b := b) hU hi c
    unfold sCmpRun
    split
    · exact ⟨⟨hs1.up, by simp⟩, by simp⟩
    rename_i g1
    have h3 := hs1.ok (by simpa using g1)
    split
    · exact ⟨⟨hs1.up, fun _ => h3⟩, fun h h' => by simp [h'] at h⟩
    · rename_i g2
      have := hs2 (by simpa using g2) (by simpa using g1)
      obtain ⟨k1, k2⟩ := sCmpRun_far hU f (sSimple b nest t i c).2.2.2 true (sSimple b nest t i c).1 h3.2
      exact ⟨⟨k1.up, fun h => by have := k1.ok h; omega⟩, fun h _ => by have := k1.ok h; omega⟩
theorem sCmp_far {b : Bool} {nest : SNest} {t : List Tok} (hU : ∀ a, a ≤ t.length → SFar t a (nest a).2.1 (nest a).2.2) {i : Nat} (hi : i ≤ t.length) : SFar t (i + 1) (sCmp b nest t i).2.1 (sCmp b nest t i).2.2 := by
  unfold sCmp
  split
  · have := tk_lt (t := t) (i := i) (by omega)
    exact (sCmpRun_far hU _ _ _ _ (by omega)).1
  · unfold sSign
    split
    · rename_i h
      have := isD_lt h
      exact (sCmpRun_far hU _ _ _ _ (by omega)).1
    · obtain ⟨k1, k2⟩ := sCmpRun_far (b := b) hU (t.length + 2) i false {} hi
      exact ⟨k1.up, fun h => by have := k1.ok h; have := k2 h rfl; dsimp only at *; omega⟩
end Go.Proofs.Ytdfiegleaknleaa.Aw
