/- The picker's compounds, selectors, lists, as plain functions; how far they go. -/
import Derived.Test.YtdfiegleaknleaaXrO
namespace Go.Proofs.Ytdfiegleaknleaa.Aw
open Go Go.RowKit Go.Lib
set_option linter.unusedVariables false
set_option linter.unusedSimpArgs false
structure Cmp where
  tag : List UInt8 := []
  ids : List (List UInt8) := []
  cls : List (List UInt8) := []
  atts : List Att := []
  pss : List Psd := []
abbrev Cmp.fs (c : Cmp) : List F := [Aw.fs c.tag, .sl (strs c.ids), .sl (strs c.cls), .sl (c.atts.map Att.row), .sl (c.pss.map Psd.row)]
abbrev Cmp.d (c : Cmp) : D := .agg [.str ⟨c.tag.toArray⟩, .f (.sl (strs c.ids)), .f (.sl (strs c.cls)), .f (.sl (c.atts.map Att.row)), .f (.sl (c.pss.map Psd.row))]
/-- A part: what stands ahead of it, and the compound. -/
def partRow (p : Int × Cmp) : List F := fi p.1 :: p.2.fs
abbrev Selr := List (Int × Cmp)
def selRow (s : Selr) : List F := [.sl (s.map partRow)]
def fiveW : List (List UInt8) := [[114, 111, 111, 116], [102, 105, 114, 115, 116, 45, 99, 104, 105, 108, 100], [108, 97, 115, 116, 45, 99, 104, 105, 108, 100], [111, 110, 108, 121, 45, 99, 104, 105, 108, 100], [101, 109, 112, 116, 121]]
def nthB : List UInt8 := [110, 116, 104, 45, 99, 104, 105, 108, 100]
def notB : List UInt8 := [110, 111, 116]
def isB : List UInt8 := [105, 115]
abbrev Nest := Nat → List Selr × Nat × Bool
def rPseudo (nest : Nest) (t : List Tok) (i : Nat) : Psd × Nat × Bool :=
  if (tk t i).kind = 1 then (if (wordV (lower (tk t i).text) fiveW).2 = true then ({ kind := 1 + (wordV (lower (tk t i).text) fiveW).1 }, i + 1, false) else ({}, i + 1, true))
  else if (tk t i).kind ≠ 20 then ({}, i + 1, true)
  else if lower (tk t i).text = nthB then rNth t (i + 1)
  else if lower (tk t i).text = notB then ({ kind := 7, list := (nest (i + 1)).1.map selRow }, (nest (i + 1)).2.1, (nest (i + 1)).2.2)
  else if lower (tk t i).text = isB then ({ kind := 8, list := (nest (i + 1)).1.map selRow }, (nest (i + 1)).2.1, (nest (i + 1)).2.2)
  else ({}, i + 1, true)
def rCmpRun (nest : Nest) (t : List Tok) : Nat → Nat → Nat → Cmp → Cmp × Nat × Bool
  | 0, i, n, c => (c, i, true)
  | f + 1, i, n, c =>
    if (tk t i).kind = 3 then rCmpRun nest t f (i + 1) (n + 1) { c with ids := c.ids ++ [(tk t i).text] }
    else if isD t i 46 = true ∧ (tk t (i + 1)).kind = 1 then rCmpRun nest t f (i + 2) (n + 1) { c with cls := c.cls ++ [(tk t (i + 1)).text] }
    else if (tk t i).kind = 18 then
      (if (rAttr t (i + 1)).2.2 = true then ({ c with atts := c.atts ++ [(rAttr t (i + 1)).1] }, (rAttr t (i + 1)).2.1, true)
       else rCmpRun nest t f (rAttr t (i + 1)).2.1 (n + 1) { c with atts := c.atts ++ [(rAttr t (i + 1)).1] })
    else if (tk t i).kind = 11 then
      (if (rPseudo nest t (i + 1)).2.2 = true then ({ c with pss := c.pss ++ [(rPseudo nest t (i + 1)).1] }, (rPseudo nest t (i + 1)).2.1, true)
       else rCmpRun nest t f (rPseudo nest t (i + 1)).2.1 (n + 1) { c with pss := c.pss ++ [(rPseudo nest t (i + 1)).1] })
    else (c, i, decide (n = 0))
def rCmp (nest : Nest) (t : List Tok) (i : Nat) : Cmp × Nat × Bool :=
  if (tk t i).kind = 1 then rCmpRun nest t (t.length + 1) (i + 1) 1 { tag := lower (tk t i).text }
  else if isD t i 42 = true then rCmpRun nest t (t.length + 1) (i + 1) 1 {}
  else rCmpRun nest t (t.length + 1) i 0 {}
def rSelRun (nest : Nest) (t : List Tok) : Nat → Nat → Int → Selr → Selr × Nat × Bool
  | 0, i, cb, ps => (ps, i, true)
  | f + 1, i, cb, ps =>
    if (rCmp nest t i).2.2 = true then (ps ++ [(cb, (rCmp nest t i).1)], (rCmp nest t i).2.1, true)
    else if 0 < pcomb t (ws t (rCmp nest t i).2.1) then rSelRun nest t f (ws t (ws t (rCmp nest t i).2.1 + 1)) (pcomb t (ws t (rCmp nest t i).2.1)) (ps ++ [(cb, (rCmp nest t i).1)])
    else if pends t (ws t (rCmp nest t i).2.1) = true then (ps ++ [(cb, (rCmp nest t i).1)], ws t (rCmp nest t i).2.1, false)
    else if ¬ (rCmp nest t i).2.1 < ws t (rCmp nest t i).2.1 then (ps ++ [(cb, (rCmp nest t i).1)], ws t (rCmp nest t i).2.1, true)
    else rSelRun nest t f (ws t (rCmp nest t i).2.1) 1 (ps ++ [(cb, (rCmp nest t i).1)])
def rSel (nest : Nest) (t : List Tok) (i : Nat) : Selr × Nat × Bool := rSelRun nest t (t.length + 1) i 0 []
def rListRun (nest : Nest) (t : List Tok) (q : Int) : Nat → Nat → List Selr → List Selr × Nat × Bool
  | 0, i, out => ([], i, true)
  | f + 1, i, out =>
    if (rSel nest t (ws t i)).2.2 = true then ([], (rSel nest t (ws t i)).2.1, true)
    else if (tk t (rSel nest t (ws t i)).2.1).kind = 13 then rListRun nest t q f ((rSel nest t (ws t i)).2.1 + 1) (out ++ [(rSel nest t (ws t i)).1])
    else if t.length ≤ (rSel nest t (ws t i)).2.1 ∧ q = 0 then (out ++ [(rSel nest t (ws t i)).1], (rSel nest t (ws t i)).2.1, false)
    else if (tk t (rSel nest t (ws t i)).2.1).kind = 17 ∧ 0 < q then (out ++ [(rSel nest t (ws t i)).1], (rSel nest t (ws t i)).2.1 + 1, false)
    else ([], (rSel nest t (ws t i)).2.1, true)
def rList (nest : Nest) (t : List Tok) (q : Int) (i : Nat) : List Selr × Nat × Bool := rListRun nest t q (t.length + 1) i []
/-- Lists of one depth, out of those one deeper. -/
def rNest (t : List Tok) : Nat → Int → Nest
  | 0, q, i => ([], i, true)
  | k + 1, q, i => rList (rNest t k (q + 1)) t q i
/-- How far: never much beyond the end, and forward if all is well. -/
structure Far (t : List Tok) (i : Nat) (p : Nat) (b : Bool) : Prop where
  up : p ≤ t.length + 4
  ok : b = false → i ≤ p ∧ p ≤ t.length
theorem rOp_far {t : List Tok} {i : Nat} (hi : i ≤ t.length) : i ≤ (rOp t i).2 ∧ (rOp t i).2 ≤ t.length + 1 := by
  unfold rOp
  split
  · rename_i h
    have := isD_lt h
    exact ⟨by dsimp only; omega, by dsimp only; omega⟩
  · split
    · rename_i h
      have := isD_lt h.2
      exact ⟨by dsimp only; omega, by dsimp only; omega⟩
    · exact ⟨by dsimp only; omega, by dsimp only; omega⟩
theorem rAttr_far {t : List Tok} {i : Nat} (hi : i ≤ t.length) : Far t i (rAttr t i).2.1 (rAttr t i).2.2 := by
  unfold rAttr
  have k1 := ws_le t i
  have k2 := ws_le t (ws t i + 1)
  have k3 := fun h => rOp_far (t := t) (i := ws t (ws t i + 1)) h
  generalize rOp t (ws t (ws t i + 1)) = r at k3
  have k4 := ws_le t r.2
  have k5 := ws_le t (ws t r.2 + 1)
  split
  · exact ⟨by dsimp only; omega, by simp⟩
  · rename_i h1
    have := tk_lt (t := t) (i := ws t i) (by omega)
    split
    · rename_i h2
      have := tk_lt (t := t) (i := ws t (ws t i + 1)) (by omega)
      exact ⟨by dsimp only; omega, fun _ => by dsimp only; omega⟩
    · have k3 := k3 (by omega)
      split
      · exact ⟨by dsimp only; omega, by simp⟩
      · split
        · exact ⟨by dsimp only; omega, by simp⟩
        · rename_i h4
          have := tk_lt (t := t) (i := ws t r.2) (by omega)
          refine ⟨by dsimp only; omega, fun h => ?_⟩
          simp only [decide_eq_false_iff_not, ne_eq, Decidable.not_not] at h
          have := tk_lt (t := t) (i := ws t (ws t r.2 + 1)) (by omega)
          dsimp only
          omega
theorem rNth_far {t : List Tok} {i : Nat} (hi : i ≤ t.length) : Far t i (rNth t i).2.1 (rNth t i).2.2 := by
  unfold rNth
  have k1 := ws_le t i
  have k2 := ws_le t (ws t i + 1)
  refine ⟨by dsimp only; omega, fun h => ?_⟩
  simp only [Bool.or_eq_false_iff, decide_eq_false_iff_not, ne_eq, Decidable.not_not] at h
  have := tk_lt (t := t) (i := ws t (ws t i + 1)) (by omega)
  dsimp only
  omega
theorem rPseudo_far {nest : Nest} {t : List Tok} (hN : ∀ i, i ≤ t.length → Far t i (nest i).2.1 (nest i).2.2) {i : Nat} (hi : i ≤ t.length) : Far t i (rPseudo nest t i).2.1 (rPseudo nest t i).2.2 := by
  unfold rPseudo
  have hl : ∀ {k : Int}, k ≠ 0 → (tk t i).kind = k → i < t.length := fun hk h => tk_lt (by omega)
  split
  · rename_i h
    have := hl (by omega) h
    split
    · exact ⟨by dsimp only; omega, fun _ => by dsimp only; omega⟩
    · exact ⟨by dsimp only; omega, by simp⟩
  split
  · exact ⟨by dsimp only; omega, by simp⟩
  rename_i h
  have hlt := hl (k := 20) (by omega) (by omega)
  split
  · have := rNth_far (t := t) (i := i + 1) (by omega)
    exact ⟨this.up, fun h => by have := this.ok h; omega⟩
  split
  · have := hN (i + 1) (by omega)
    exact ⟨this.up, fun h => by have := this.ok h; dsimp only; omega⟩
  split
  · have := hN (i + 1) (by omega)
    exact ⟨this.up, fun h => by have := this.ok h; dsimp only; omega⟩
  · exact ⟨by dsimp only; omega, by simp⟩
theorem rCmpRun_far {nest : Nest} {t : List Tok} (hN : ∀ i, i ≤ t.length → Far t i (nest i).2.1 (nest i).2.2) : ∀ (f i n : Nat) (c : Cmp), i ≤ t.length → Far t i (rCmpRun nest t f i n c).2.1 (rCmpRun nest t f i n c).2.2 ∧ ((rCmpRun nest t f i n c).2.2 = false → n = 0 → i < (rCmpRun nest t f i n c).2.1)
  | 0, i, n, c, hi => ⟨⟨by unfold rCmpRun; dsimp only; omega, by simp [rCmpRun]⟩, by simp [rCmpRun]⟩
  | f + 1, i, n, c, hi => by
    have hl : ∀ {k : Int}, k ≠ 0 → (tk t i).kind = k → i < t.length := fun hk h => tk_lt (by omega)
    unfold rCmpRun
    split
    · rename_i h
      have := hl (by omega) h
      obtain ⟨g1, g2⟩ := rCmpRun_far hN f (i + 1) (n + 1) { c with ids := c.ids ++ [(tk t i).text] } (by omega)
      exact ⟨⟨g1.up, fun h => by have := g1.ok h; omega⟩, fun h _ => by have := g1.ok h; omega⟩
    split
    · rename_i h
      have := tk_lt (t := t) (i := i + 1) (by omega)
      obtain ⟨g1, g2⟩ := rCmpRun_far hN f (i + 2) (n + 1) { c with cls := c.cls ++ [(tk t (i + 1)).text] } (by omega)
      exact ⟨⟨g1.up, fun h => by have := g1.ok h; omega⟩, fun h _ => by have := g1.ok h; omega⟩
    split
    · rename_i h
      have := hl (by omega) h
      have ha := rAttr_far (t := t) (i := i + 1) (by omega)
      split
      · exact ⟨⟨ha.up, by simp⟩, by simp⟩
      · rename_i hb
        have hb := ha.ok (by simpa using hb)
        obtain ⟨g1, g2⟩ := rCmpRun_far hN f (rAttr t (i + 1)).2.1 (n + 1) { c with atts := c.atts ++ [(rAttr t (i + 1)).1] } (by omega)
        exact ⟨⟨g1.up, fun h => by have := g1.ok h; omega⟩, fun h _ => by have := g1.ok h; omega⟩
    split
    · rename_i h
      have := hl (by omega) h
      have ha := rPseudo_far hN (t := t) (i := i + 1) (by omega)
      split
      · exact ⟨⟨ha.up, by simp⟩, by simp⟩
      · rename_i hb
        have hb := ha.ok (by simpa using hb)
        obtain ⟨g1, g2⟩ := rCmpRun_far hN f (rPseudo nest t (i + 1)).2.1 (n + 1) { c with pss := c.pss ++ [(rPseudo nest t (i + 1)).1] } (by omega)
        exact ⟨⟨g1.up, fun h => by have := g1.ok h; omega⟩, fun h _ => by have := g1.ok h; omega⟩
    · refine ⟨⟨by dsimp only; omega, fun _ => by dsimp only; omega⟩, fun h hn => ?_⟩
      simp [hn] at h
theorem rCmp_far {nest : Nest} {t : List Tok} (hN : ∀ i, i ≤ t.length → Far t i (nest i).2.1 (nest i).2.2) {i : Nat} (hi : i ≤ t.length) : Far t (i + 1) (rCmp nest t i).2.1 (rCmp nest t i).2.2 := by
  unfold rCmp
  split
  · have := tk_lt (t := t) (i := i) (by omega)
    exact (rCmpRun_far hN _ _ _ _ (by omega)).1
  split
  · rename_i h
    have := isD_lt h
    exact (rCmpRun_far hN _ _ _ _ (by omega)).1
  · obtain ⟨g1, g2⟩ := rCmpRun_far hN (t.length + 1) i 0 {} hi
    exact ⟨g1.up, fun h => by have := g1.ok h; have := g2 h rfl; omega⟩
theorem pcomb_lt {t : List Tok} {i : Nat} (h : 0 < pcomb t i) : i < t.length := by
  unfold pcomb at h
  split at h
  · exact isD_lt (by assumption)
  split at h
  · exact isD_lt (by assumption)
  split at h
  · exact isD_lt (by assumption)
  · omega
theorem rSelRun_far {nest : Nest} {t : List Tok} (hN : ∀ i, i ≤ t.length → Far t i (nest i).2.1 (nest i).2.2) : ∀ (f i : Nat) (cb : Int) (ps : Selr), i ≤ t.length → Far t (i + 1) (rSelRun nest t f i cb ps).2.1 (rSelRun nest t f i cb ps).2.2
  | 0, i, cb, ps, hi => ⟨by unfold rSelRun; dsimp only; omega, by simp [rSelRun]⟩
  | f + 1, i, cb, ps, hi => by
    have hc := rCmp_far hN hi
    have k1 := ws_le t (rCmp nest t i).2.1
    have k2 := ws_le t (ws t (rCmp nest t i).2.1 + 1)
    unfold rSelRun
    split
    · exact ⟨hc.up, by simp⟩
    rename_i hb
    have hb := hc.ok (by simpa using hb)
    split
    · rename_i h
      have := pcomb_lt h
      have g := rSelRun_far hN f (ws t (ws t (rCmp nest t i).2.1 + 1)) (pcomb t (ws t (rCmp nest t i).2.1)) (ps ++ [(cb, (rCmp nest t i).1)]) (by omega)
      exact ⟨g.up, fun h => by have := g.ok h; omega⟩
    split
    · exact ⟨by dsimp only; omega, fun _ => by dsimp only; omega⟩
    split
    · exact ⟨by dsimp only; omega, by simp⟩
    · have g := rSelRun_far hN f (ws t (rCmp nest t i).2.1) 1 (ps ++ [(cb, (rCmp nest t i).1)]) (by omega)
      exact ⟨g.up, fun h => by have := g.ok h; omega⟩
theorem rListRun_far {nest : Nest} {t : List Tok} (hN : ∀ i, i ≤ t.length → Far t i (nest i).2.1 (nest i).2.2) (q : Int) : ∀ (f i : Nat) (out : List Selr), i ≤ t.length → Far t (i + 1) (rListRun nest t q f i out).2.1 (rListRun nest t q f i out).2.2
  | 0, i, out, hi => ⟨by unfold rListRun; dsimp only; omega, by simp [rListRun]⟩
  | f + 1, i, out, hi => by
    have k1 := ws_le t i
    have hc := rSelRun_far hN (t.length + 1) (ws t i) 0 [] (by omega)
    rw [← rSel] at hc
    unfold rListRun
    split
    · exact ⟨hc.up, by simp⟩
    rename_i hb
    have hb := hc.ok (by simpa using hb)
    split
    · have := tk_lt (t := t) (i := (rSel nest t (ws t i)).2.1) (by omega)
      have g := rListRun_far hN q f ((rSel nest t (ws t i)).2.1 + 1) (out ++ [(rSel nest t (ws t i)).1]) (by omega)
      exact ⟨g.up, fun h => by have := g.ok h; omega⟩
    split
    · exact ⟨by dsimp only; omega, fun _ => by dsimp only; omega⟩
    split
    · have := tk_lt (t := t) (i := (rSel nest t (ws t i)).2.1) (by omega)
      exact ⟨by dsimp only; omega, fun _ => by dsimp only; omega⟩
    · exact ⟨by dsimp only; omega, by simp⟩
theorem rNest_far (t : List Tok) : ∀ (k : Nat) (q : Int) (i : Nat), i ≤ t.length → Far t i (rNest t k q i).2.1 (rNest t k q i).2.2
  | 0, q, i, hi => ⟨by unfold rNest; dsimp only; omega, by simp [rNest]⟩
  | k + 1, q, i, hi => by
    have := rListRun_far (rNest_far t k (q + 1)) q (t.length + 1) i [] hi
    unfold rNest rList
    exact ⟨this.up, fun h => by have := this.ok h; omega⟩
end Go.Proofs.Ytdfiegleaknleaa.Aw
