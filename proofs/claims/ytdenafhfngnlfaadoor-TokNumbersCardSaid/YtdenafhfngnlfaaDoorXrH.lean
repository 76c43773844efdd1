/- The reference's reader: names. -/
/- The reference's Num. -/
/- The reference's numeric. -/
/- The reference's str. -/
import Derived.Test.YtdenafhfngnlfaaDoorXrD
namespace Go.Proofs.YtdenafhfngnlfaaDoor.Aw
open Go Go.RowKit Go.Lib
set_option linter.unusedVariables false
set_option linter.unusedSimpArgs false
set_option maxRecDepth 100000
/-! Calls by shape. -/
def killsK (l : List Nat) : List D → (List D → Prop) → Prop
  | [], K => K []
  | d :: ds, K => force (D.kills l d) fun d => killsK l ds fun r => K (d :: r)
theorem killsK_eq (l : List Nat) : ∀ (ds : List D) (K : List D → Prop), killsK l ds K = K (killsL l ds)
  | [], _ => rfl
  | d :: ds, K => by unfold killsK; rw [force_eq, killsK_eq l ds]; rfl
def killsHK (l : List Nat) : Hp → (Hp → Prop) → Prop
  | [], K => K []
  | none :: h, K => killsHK l h fun r => K (none :: r)
  | some cs :: h, K => killsK l cs fun cs => killsHK l h fun r => K (some cs :: r)
theorem killsHK_eq (l : List Nat) : ∀ (H : Hp) (K : Hp → Prop), killsHK l H K = K (killsH l H)
  | [], _ => rfl
  | none :: h, K => by unfold killsHK; rw [killsHK_eq l h]; rfl
  | some cs :: h, K => by unfold killsHK; rw [killsK_eq, killsHK_eq l h]; rfl
mutual
theorem kills_nil : ∀ d : D, d.kills [] = d
  | .own _ _ _ _ => by simp [D.kills, memB]
  | .optr _ _ _ _ _ _ => by simp [D.kills, memB]
  | .agg cs => by simp [D.kills, killsL_nil cs]
  | .tup cs => by simp [D.kills, killsL_nil cs]
  | .fn _ cs => by simp [D.kills, killsL_nil cs]
  | .yl _ _ _ cs => by simp [D.kills, killsL_nil cs]
  | .junk => by simp [D.kills]
  | .f _ => by simp [D.kills]
  | .nil => by simp [D.kills]
  | .ptr _ _ => by simp [D.kills]
  | .ip _ => by simp [D.kills]
theorem killsL_nil : ∀ ds : List D, killsL [] ds = ds
  | [] => rfl
  | d :: ds => by simp [killsL, kills_nil d, killsL_nil ds]
end
theorem killsH_nil : ∀ H : Hp, killsH [] H = H
  | [] => rfl
  | none :: h => by simp [killsH, killsH_nil h]
  | some cs :: h => by simp [killsH, killsL_nil, killsH_nil h]
mutual
theorem ren_scal (ρ σ : List Nat) : ∀ d : D, scalD d → d.ren ρ σ = d
  | .f (.v x), _ => by simp [D.ren]
  | .nil, _ => by simp [D.ren]
  | .junk, _ => by simp [D.ren]
  | .agg cs, hs => by unfold scalD at hs; simp [D.ren, renL_scal ρ σ cs hs]
  | .tup cs, hs => by unfold scalD at hs; simp [D.ren, renL_scal ρ σ cs hs]
  | .f (.sl _), hs => hs.elim
  | .own _ _ _ _, hs => hs.elim
  | .optr _ _ _ _ _ _, hs => hs.elim
  | .ptr _ _, hs => hs.elim
  | .ip _, hs => hs.elim
  | .fn _ _, hs => hs.elim
  | .yl _ _ _ _, hs => hs.elim
theorem renL_scal (ρ σ : List Nat) : ∀ ds : List D, scalL ds → renL ρ σ ds = ds
  | [], _ => rfl
  | d :: ds, hs => by unfold scalL at hs; simp [renL, ren_scal ρ σ d hs.1, renL_scal ρ σ ds hs.2]
end
/-- A method of the reader. -/
def Meth (g : FuncId) (l : List Int) (a : Nat) (V : D) (p : Nat) : Prop := scalD V ∧ Spec P g [.ptr 0 0] [some (rdr l a)] 0 (fun d H => d = V ∧ H = [some (rdr l p)])
theorem Meth.call {g : FuncId} {l : List Int} {a p : Nat} {V : D} {E : List D} {H : Hp} {n : Nat} {K : KD} (h : Meth g l a V p) (k : K V E (some (rdr l p) :: H) n) : Call P g [.ptr 0 0] E (some (rdr l a) :: H) n K := by
  refine call_gen («as» := [.ptr 0 0]) [0] [] h.2 (by simp) (by simp) (by simp) (by simp) ?_ ?_ ?_
  · unfold fitH fitH; exact ⟨⟨rfl, ⟨trivial, trivial, trivial⟩⟩, trivial⟩
  · exact ⟨Nat.zero_lt_one, trivial⟩
  · rintro d Hs' ⟨rfl, rfl⟩ _
    rw [ren_scal _ _ _ h.1, killsL_nil, killsH_nil]
    exact k
theorem put_call {bs : List UInt8} {c : Int} {E : List D} {H : Hp} {K : KD} (hb : bs.length < 1000000000) (k : killsK [0] E fun E => killsHK [0] H fun H => K (.own 0 5 1 ((bs ++ putB c).map byteRow)) E H 1) : Call P 19 [.own 0 5 1 (bs.map byteRow), int c] E H 1 K := by
  rw [killsK_eq, killsHK_eq] at k
  refine call_gen («as» := [.own 0 5 1 (bs.map byteRow), int c]) [] [0] (put_spec bs hb c) (by simp) (by simp) (by simp) (by simp) trivial ⟨Nat.zero_lt_one, trivial, trivial⟩ ?_
  rintro d Hs' ⟨rfl, rfl⟩ _
  exact k
theorem hexRun_ge (l : List Int) : ∀ (k p : Nat) (n : Int), p ≤ (hexRun l k p n).1 ∧ ((hexRun l k p n).1 = p ∨ (hexRun l k p n).1 ≤ l.length)
  | 0, p, n => ⟨Nat.le_refl _, .inl rfl⟩
  | k + 1, p, n => by
    unfold hexRun
    split
    · rename_i h
      obtain ⟨h1, h2⟩ := hexRun_ge l k (p + 1) (n * 16 + hex (see l p))
      have := hex_see h
      refine ⟨by omega, .inr ?_⟩
      rcases h2 with h2 | h2 <;> omega
    · exact ⟨Nat.le_refl _, .inl rfl⟩
theorem escape_lt {l : List Int} {a : Nat} (h : escape l a = true) : a + 1 < l.length := by
  simp only [escape, Bool.and_eq_true, decide_eq_true_eq] at h
  exact see_lt h.1.2
theorem escapedP_le {l : List Int} {a : Nat} (h : escape l a = true) : a < escapedP l a ∧ escapedP l a ≤ l.length := by
  have h1 := escape_lt h
  unfold escapedP
  split
  · omega
  · obtain ⟨h2, h3⟩ := hexRun_ge l 6 (a + 1) 0
    dsimp only
    split
    · rename_i hw
      have := white_see hw
      omega
    · omega
theorem namePoint_lt {l : List Int} {a : Nat} (h : namePoint (see l a) = true) : a < l.length := by
  refine see_lt ?_
  simp only [namePoint, nameStart, digit, Bool.or_eq_true, Bool.and_eq_true, decide_eq_true_eq] at h
  omega
theorem putB_le (c : Int) : (putB c).length ≤ 4 := by
  unfold putB utfB
  repeat' split
  all_goals simp
/-- A name's bytes, and where it ends. -/
def nameRun (l : List Int) : Nat → Nat → List UInt8 → List UInt8 × Nat
  | 0, p, bs => (bs, p)
  | f + 1, p, bs => if namePoint (see l p) then nameRun l f (p + 1) (bs ++ putB (see l p)) else if escape l p then nameRun l f (escapedP l p) (bs ++ putB (escapedV l p)) else (bs, p)
def nameS (l : List Int) (a : Nat) : List UInt8 := (nameRun l (l.length + 1) a []).1
def nameP (l : List Int) (a : Nat) : Nat := (nameRun l (l.length + 1) a []).2
structure NameI (l : List Int) (a : Nat) (s : Nat × List UInt8) : Prop where
  p : s.1 ≤ l.length
  b : s.2.length ≤ 4 * s.1
  run : ∀ f, l.length - s.1 < f → nameRun l f s.1 s.2 = nameRun l (l.length + 1) a []
theorem nameRun_fuel (l : List Int) : ∀ (f g p : Nat) (bs : List UInt8), l.length - p < f → l.length - p < g → nameRun l f p bs = nameRun l g p bs
  | 0, _, _, _, h, _ => by omega
  | f + 1, 0, _, _, _, h => by omega
  | f + 1, g + 1, p, bs, h1, h2 => by
    unfold nameRun
    split
    · rename_i h
      have := namePoint_lt h
      exact nameRun_fuel l f g _ _ (by omega) (by omega)
    · split
      · rename_i h
        have h3 := escapedP_le h
        exact nameRun_fuel l f g _ _ (by omega) (by omega)
      · rfl
end Go.Proofs.YtdenafhfngnlfaaDoor.Aw

namespace Go.Proofs.YtdenafhfngnlfaaDoor.Aw
open Go Go.RowKit Go.Lib
set_option linter.unusedVariables false
set_option linter.unusedSimpArgs false
set_option maxRecDepth 100000
def wholeRun : List UInt8 → Int → Nat → List UInt8 × Int × Nat
  | [], n, k => ([], n, k)
  | b :: r, n, k => if digit b.toNat then wholeRun r (if n * 10 + b.toNat - 48 > 2147483647 then 2147483647 else n * 10 + b.toNat - 48) (k + 1) else (b :: r, n, k)
def fracRun : List UInt8 → Int → Int → Nat → List UInt8 × Int × Nat
  | [], n, u, k => ([], n, k)
  | b :: r, n, u, k => if digit b.toNat then fracRun r (n + u * (b.toNat - 48)) (u.tdiv 10) (k + 1) else (b :: r, n, k)
def numTail (below : Bool) (n : Int) (bad : Bool) : Int × Bool := if bad then (0, false) else (cap (if below then 0 - n else n), true)
def numPoint (below : Bool) (r : List UInt8) (n : Int) (whole : Nat) : Int × Bool :=
  match r with
  | [] => numTail below (n * 1000) (decide (whole = 0))
  | b :: r => if b.toNat = 46 then (match fracRun r (n * 1000) 100 0 with
    | (r, n, k) => numTail below n (!r.isEmpty || decide (k = 0)))
    else (0, false)
def numSign (bs : List UInt8) : Bool × Nat := match bs with
  | [] => (false, 0)
  | b :: _ => if b.toNat = 45 then (true, 1) else if b.toNat = 43 then (false, 1) else (false, 0)
def numV (bs : List UInt8) : Int × Bool := match wholeRun (bs.drop (numSign bs).2) 0 0 with
  | (r, n, k) => numPoint (numSign bs).1 r n k
theorem drop_cons {bs : List UInt8} {i : Nat} {b : UInt8} {r : List UInt8} (h : bs.drop i = b :: r) : bs[i]? = some b ∧ bs.drop (i + 1) = r ∧ i < bs.length := by
  have h1 : bs[i]? = some b := by
    have := congrArg (·[0]?) h
    simpa using this
  refine ⟨h1, ?_, ?_⟩
  · have := congrArg List.tail h
    simpa [List.tail_drop] using this
  · exact (List.getElem?_eq_some_iff.1 h1).1
theorem drop_nil {bs : List UInt8} {i : Nat} (h : bs.drop i = []) : bs.length ≤ i := by
  simpa using h
structure NumI (bs : List UInt8) (s : Nat × Int × Nat) : Prop where
  i : s.1 ≤ bs.length
  n0 : 0 ≤ s.2.1
  n1 : s.2.1 ≤ 2147483647
  k : s.2.2 ≤ s.1
  run : wholeRun (bs.drop s.1) s.2.1 s.2.2 = wholeRun (bs.drop (numSign bs).2) 0 0
structure NumJ (bs : List UInt8) (s : Nat × Int × Nat) : Prop where
  i : s.1 ≤ bs.length
  n0 : 0 ≤ s.2.1
  n1 : s.2.1 ≤ 2147483647
  k : s.2.2 ≤ s.1
  run : wholeRun (bs.drop (numSign bs).2) 0 0 = (bs.drop s.1, s.2.1, s.2.2)
structure NumK (bs r : List UInt8) (n : Int) (s : Nat × Int × Int × Nat) : Prop where
  i : s.1 ≤ bs.length
  n0 : 0 ≤ s.2.1
  u0 : 0 ≤ s.2.2.1
  u1 : s.2.2.1 ≤ 100
  n1 : s.2.1 + 10 * s.2.2.1 ≤ 2147483648000
  k : s.2.2.2 ≤ s.1
  run : fracRun (bs.drop s.1) s.2.1 s.2.2.1 s.2.2.2 = fracRun r (n * 1000) 100 0
theorem Fin.num {x y : Int} {b c : Bool} {H : Hp} {n n0 : Nat} (e : (x, b) = (y, c)) : Fin (.tup [int x, bool b]) H n 0 n0 (fun d H => H = [] ∧ d = .tup [int y, bool c]) := by
  cases e
  exact Fin.scal ⟨trivial, trivial, trivial⟩ ⟨rfl, rfl⟩
theorem numSign_le (bs : List UInt8) : (numSign bs).2 ≤ bs.length := by
  unfold numSign
  cases bs with
  | nil => simp
  | cons b r => dsimp only; (repeat' split) <;> simp
theorem digit_le {c : Int} (h : digit c = true) : 48 ≤ c ∧ c ≤ 57 := by simpa [digit] using h
end Go.Proofs.YtdenafhfngnlfaaDoor.Aw

namespace Go.Proofs.YtdenafhfngnlfaaDoor.Aw
open Go Go.RowKit Go.Lib
set_option linter.unusedVariables false
set_option linter.unusedSimpArgs false
set_option maxRecDepth 100000
structure Tok where
  kind : Int := 0
  text : List UInt8 := []
  n : Int := 0
  whole : Bool := false
  c : Int := 0
deriving DecidableEq
def Tok.cells (t : Tok) : Cells := [int t.kind, .str ⟨t.text.toArray⟩, int t.n, bool t.whole, int t.c]
abbrev Tok.d (t : Tok) : D := .agg t.cells
def tok0 : Cells := [int 0, .str ⟨#[]⟩, int 0, bool false, int 0]
theorem digit_lt {l : List Int} {a : Nat} (h : digit (see l a) = true) : a < l.length := by
  refine see_lt ?_
  simp only [digit, Bool.and_eq_true, decide_eq_true_eq] at h
  omega
def digRun (l : List Int) : Nat → Nat → List UInt8 → List UInt8 × Nat
  | 0, p, bs => (bs, p)
  | f + 1, p, bs => if digit (see l p) then digRun l f (p + 1) (bs ++ putB (see l p)) else (bs, p)
theorem digRun_fuel (l : List Int) : ∀ (f g p : Nat) (bs : List UInt8), l.length - p < f → l.length - p < g → digRun l f p bs = digRun l g p bs
  | 0, _, _, _, h, _ => by omega
  | f + 1, 0, _, _, _, h => by omega
  | f + 1, g + 1, p, bs, h1, h2 => by
    unfold digRun
    split
    · rename_i h
      have := digit_lt h
      exact digRun_fuel l f g _ _ (by omega) (by omega)
    · rfl
def numSgn (l : List Int) (a : Nat) : List UInt8 × Nat := if see l a = 43 ∨ see l a = 45 then (putB (see l a), a + 1) else ([], a)
def numInt (l : List Int) (a : Nat) : List UInt8 × Nat := digRun l (l.length + 1) (numSgn l a).2 (numSgn l a).1
def numB (l : List Int) (a : Nat) : List UInt8 × Nat × Bool :=
  if see l (numInt l a).2 = 46 ∧ digit (see l ((numInt l a).2 + 1)) = true then
    ((digRun l (l.length + 1) ((numInt l a).2 + 1) ((numInt l a).1 ++ [46])).1, (digRun l (l.length + 1) ((numInt l a).2 + 1) ((numInt l a).1 ++ [46])).2, false)
  else ((numInt l a).1, (numInt l a).2, true)
def numericT (l : List Int) (a : Nat) : Tok :=
  match numB l a with
  | (bs, p, w) => if begins l p then { kind := 8, n := (numV bs).1, text := nameS l p } else if see l p = 37 then { kind := 7, n := (numV bs).1 } else { kind := 6, n := (numV bs).1, whole := w }
def numericP (l : List Int) (a : Nat) : Nat :=
  match numB l a with
  | (bs, p, w) => if begins l p then nameP l p else if see l p = 37 then p + 1 else p
structure DigI (l : List Int) (r : List UInt8 × Nat) (w : Bool) (s : Nat × List UInt8 × Bool) : Prop where
  p : s.1 ≤ l.length
  b : s.2.1.length ≤ 4 * s.1
  w : s.2.2 = w
  run : ∀ f, l.length - s.1 < f → digRun l f s.1 s.2.1 = r
theorem digRun_end {l : List Int} {r : List UInt8 × Nat} {p : Nat} {bs : List UInt8} (h : ∀ f, l.length - p < f → digRun l f p bs = r) (hd : digit (see l p) = false) : r = (bs, p) := by
  rw [← h (l.length - p + 1) (by omega), digRun, if_neg (by simp [hd])]
end Go.Proofs.YtdenafhfngnlfaaDoor.Aw

namespace Go.Proofs.YtdenafhfngnlfaaDoor.Aw
open Go Go.RowKit Go.Lib
set_option linter.unusedVariables false
set_option linter.unusedSimpArgs false
set_option maxRecDepth 100000
def strRun (l : List Int) (e : Int) : Nat → Nat → List UInt8 → Tok × Nat
  | 0, p, bs => ({}, p)
  | f + 1, p, bs => if see l p < 0 then ({ kind := 4, text := bs }, p)
    else if see l p = e then ({ kind := 4, text := bs }, p + 1)
    else if see l p = 10 then ({ kind := 5 }, p)
    else if see l p = 92 then
      (if see l (p + 1) < 0 then strRun l e f (p + 1) bs
       else if see l (p + 1) = 10 then strRun l e f (p + 2) bs
       else strRun l e f (escapedP l p) (bs ++ putB (escapedV l p)))
    else strRun l e f (p + 1) (bs ++ putB (see l p))
theorem escape_of {l : List Int} {p : Nat} (h1 : see l p = 92) (h2 : ¬ see l (p + 1) < 0) (h3 : ¬ see l (p + 1) = 10) : escape l p = true := by
  simp only [escape, Bool.and_eq_true, decide_eq_true_eq, Bool.not_eq_true', decide_eq_false_iff_not]
  omega
theorem strRun_fuel (l : List Int) (e : Int) : ∀ (f g p : Nat) (bs : List UInt8), l.length - p < f → l.length - p < g → strRun l e f p bs = strRun l e g p bs
  | 0, _, _, _, h, _ => by omega
  | f + 1, 0, _, _, _, h => by omega
  | f + 1, g + 1, p, bs, h1, h2 => by
    unfold strRun
    split
    · rfl
    · rename_i h0
      have hlt := see_lt (l := l) (i := p) (by omega)
      split
      · rfl
      · split
        · rfl
        · split
          · split
            · exact strRun_fuel l e f g _ _ (by omega) (by omega)
            · split
              · exact strRun_fuel l e f g _ _ (by omega) (by omega)
              · rename_i h92 hn h10
                have := escapedP_le (escape_of h92 hn h10)
                exact strRun_fuel l e f g _ _ (by omega) (by omega)
          · exact strRun_fuel l e f g _ _ (by omega) (by omega)
def strT (l : List Int) (a : Nat) : Tok := (strRun l (see l a) (l.length + 1) (a + 1) []).1
def strP (l : List Int) (a : Nat) : Nat := (strRun l (see l a) (l.length + 1) (a + 1) []).2
structure StrI (l : List Int) (a : Nat) (s : Nat × List UInt8) : Prop where
  p : s.1 ≤ l.length
  b : s.2.length ≤ 4 * s.1
  run : ∀ f, l.length - s.1 < f → strRun l (see l a) f s.1 s.2 = strRun l (see l a) (l.length + 1) (a + 1) []
end Go.Proofs.YtdenafhfngnlfaaDoor.Aw

