/- How far the reference's reader goes; its tokens. -/
import Derived.Test.YtlhegfkpgchaeaaGreatDoorXrC
namespace Go.Proofs.YtlhegfkpgchaeaaGreatDoor.Aw
open Go Go.RowKit Go.Lib
set_option linter.unusedVariables false
set_option linter.unusedSimpArgs false
set_option maxRecDepth 100000
theorem Fin.rd {d : D} {l : List Int} {p : Int} {more : Hp} {n : Nat} {R : D → Hp → Prop} (a : Nat) (hs : scalD d) (hp : p = a) (hR : R d [some (rdr l a)]) : Fin d (some [.f (.sl (ptsF l)), int p] :: more) n 1 0 R := by
 subst hp
 exact Fin.mk d [some (rdr l a)] hR rfl ⟨by unfold intoL; exact ⟨into_scal _ _ _ d hs, by unfold intoL; rfl⟩, ⟨rfl, rfl, rfl⟩, by unfold intoH; cases more <;> trivial⟩
theorem hex_le (c : Int) : -1 ≤ hex c ∧ hex c ≤ 15 := by
 unfold hex
 repeat' split
 all_goals omega
theorem see_lt {l : List Int} {i : Nat} (h : 0 ≤ see l i) : i < l.length := by
 unfold see at h
 rcases Nat.lt_or_ge i l.length with h1 | h1
 ·exact h1
 ·rw [List.getElem?_eq_none h1] at h; simp at h
theorem hex_see {l : List Int} {i : Nat} (h : 0 ≤ hex (see l i)) : i < l.length := see_lt (by unfold hex at h; (repeat' split at h) <;> omega)
theorem white_see {l : List Int} {i : Nat} (h : white (see l i) = true) : i < l.length := see_lt (by simp only [white, Bool.or_eq_true, decide_eq_true_eq] at h; omega)
def hexRun (l : List Int) : Nat → Nat → Int → Nat × Int
 | 0, p, n => (p, n)
 | k + 1, p, n => if 0 ≤ hex (see l p) then hexRun l k (p + 1) (n * 16 + hex (see l p)) else (p, n)
def escapedV (l : List Int) (a : Nat) : Int := if hex (see l (a + 1)) < 0 then see l (a + 1) else
 let n := (hexRun l 6 (a + 1) 0).2
 if n = 0 ∨ right n = false then 65533 else n
def escapedP (l : List Int) (a : Nat) : Nat := if hex (see l (a + 1)) < 0 then a + 2 else
 let p := (hexRun l 6 (a + 1) 0).1
 if white (see l p) then p + 1 else p
theorem p16 : ∀ j : Nat, j ≤ 6 → (16 : Int) ^ j ≤ 16777216 := by
 intro j hj
 have : j = 0 ∨ j = 1 ∨ j = 2 ∨ j = 3 ∨ j = 4 ∨ j = 5 ∨ j = 6 := by omega
 rcases this with rfl | rfl | rfl | rfl | rfl | rfl | rfl <;> decide
structure EscI (l : List Int) (a : Nat) (s : Nat × Nat × Int) : Prop where
 j : s.1 ≤ 6
 p : s.2.1 ≤ a + 1 + s.1
 n0 : 0 ≤ s.2.2
 n1 : s.2.2 < 16 ^ s.1
 run : hexRun l (6 - s.1) s.2.1 s.2.2 = hexRun l 6 (a + 1) 0
theorem hexRun_end {l : List Int} {j p : Nat} {n : Int} {r : Nat × Int} (h5 : hexRun l (6 - j) p n = r) (h1 : j ≤ 6) (h : ¬ (j : Int) < 6 ∨ ¬ 0 ≤ hex (see l p)) : r = (p, n) := by
 rw [← h5]
 rcases Nat.lt_or_ge j 6 with h2 | h2
 ·rw [show 6 - j = (5 - j) + 1 by omega, hexRun, if_neg (by omega)]
 ·rw [show 6 - j = 0 by omega]; rfl
theorem escapedV_of {l : List Int} {a p : Nat} {n : Int} (h : ¬ hex (see l (a + 1)) < 0) (hx : hexRun l 6 (a + 1) 0 = (p, n)) : escapedV l a = if n = 0 ∨ right n = false then 65533 else n := by
 unfold escapedV; rw [if_neg h, hx]
theorem escapedP_of {l : List Int} {a p : Nat} {n : Int} (h : ¬ hex (see l (a + 1)) < 0) (hx : hexRun l 6 (a + 1) 0 = (p, n)) : escapedP l a = if white (see l p) then p + 1 else p := by
 unfold escapedP; rw [if_neg h, hx]
theorem escaped_spec (l : List Int) (hl : l.length < 1000000000) (a : Nat) (ha : a < 1900000000) : Spec P 80 [.ptr 0 0] [some (rdr l a)] 0 (fun d H => d = int (escapedV l a) ∧ H = [some (rdr l (escapedP l a))]) := by
 refine spec_mk tab_ok Tryz.func80 (by rfl) rfl ?_
 conv => whnf
 repeat' first | ((first | refine (see_at l hl (a+1) (by omega) _ (a + 1) (by omega) (by omega) (by omega)).call ⟨⟨rfl, rfl, trivial⟩, rfl, rfl⟩ ?_ | refine (hex_spec _).call ⟨rfl, rfl⟩ ?_ | refine Num.id (by omega) (by omega) ?_); conv => whnf) | (refine Case.dec (fun _ => ?_) (fun _ => ?_) <;> conv => whnf)
 ·refine Fin.rd (a + 2) trivial (by omega) ⟨?_, ?_⟩
  ·unfold escapedV; rw [if_pos (by assumption)]
  ·unfold escapedP; rw [if_pos (by assumption)]
 ·refine step_loop tab_ok (fun s => padK [.ptr 0 0, .junk, .junk, .junk, int s.2.2, int s.1] 67) (fun s => [some (rdr l s.2.1)]) 0 (EscI l a) (fun s => 6 - s.1) (0, a + 1, 0) ⟨by simp, by simp, by simp, by simp, rfl⟩ (fun _ => rfl) ?_ ?_
  ·
   repeat' first | exact trivial | exact rfl | exact (by decide : 0 < 1) | apply And.intro
  ·rintro ⟨j, p, n⟩ ⟨h1, h2, h3, h4, h5⟩
   simp only at h1 h2 h3 h4 h5
   dsimp only
   have hb := p16 j h1
   have hh := hex_le (see l p)
   conv => whnf
   repeat' first | ((first | refine Case.not ?_ | refine Case.yes ?_ | refine Case.no ?_ | refine Case.decT (by assumption) ?_ | refine Case.decF (by assumption) ?_ | refine (see_at l hl p (by omega) _ p (by omega) (by omega) (by omega)).call ⟨⟨rfl, rfl, trivial⟩, rfl, rfl⟩ ?_ | refine (hex_spec _).call ⟨rfl, rfl⟩ ?_ | refine (white_spec _).call ⟨rfl, rfl⟩ ?_ | refine (right_spec _).call ⟨rfl, rfl⟩ ?_ | refine Num.id (by omega) (by omega) ?_); conv => whnf) | (refine Case.dec (fun _ => ?_) (fun _ => ?_) <;> conv => whnf) | (refine Case.mk (fun _ => ?_) (fun _ => ?_) <;> conv => whnf)
   ·refine ⟨(j + 1, p + 1, n * 16 + hex (see l p)), ⟨by dsimp only; omega, by dsimp only; omega, by dsimp only; omega, by dsimp only; rw [Int.pow_succ]; omega, ?_⟩, by dsimp only; omega, ?_⟩
    ·dsimp only
     rw [← h5, show 6 - j = (6 - (j + 1)) + 1 by omega, hexRun, if_pos (by omega)]
    ·
     repeat' first | exact trivial | exact rfl | exact (by decide : 0 < 1) | apply And.intro
   all_goals have hx := hexRun_end h5 h1 (by omega)
   all_goals have eV := escapedV_of (by assumption : ¬ hex (see l (a + 1)) < 0) hx
   all_goals have eP := escapedP_of (by assumption : ¬ hex (see l (a + 1)) < 0) hx
   all_goals rw [eV, eP]
   all_goals first
    | (refine Fin.rd p trivial (by omega) ⟨?_, ?_⟩ <;> simp [*]; done)
    | (refine Fin.rd (p + 1) trivial (by omega) ⟨?_, ?_⟩ <;> simp [*]; done)
def killsK (l : List Nat) : List D → (List D → Prop) → Prop
 | [], K => K []
 | d :: ds, K => force (D.kills l d) fun d => killsK l ds fun r => K (d :: r)
theorem killsK_eq (l : List Nat) : ∀ (ds : List D) (K : List D → Prop), killsK l ds K = K (killsL l ds)
 | [], _ => rfl
 | d :: ds, K => by unfold killsK; rw [force_eq, killsK_eq l ds]; rfl
def killsHK (l : List Nat) : Hp → (Hp → Prop) → Prop
 | [], K => K []
 | none :: h, K => killsHK l h fun r => K (none :: r)
 | some cs :: h, K => killsK l cs fun cs => killsHK l h fun r => K (some cs :: r)
theorem killsHK_eq (l : List Nat) : ∀ (H : Hp) (K : Hp → Prop), killsHK l H K = K (killsH l H)
 | [], _ => rfl
 | none :: h, K => by unfold killsHK; rw [killsHK_eq l h]; rfl
 | some cs :: h, K => by unfold killsHK; rw [killsK_eq, killsHK_eq l h]; rfl
mutual
theorem kills_nil : ∀ d : D, d.kills [] = d
 | .own _ _ _ _ => by simp [D.kills, memB]
 | .optr _ _ _ _ _ _ => by simp [D.kills, memB]
 | .agg cs => by simp [D.kills, killsL_nil cs]
 | .tup cs => by simp [D.kills, killsL_nil cs]
 | .fn _ cs => by simp [D.kills, killsL_nil cs]
 | .yl _ _ _ _ cs => by simp [D.kills, killsL_nil cs]
 | .junk => by simp [D.kills]
 | .f _ => by simp [D.kills]
 | .nil => by simp [D.kills]
 | .ptr _ _ => by simp [D.kills]
 | .ip _ => by simp [D.kills]
theorem killsL_nil : ∀ ds : List D, killsL [] ds = ds
 | [] => rfl
 | d :: ds => by simp [killsL, kills_nil d, killsL_nil ds]
end
theorem killsH_nil : ∀ H : Hp, killsH [] H = H
 | [] => rfl
 | none :: h => by simp [killsH, killsH_nil h]
 | some cs :: h => by simp [killsH, killsL_nil, killsH_nil h]
mutual
theorem ren_scal (ρ σ : List Nat) : ∀ d : D, scalD d → d.ren ρ σ = d
 | .f (.v x), _ => by simp [D.ren]
 | .nil, _ => by simp [D.ren]
 | .junk, _ => by simp [D.ren]
 | .agg cs, hs => by unfold scalD at hs; simp [D.ren, renL_scal ρ σ cs hs]
 | .tup cs, hs => by unfold scalD at hs; simp [D.ren, renL_scal ρ σ cs hs]
 | .f (.sl _), hs => hs.elim
 | .own _ _ _ _, hs => hs.elim
 | .optr _ _ _ _ _ _, hs => hs.elim
 | .ptr _ _, hs => hs.elim
 | .ip _, hs => hs.elim
 | .fn _ _, hs => hs.elim
 | .yl _ _ _ _ _, hs => hs.elim
theorem renL_scal (ρ σ : List Nat) : ∀ ds : List D, scalL ds → renL ρ σ ds = ds
 | [], _ => rfl
 | d :: ds, hs => by unfold scalL at hs; simp [renL, ren_scal ρ σ d hs.1, renL_scal ρ σ ds hs.2]
end
def Meth (g : FuncId) (l : List Int) (a : Nat) (V : D) (p : Nat) : Prop := scalD V ∧ Spec P g [.ptr 0 0] [some (rdr l a)] 0 (fun d H => d = V ∧ H = [some (rdr l p)])
theorem Meth.call {g : FuncId} {l : List Int} {a p : Nat} {V : D} {E : List D} {H : Hp} {n : Nat} {K : KD} (h : Meth g l a V p) (k : K V E (some (rdr l p) :: H) n) : Call P g [.ptr 0 0] E (some (rdr l a) :: H) n K := by
 refine call_gen («as» := [.ptr 0 0]) [0] [] h.2 (by simp) (by simp) (by simp) (by simp) ?_ ?_ ?_
 ·unfold fitH fitH; exact ⟨⟨rfl, ⟨trivial, trivial, trivial⟩⟩, trivial⟩
 ·exact ⟨Nat.zero_lt_one, trivial⟩
 ·rintro d Hs' ⟨rfl, rfl⟩ _
  rw [ren_scal _ _ _ h.1, killsL_nil, killsH_nil]
  exact k
theorem put_call {bs : List UInt8} {c : Int} {E : List D} {H : Hp} {K : KD} (hb : bs.length < 1000000000) (k : killsK [0] E fun E => killsHK [0] H fun H => K (.own 0 5 1 ((bs ++ putB c).map byteRow)) E H 1) : Call P 81 [.own 0 5 1 (bs.map byteRow), int c] E H 1 K := by
 rw [killsK_eq, killsHK_eq] at k
 refine call_gen («as» := [.own 0 5 1 (bs.map byteRow), int c]) [] [0] (put_spec bs hb c) (by simp) (by simp) (by simp) (by simp) trivial ⟨Nat.zero_lt_one, trivial, trivial⟩ ?_
 rintro d Hs' ⟨rfl, rfl⟩ _
 exact k
theorem escaped_meth (l : List Int) (hl : l.length < 1000000000) (a : Nat) (ha : a < 1900000000) : Meth 80 l a (int (escapedV l a)) (escapedP l a) := ⟨trivial, escaped_spec l hl a ha⟩
theorem hexRun_ge (l : List Int) : ∀ (k p : Nat) (n : Int), p ≤ (hexRun l k p n).1 ∧ ((hexRun l k p n).1 = p ∨ (hexRun l k p n).1 ≤ l.length)
 | 0, p, n => ⟨Nat.le_refl _, .inl rfl⟩
 | k + 1, p, n => by
  unfold hexRun
  split
  ·rename_i h
   obtain ⟨h1, h2⟩ := hexRun_ge l k (p + 1) (n * 16 + hex (see l p))
   have := hex_see h
   refine ⟨by omega, .inr ?_⟩
   rcases h2 with h2 | h2 <;> omega
  ·exact ⟨Nat.le_refl _, .inl rfl⟩
theorem escape_lt {l : List Int} {a : Nat} (h : escape l a = true) : a + 1 < l.length := by
 simp only [escape, Bool.and_eq_true, decide_eq_true_eq] at h
 exact see_lt h.1.2
theorem escapedP_le {l : List Int} {a : Nat} (h : escape l a = true) : a < escapedP l a ∧ escapedP l a ≤ l.length := by
 have h1 := escape_lt h
 unfold escapedP
 split
 ·omega
 ·obtain ⟨h2, h3⟩ := hexRun_ge l 6 (a + 1) 0
  dsimp only
  split
  ·rename_i hw
   have := white_see hw
   omega
  ·omega
theorem namePoint_lt {l : List Int} {a : Nat} (h : namePoint (see l a) = true) : a < l.length := by
 refine see_lt ?_
 simp only [namePoint, nameStart, digit, Bool.or_eq_true, Bool.and_eq_true, decide_eq_true_eq] at h
 omega
theorem putB_le (c : Int) : (putB c).length ≤ 4 := by
 unfold putB utfB
 repeat' split
 all_goals simp
def nameRun (l : List Int) : Nat → Nat → List UInt8 → List UInt8 × Nat
 | 0, p, bs => (bs, p)
 | f + 1, p, bs => if namePoint (see l p) then nameRun l f (p + 1) (bs ++ putB (see l p)) else if escape l p then nameRun l f (escapedP l p) (bs ++ putB (escapedV l p)) else (bs, p)
def nameS (l : List Int) (a : Nat) : List UInt8 := (nameRun l (l.length + 1) a []).1
def nameP (l : List Int) (a : Nat) : Nat := (nameRun l (l.length + 1) a []).2
structure NameI (l : List Int) (a : Nat) (s : Nat × List UInt8) : Prop where
 p : s.1 ≤ l.length
 b : s.2.length ≤ 4 * s.1
 run : ∀ f, l.length - s.1 < f → nameRun l f s.1 s.2 = nameRun l (l.length + 1) a []
theorem nameRun_fuel (l : List Int) : ∀ (f g p : Nat) (bs : List UInt8), l.length - p < f → l.length - p < g → nameRun l f p bs = nameRun l g p bs
 | 0, _, _, _, h, _ => by omega
 | f + 1, 0, _, _, _, h => by omega
 | f + 1, g + 1, p, bs, h1, h2 => by
  unfold nameRun
  split
  ·rename_i h
   have := namePoint_lt h
   exact nameRun_fuel l f g _ _ (by omega) (by omega)
  ·split
   ·rename_i h
    have h3 := escapedP_le h
    exact nameRun_fuel l f g _ _ (by omega) (by omega)
   ·rfl
theorem name_spec (l : List Int) (hl : l.length < 100000000) (a : Nat) (ha : a ≤ l.length) : Meth 47 l a (.str ⟨(nameS l a).toArray⟩) (nameP l a) := by
 refine ⟨trivial, spec_mk tab_ok Tryz.func47 (by rfl) rfl ?_⟩
 conv => whnf
 refine step_loop tab_ok (fun s => padK [.ptr 0 0, .junk, .junk, .own 0 5 1 (s.2.map byteRow)] 30) (fun s => [some (rdr l s.1)]) 1 (NameI l a) (fun s => l.length - s.1) (a, []) ⟨ha, by simp, fun f hf => nameRun_fuel l _ _ _ _ hf (by dsimp only at hf; omega)⟩ (fun _ => rfl) ?_ ?_
 ·
  repeat' first | exact trivial | exact rfl | exact (by decide : 0 < 1) | exact Nat.le_refl _ | apply And.intro
 ·rintro ⟨p, bs⟩ ⟨h1, h2, h3⟩
  simp only at h1 h2 h3
  dsimp only
  conv => whnf
  repeat' first | ((first | refine (see_at l (by omega) p (by omega) _ p (by omega) (by omega) (by omega)).call ⟨⟨rfl, rfl, trivial⟩, rfl, rfl⟩ ?_ | refine (namePoint_spec _).call ⟨rfl, rfl⟩ ?_ | refine (escape_at l (by omega) p (by omega) _ p (by omega) (by omega) (by omega)).call ⟨⟨rfl, rfl, trivial⟩, rfl, rfl⟩ ?_ | refine (escaped_meth l (by omega) p (by omega)).call ?_ | refine put_call (by omega) ?_ | refine Owes.mk rfl ?_ | refine AsBytes.mk bs rfl ?_ | refine Num.id (by omega) (by omega) ?_); conv => whnf) | (refine Case.mk (fun _ => ?_) (fun _ => ?_) <;> conv => whnf)
  ·have h := namePoint_lt (by assumption)
   have hb := putB_le (see l p)
   refine ⟨(p + 1, bs ++ putB (see l p)), ⟨by dsimp only; omega, by dsimp only; rw [List.length_append]; omega, fun f hf => ?_⟩, by dsimp only; omega, ?_⟩
   ·dsimp only at hf ⊢
    rw [← h3 (f + 1) (by omega), nameRun, if_pos (by assumption)]
   ·
    repeat' first | exact trivial | exact rfl | exact (by decide : 0 < 1) | apply And.intro
  ·have h := escapedP_le (by assumption)
   have hb := putB_le (escapedV l p)
   refine ⟨(escapedP l p, bs ++ putB (escapedV l p)), ⟨by dsimp only; omega, by dsimp only; rw [List.length_append]; omega, fun f hf => ?_⟩, by dsimp only; omega, ?_⟩
   ·dsimp only at hf ⊢
    rw [← h3 (l.length - p + 1) (by omega), nameRun, if_neg (by simp [(by assumption : namePoint (see l p) = false)]), if_pos (by assumption)]
    exact nameRun_fuel l f _ _ _ hf (by omega)
   ·
    repeat' first | exact trivial | exact rfl | exact (by decide : 0 < 1) | apply And.intro
  ·have e := h3 (l.length - p + 1) (by omega)
   rw [nameRun, if_neg (by simp [(by assumption : namePoint (see l p) = false)]), if_neg (by simp [(by assumption : escape l p = false)])] at e
   refine Fin.rd p trivial rfl ⟨?_, ?_⟩
   ·unfold nameS; rw [← e]
   ·unfold nameP; rw [← e]
def wholeRun : List UInt8 → Int → Nat → List UInt8 × Int × Nat
 | [], n, k => ([], n, k)
 | b :: r, n, k => if digit b.toNat then wholeRun r (if n * 10 + b.toNat - 48 > 2147483647 then 2147483647 else n * 10 + b.toNat - 48) (k + 1) else (b :: r, n, k)
def fracRun : List UInt8 → Int → Int → Nat → List UInt8 × Int × Nat
 | [], n, u, k => ([], n, k)
 | b :: r, n, u, k => if digit b.toNat then fracRun r (n + u * (b.toNat - 48)) (u.tdiv 10) (k + 1) else (b :: r, n, k)
def numTail (below : Bool) (n : Int) (bad : Bool) : Int × Bool := if bad then (0, false) else (cap (if below then 0 - n else n), true)
def numPoint (below : Bool) (r : List UInt8) (n : Int) (whole : Nat) : Int × Bool :=
 match r with
 | [] => numTail below (n * 1000) (decide (whole = 0))
 | b :: r => if b.toNat = 46 then (match fracRun r (n * 1000) 100 0 with
  | (r, n, k) => numTail below n (!r.isEmpty || decide (k = 0)))
  else (0, false)
def numSign (bs : List UInt8) : Bool × Nat := match bs with
 | [] => (false, 0)
 | b :: _ => if b.toNat = 45 then (true, 1) else if b.toNat = 43 then (false, 1) else (false, 0)
def numV (bs : List UInt8) : Int × Bool := match wholeRun (bs.drop (numSign bs).2) 0 0 with
 | (r, n, k) => numPoint (numSign bs).1 r n k
theorem drop_cons {bs : List UInt8} {i : Nat} {b : UInt8} {r : List UInt8} (h : bs.drop i = b :: r) : bs[i]? = some b ∧ bs.drop (i + 1) = r ∧ i < bs.length := by
 have h1 : bs[i]? = some b := by
  have := congrArg (·[0]?) h
  simpa using this
 refine ⟨h1, ?_, ?_⟩
 ·have := congrArg List.tail h
  simpa [List.tail_drop] using this
 ·exact (List.getElem?_eq_some_iff.1 h1).1
theorem drop_nil {bs : List UInt8} {i : Nat} (h : bs.drop i = []) : bs.length ≤ i := by
 simpa using h
structure NumI (bs : List UInt8) (s : Nat × Int × Nat) : Prop where
 i : s.1 ≤ bs.length
 n0 : 0 ≤ s.2.1
 n1 : s.2.1 ≤ 2147483647
 k : s.2.2 ≤ s.1
 run : wholeRun (bs.drop s.1) s.2.1 s.2.2 = wholeRun (bs.drop (numSign bs).2) 0 0
structure NumJ (bs : List UInt8) (s : Nat × Int × Nat) : Prop where
 i : s.1 ≤ bs.length
 n0 : 0 ≤ s.2.1
 n1 : s.2.1 ≤ 2147483647
 k : s.2.2 ≤ s.1
 run : wholeRun (bs.drop (numSign bs).2) 0 0 = (bs.drop s.1, s.2.1, s.2.2)
structure NumK (bs r : List UInt8) (n : Int) (s : Nat × Int × Int × Nat) : Prop where
 i : s.1 ≤ bs.length
 n0 : 0 ≤ s.2.1
 u0 : 0 ≤ s.2.2.1
 u1 : s.2.2.1 ≤ 100
 n1 : s.2.1 + 10 * s.2.2.1 ≤ 2147483648000
 k : s.2.2.2 ≤ s.1
 run : fracRun (bs.drop s.1) s.2.1 s.2.2.1 s.2.2.2 = fracRun r (n * 1000) 100 0
theorem Fin.num {x y : Int} {b c : Bool} {H : Hp} {n n0 : Nat} (e : (x, b) = (y, c)) : Fin (.tup [int x, bool b]) H n 0 n0 (fun d H => H = [] ∧ d = .tup [int y, bool c]) := by
 cases e
 exact Fin.scal ⟨trivial, trivial, trivial⟩ ⟨rfl, rfl⟩
theorem numSign_le (bs : List UInt8) : (numSign bs).2 ≤ bs.length := by
 unfold numSign
 cases bs with
 | nil => simp
 | cons b r => dsimp only; (repeat' split) <;> simp
theorem digit_le {c : Int} (h : digit c = true) : 48 ≤ c ∧ c ≤ 57 := by simpa [digit] using h
theorem num_spec (bs : List UInt8) (hl : bs.length < 1000000000) : Pure 82 [.str ⟨bs.toArray⟩] (.tup [int (numV bs).1, bool (numV bs).2]) := by
 have hz : (⟨bs.toArray⟩ : ByteArray).size = bs.length := rfl
 refine ⟨⟨trivial, trivial, trivial⟩, spec_step tab_ok Tryz.func82 (by rfl) rfl ?_⟩
 conv => whnf
 refine step_seq tab_ok ?_
 conv => whnf
 refine step_seq tab_ok ?_
 conv => whnf
 refine step_seq tab_ok ?_
 conv => whnf
 refine step_cut tab_ok (fun s : Unit => padK [.str ⟨bs.toArray⟩, .junk, .junk, .junk, int (numSign bs).2, bool (numSign bs).1] 123) (fun _ => []) 0 (fun _ => True) (fun _ => rfl) ?_ ?_
 ·conv => whnf
  rcases hb : bs with _ | ⟨b, r⟩
  ·
   repeat' (refine Case.no ?_; conv => whnf)
   refine ⟨(), trivial, ?_⟩
   repeat' first | exact trivial | exact rfl | apply And.intro
  ·have hs : numSign (b :: r) = if b.toNat = 45 then (true, 1) else if b.toNat = 43 then (false, 1) else (false, 0) := rfl
   have h0 : 0 < (⟨(b :: r).toArray⟩ : ByteArray).size := Nat.succ_pos _
   repeat' first | ((first | refine Case.yes ?_ | refine Case.decT (by assumption) ?_ | refine Case.decF (by assumption) ?_ | refine Case.decT (by omega) ?_ | refine Byte.mk 0 b rfl rfl ?_ | refine Num.id (by omega) (by omega) ?_); conv => whnf) | (refine Case.dec (fun _ => ?_) (fun _ => ?_) <;> conv => whnf)
   all_goals first
    | (rw [if_pos (by omega)] at hs; rw [hs]; refine ⟨(), trivial, ?_⟩)
    | (rw [if_neg (by omega), if_pos (by omega)] at hs; rw [hs]; refine ⟨(), trivial, ?_⟩)
    | (rw [if_neg (by omega), if_neg (by omega)] at hs; rw [hs]; refine ⟨(), trivial, ?_⟩)
   ·
    repeat' first | exact trivial | exact rfl | exact congrArg bool (by (try dsimp only); simp; omega) | apply And.intro
   ·
    repeat' first | exact trivial | exact rfl | exact congrArg bool (by (try dsimp only); simp; omega) | apply And.intro
   ·
    repeat' first | exact trivial | exact rfl | apply And.intro
 ·intro _ _
  conv => whnf
  refine step_seq tab_ok ?_
  conv => whnf
  refine step_seq tab_ok ?_
  conv => whnf
  refine step_cut tab_ok (fun s => padK [.str ⟨bs.toArray⟩, .junk, .junk, .junk, int s.1, bool (numSign bs).1, int s.2.1, int s.2.2] 123) (fun _ => []) 0 (NumJ bs) (fun _ => rfl) ?_ ?_
  ·conv => whnf
   refine step_loop tab_ok (fun s => padK [.str ⟨bs.toArray⟩, .junk, .junk, .junk, int s.1, bool (numSign bs).1, int s.2.1, int s.2.2] 123) (fun _ => []) 0 (NumI bs) (fun s => bs.length - s.1) ((numSign bs).2, 0, 0) ⟨numSign_le bs, by simp, by simp, by simp, rfl⟩ (fun _ => rfl) ?_ ?_
   ·
    repeat' first | exact trivial | exact rfl | apply And.intro
   ·rintro ⟨i, n, k⟩ ⟨h1, h2, h3, h4, h5⟩
    simp only at h1 h2 h3 h4 h5
    dsimp only
    conv => whnf
    rcases hr : bs.drop i with _ | ⟨b, r⟩
    ·have hi := drop_nil hr
     repeat' ((first | refine Case.no ?_ | refine Case.decF (by omega) ?_); conv => whnf)
     rw [hr, wholeRun] at h5
     refine ⟨(i, n, k), ⟨h1, h2, h3, h4, by dsimp only; rw [← h5, hr]⟩, ?_⟩
     repeat' first | exact trivial | exact rfl | apply And.intro
    ·obtain ⟨hb, hr', hi⟩ := drop_cons hr
     have hb8 := b.toNat_lt
     repeat' first | ((first | refine Case.decT (by omega) ?_ | refine Byte.mk i b rfl (by simpa using hb) ?_ | refine (digit_spec _).call ⟨rfl, rfl⟩ ?_ | refine Num.id (by omega) (by omega) ?_); conv => whnf) | (refine Case.dec (fun _ => ?_) (fun _ => ?_) <;> conv => whnf) | (refine Case.mk (fun _ => ?_) (fun _ => ?_) <;> conv => whnf)
     ·have hd := digit_le (by assumption)
      rw [hr, wholeRun, if_pos (by assumption), if_pos (by assumption)] at h5
      refine ⟨(i + 1, 2147483647, k + 1), ⟨by dsimp only; omega, by dsimp only; omega, by dsimp only; omega, by dsimp only; omega, by dsimp only; rw [hr', h5]⟩, by dsimp only; omega, ?_⟩
      repeat' first | exact trivial | exact rfl | apply And.intro
     ·have hd := digit_le (by assumption)
      rw [hr, wholeRun, if_pos (by assumption), if_neg (by assumption)] at h5
      refine ⟨(i + 1, n * 10 + b.toNat - 48, k + 1), ⟨by dsimp only; omega, by dsimp only; omega, by dsimp only; omega, by dsimp only; omega, by dsimp only; rw [hr', h5]⟩, by dsimp only; omega, ?_⟩
      repeat' first | exact trivial | exact rfl | apply And.intro
     ·rw [hr, wholeRun, if_neg (by simp [(by assumption : digit b.toNat = false)])] at h5
      refine ⟨(i, n, k), ⟨h1, h2, h3, h4, by dsimp only; rw [← h5, hr]⟩, ?_⟩
      repeat' first | exact trivial | exact rfl | apply And.intro
  ·rintro ⟨i, n, k⟩ ⟨h1, h2, h3, h4, h5⟩
   simp only at h1 h2 h3 h4 h5
   dsimp only
   conv => whnf
   refine step_of tab_ok ?_
   conv => whnf
   have e : numV bs = numPoint (numSign bs).1 (bs.drop i) n k := by unfold numV; rw [h5]
   rw [e]
   rcases hr : bs.drop i with _ | ⟨b, r⟩
   ·have hi := drop_nil hr
    repeat' first | ((first | refine Case.not ?_ | refine Case.no ?_ | refine Case.decT (by omega) ?_ | refine Case.decF (by omega) ?_ | refine (cap_spec _).call ⟨rfl, rfl⟩ ?_ | refine Num.id (by omega) (by omega) ?_); conv => whnf) | (refine Case.dec (fun _ => ?_) (fun _ => ?_) <;> conv => whnf) | (refine Case.mk (fun _ => ?_) (fun _ => ?_) <;> conv => whnf)
    ·refine Fin.num ?_; simp [numPoint, numTail, show k = 0 by omega]
    ·refine Fin.num ?_; simp [numPoint, numTail, (by assumption : (numSign bs).1 = true), show ¬ k = 0 by omega]
    ·refine Fin.num ?_; simp [numPoint, numTail, (by assumption : (numSign bs).1 = false), show ¬ k = 0 by omega]
   ·obtain ⟨hb, hr', hi⟩ := drop_cons hr
    have hb8 := b.toNat_lt
    repeat' first | ((first | refine Case.not ?_ | refine Case.yes ?_ | refine Case.decT (by omega) ?_ | refine Case.decF (by omega) ?_ | refine Byte.mk i b rfl (by simpa using hb) ?_ | refine Num.id (by omega) (by omega) ?_); conv => whnf) | (refine Case.dec (fun _ => ?_) (fun _ => ?_) <;> conv => whnf)
    ·have e2 : numPoint (numSign bs).1 (b :: r) n k = (match fracRun r (n * 1000) 100 0 with
      | (r, n, k) => numTail (numSign bs).1 n (!r.isEmpty || decide (k = 0))) := by unfold numPoint; dsimp only; rw [if_pos (by omega)]
     rw [e2]
     refine step_loop tab_ok (fun s => padK [.str ⟨bs.toArray⟩, .junk, .junk, .junk, int s.1, bool (numSign bs).1, int s.2.1, int k, int s.2.2.2, bool true, int s.2.2.1] 123) (fun _ => []) 0 (NumK bs r n) (fun s => bs.length - s.1) (i + 1, n * 1000, 100, 0) ⟨by dsimp only; omega, by dsimp only; omega, by dsimp only; omega, by dsimp only; omega, by dsimp only; omega, by dsimp only; omega, by dsimp only; rw [hr']⟩ (fun _ => rfl) ?_ ?_
     ·
      repeat' first | exact trivial | exact rfl | exact congrArg bool (by (try dsimp only); simp; omega) | apply And.intro
     ·rintro ⟨j, m, u, q⟩ ⟨g1, g2, g3, g4, g5, g6, g7⟩
      simp only at g1 g2 g3 g4 g5 g6 g7
      have hq : u.tdiv 10 = u / 10 := Int.tdiv_eq_ediv_of_nonneg g3
      dsimp only
      conv => whnf
      rcases hs : bs.drop j with _ | ⟨b', r2⟩
      ·have hj := drop_nil hs
       rw [hs, fracRun] at g7
       rw [← g7]
       repeat' first | ((first | refine Case.not ?_ | refine Case.yes ?_ | refine Case.no ?_ | refine Case.decT (by assumption) ?_ | refine Case.decF (by assumption) ?_ | refine Case.decT (by omega) ?_ | refine Case.decF (by omega) ?_ | refine (cap_spec _).call ⟨rfl, rfl⟩ ?_ | refine Num.id (by omega) (by omega) ?_); conv => whnf) | (refine Case.dec (fun _ => ?_) (fun _ => ?_) <;> conv => whnf) | (refine Case.mk (fun _ => ?_) (fun _ => ?_) <;> conv => whnf)
       ·refine Fin.num ?_; simp [numTail, show q = 0 by omega]
       ·refine Fin.num ?_; simp [numTail, (by assumption : (numSign bs).1 = true), show ¬ q = 0 by omega]
       ·refine Fin.num ?_; simp [numTail, (by assumption : (numSign bs).1 = false), show ¬ q = 0 by omega]
      ·obtain ⟨hb', hr2, hj⟩ := drop_cons hs
       have hb9 := b'.toNat_lt
       cases hd : digit (b'.toNat : Int)
       ·rw [hs, fracRun, if_neg (by simp [hd])] at g7
        rw [← g7]
        repeat' ((first | refine Case.not ?_ | refine Case.yes ?_ | refine Case.isFalse (by assumption) ?_ | refine Case.decT (by omega) ?_ | refine Case.decF (by omega) ?_ | refine Byte.mk j b' rfl (by simpa using hb') ?_ | refine (digit_spec _).call ⟨rfl, rfl⟩ ?_ | refine Num.id (by omega) (by omega) ?_); conv => whnf)
        all_goals (refine Fin.num ?_; simp [numTail])
       ·have hd2 := digit_le hd
        have m1 : 0 ≤ u * ((b'.toNat : Int) - 48) := Int.mul_nonneg g3 (by omega)
        have m2 : u * ((b'.toNat : Int) - 48) ≤ u * 9 := Int.mul_le_mul_of_nonneg_left (by omega) g3
        repeat' ((first | refine Case.isTrue (by assumption) ?_ | refine Case.decT (by omega) ?_ | refine Owes.mk (by omega) ?_ | refine Byte.mk j b' rfl (by simpa using hb') ?_ | refine (digit_spec _).call ⟨rfl, rfl⟩ ?_ | refine Num.id (by omega) (by omega) ?_); conv => whnf)
        rw [hs, fracRun, if_pos hd] at g7
        refine ⟨(j + 1, m + u * (b'.toNat - 48), u.tdiv 10, q + 1), ⟨by dsimp only; omega, by dsimp only; omega, by dsimp only; omega, by dsimp only; omega, by dsimp only; omega, by dsimp only; omega, by dsimp only; rw [hr2, g7]⟩, by dsimp only; omega, ?_⟩
        repeat' first | exact trivial | exact rfl | apply And.intro
    ·refine Fin.num ?_; unfold numPoint; dsimp only; rw [if_neg (by omega)]
structure Tok where
 kind : Int := 0
 text : List UInt8 := []
 n : Int := 0
 whole : Bool := false
 c : Int := 0
deriving DecidableEq
def Tok.cells (t : Tok) : Cells := [int t.kind, .str ⟨t.text.toArray⟩, int t.n, bool t.whole, int t.c]
abbrev Tok.d (t : Tok) : D := .agg t.cells
def tok0 : Cells := [int 0, .str ⟨#[]⟩, int 0, bool false, int 0]
theorem digit_lt {l : List Int} {a : Nat} (h : digit (see l a) = true) : a < l.length := by
 refine see_lt ?_
 simp only [digit, Bool.and_eq_true, decide_eq_true_eq] at h
 omega
def digRun (l : List Int) : Nat → Nat → List UInt8 → List UInt8 × Nat
 | 0, p, bs => (bs, p)
 | f + 1, p, bs => if digit (see l p) then digRun l f (p + 1) (bs ++ putB (see l p)) else (bs, p)
theorem digRun_fuel (l : List Int) : ∀ (f g p : Nat) (bs : List UInt8), l.length - p < f → l.length - p < g → digRun l f p bs = digRun l g p bs
 | 0, _, _, _, h, _ => by omega
 | f + 1, 0, _, _, _, h => by omega
 | f + 1, g + 1, p, bs, h1, h2 => by
  unfold digRun
  split
  ·rename_i h
   have := digit_lt h
   exact digRun_fuel l f g _ _ (by omega) (by omega)
  ·rfl
def numSgn (l : List Int) (a : Nat) : List UInt8 × Nat := if see l a = 43 ∨ see l a = 45 then (putB (see l a), a + 1) else ([], a)
def numInt (l : List Int) (a : Nat) : List UInt8 × Nat := digRun l (l.length + 1) (numSgn l a).2 (numSgn l a).1
def numB (l : List Int) (a : Nat) : List UInt8 × Nat × Bool :=
 if see l (numInt l a).2 = 46 ∧ digit (see l ((numInt l a).2 + 1)) = true then
  ((digRun l (l.length + 1) ((numInt l a).2 + 1) ((numInt l a).1 ++ [46])).1, (digRun l (l.length + 1) ((numInt l a).2 + 1) ((numInt l a).1 ++ [46])).2, false)
 else ((numInt l a).1, (numInt l a).2, true)
def numericT (l : List Int) (a : Nat) : Tok :=
 match numB l a with
 | (bs, p, w) => if begins l p then { kind := 8, n := (numV bs).1, text := nameS l p } else if see l p = 37 then { kind := 7, n := (numV bs).1 } else { kind := 6, n := (numV bs).1, whole := w }
def numericP (l : List Int) (a : Nat) : Nat :=
 match numB l a with
 | (bs, p, w) => if begins l p then nameP l p else if see l p = 37 then p + 1 else p
structure DigI (l : List Int) (r : List UInt8 × Nat) (w : Bool) (s : Nat × List UInt8 × Bool) : Prop where
 p : s.1 ≤ l.length
 b : s.2.1.length ≤ 4 * s.1
 w : s.2.2 = w
 run : ∀ f, l.length - s.1 < f → digRun l f s.1 s.2.1 = r
theorem digRun_end {l : List Int} {r : List UInt8 × Nat} {p : Nat} {bs : List UInt8} (h : ∀ f, l.length - p < f → digRun l f p bs = r) (hd : digit (see l p) = false) : r = (bs, p) := by
 rw [← h (l.length - p + 1) (by omega), digRun, if_neg (by simp [hd])]
theorem numeric_spec (l : List Int) (hl : l.length < 100000000) (a : Nat) (ha : a ≤ l.length) : Meth 48 l a (numericT l a).d (numericP l a) := by
 refine ⟨⟨trivial, trivial, trivial, trivial, trivial, trivial⟩, spec_step tab_ok Tryz.func48 (by rfl) rfl ?_⟩
 conv => whnf
 refine step_seq tab_ok ?_
 conv => whnf
 refine step_seq tab_ok ?_
 conv => whnf
 refine step_seq tab_ok ?_
 conv => whnf
 refine step_into (E' := padK [.ptr 0 0, .junk, .ptr 1 0, .own 0 5 1 (([] : List UInt8).map byteRow), bool true] 101) (H' := [some (rdr l a), some tok0]) (n' := 1) rfl ?_ ?_
 ·
  repeat' first | exact trivial | exact rfl | exact (by decide : 0 < 1) | exact Nat.le_refl _ | exact Nat.zero_lt_succ _ | apply And.intro
 conv => whnf
 refine step_cut tab_ok (fun s : Nat × List UInt8 × Bool => padK [.ptr 0 0, .junk, .ptr 1 0, .own 0 5 1 (s.2.1.map byteRow), bool s.2.2] 101) (fun s => [some (rdr l s.1), some tok0]) 1 (fun s => s.1 ≤ l.length ∧ s.2.1.length ≤ 4 * s.1 ∧ s.2.2 = true ∧ (s.2.1, s.1) = numSgn l a) (fun _ => rfl) ?_ ?_
 ·conv => whnf
  repeat' first | ((first | refine Case.yes ?_ | refine Case.decT (by assumption) ?_ | refine Case.decF (by assumption) ?_ | refine (see_at l (by omega) a (by omega) _ a (by omega) (by omega) (by omega)).call ⟨⟨rfl, rfl, trivial⟩, rfl, rfl⟩ ?_ | refine put_call (by simp) ?_ | refine Num.id (by omega) (by omega) ?_); conv => whnf) | (refine Case.dec (fun _ => ?_) (fun _ => ?_) <;> conv => whnf)
  ·have h := see_lt (l := l) (i := a) (by omega)
   have hb := putB_le (see l a)
   refine ⟨(a + 1, putB (see l a), true), ⟨by dsimp only; omega, by dsimp only; omega, rfl, by unfold numSgn; rw [if_pos (by omega)]⟩, ?_⟩
   repeat' first | exact trivial | exact rfl | exact (by decide : 0 < 1) | exact Nat.le_refl _ | exact Nat.zero_lt_succ _ | apply And.intro
  ·have h := see_lt (l := l) (i := a) (by omega)
   have hb := putB_le (see l a)
   refine ⟨(a + 1, putB (see l a), true), ⟨by dsimp only; omega, by dsimp only; omega, rfl, by unfold numSgn; rw [if_pos (by omega)]⟩, ?_⟩
   repeat' first | exact trivial | exact rfl | exact (by decide : 0 < 1) | exact Nat.le_refl _ | exact Nat.zero_lt_succ _ | apply And.intro
  ·refine ⟨(a, [], true), ⟨ha, by simp, rfl, by unfold numSgn; rw [if_neg (by omega)]⟩, ?_⟩
   repeat' first | exact trivial | exact rfl | exact (by decide : 0 < 1) | exact Nat.le_refl _ | exact Nat.zero_lt_succ _ | apply And.intro
 rintro ⟨p, bs, w⟩ ⟨h1, h2, h3, h4⟩
 simp only at h1 h2 h3 h4
 subst h3
 dsimp only
 conv => whnf
 refine step_cut tab_ok (fun s : Nat × List UInt8 × Bool => padK [.ptr 0 0, .junk, .ptr 1 0, .own 0 5 1 (s.2.1.map byteRow), bool s.2.2] 101) (fun s => [some (rdr l s.1), some tok0]) 1 (fun s => s.1 ≤ l.length ∧ s.2.1.length ≤ 4 * s.1 ∧ s.2.2 = true ∧ (s.2.1, s.1) = numInt l a) (fun _ => rfl) ?_ ?_
 ·conv => whnf
  refine step_loop tab_ok (fun s : Nat × List UInt8 × Bool => padK [.ptr 0 0, .junk, .ptr 1 0, .own 0 5 1 (s.2.1.map byteRow), bool s.2.2] 101) (fun s => [some (rdr l s.1), some tok0]) 1 (DigI l (numInt l a) true) (fun s => l.length - s.1) (p, bs, true) ⟨h1, h2, rfl, fun f hf => ?_⟩ (fun _ => rfl) ?_ ?_
  ·dsimp only at hf ⊢
   unfold numInt
   rw [← h4]
   exact digRun_fuel l f _ _ _ hf (by omega)
  ·
   repeat' first | exact trivial | exact rfl | exact (by decide : 0 < 1) | exact Nat.le_refl _ | exact Nat.zero_lt_succ _ | apply And.intro
  ·rintro ⟨p, bs, w⟩ ⟨g1, g2, g3, g4⟩
   simp only at g1 g2 g3 g4
   subst g3
   dsimp only
   conv => whnf
   repeat' first | ((first | refine (see_at l (by omega) p (by omega) _ p (by omega) (by omega) (by omega)).call ⟨⟨rfl, rfl, trivial⟩, rfl, rfl⟩ ?_ | refine (digit_spec _).call ⟨rfl, rfl⟩ ?_ | refine put_call (by omega) ?_ | refine Num.id (by omega) (by omega) ?_); conv => whnf) | (refine Case.mk (fun _ => ?_) (fun _ => ?_) <;> conv => whnf)
   ·have h := digit_lt (by assumption)
    have hb := putB_le (see l p)
    refine ⟨(p + 1, bs ++ putB (see l p), true), ⟨by dsimp only; omega, by dsimp only; rw [List.length_append]; omega, rfl, fun f hf => ?_⟩, by dsimp only; omega, ?_⟩
    ·dsimp only at hf ⊢
     rw [← g4 (f + 1) (by omega), digRun, if_pos (by assumption)]
    ·
     repeat' first | exact trivial | exact rfl | exact (by decide : 0 < 1) | exact Nat.le_refl _ | exact Nat.zero_lt_succ _ | apply And.intro
   ·refine ⟨(p, bs, true), ⟨g1, g2, rfl, (digRun_end g4 (by assumption)).symm⟩, ?_⟩
    repeat' first | exact trivial | exact rfl | exact (by decide : 0 < 1) | exact Nat.le_refl _ | exact Nat.zero_lt_succ _ | apply And.intro
 clear h1 h2 h4 p bs
 rintro ⟨p, bs, w⟩ ⟨h1, h2, h3, h4⟩
 simp only at h1 h2 h3 h4
 subst h3
 dsimp only
 conv => whnf
 have e1 : (numInt l a).1 = bs := by rw [← h4]
 have e2 : (numInt l a).2 = p := by rw [← h4]
 refine step_cut tab_ok (fun s : Nat × List UInt8 × Bool => padK [.ptr 0 0, .junk, .ptr 1 0, .own 0 5 1 (s.2.1.map byteRow), bool s.2.2] 101) (fun s => [some (rdr l s.1), some tok0]) 1 (fun s => s.1 ≤ l.length ∧ s.2.1.length ≤ 4 * s.1 ∧ (s.2.1, s.1, s.2.2) = numB l a) (fun _ => rfl) ?_ ?_
 ·conv => whnf
  repeat' first | ((first | refine Case.no ?_ | refine Case.decT (by assumption) ?_ | refine Case.decF (by assumption) ?_ | refine (see_at l (by omega) p (by omega) _ p (by omega) (by omega) (by omega)).call ⟨⟨rfl, rfl, trivial⟩, rfl, rfl⟩ ?_ | refine (see_at l (by omega) p (by omega) _ (p + 1) (by omega) (by omega) (by omega)).call ⟨⟨rfl, rfl, trivial⟩, rfl, rfl⟩ ?_ | refine (digit_spec _).call ⟨rfl, rfl⟩ ?_ | (refine Owes.mk (by first | omega | (simp; omega)) ?_) | refine Num.id (by omega) (by omega) ?_); conv => whnf) | (refine Case.dec (fun _ => ?_) (fun _ => ?_) <;> conv => whnf) | (refine Case.mk (fun _ => ?_) (fun _ => ?_) <;> conv => whnf)
  ·have hd := digit_lt (by assumption)
   have er : bs.map byteRow ++ [[F.v (.int .u8 46)]] = (bs ++ [46]).map byteRow := by simp [byteRow]
   have en : numB l a = ((digRun l (l.length + 1) (p + 1) (bs ++ [46])).1, (digRun l (l.length + 1) (p + 1) (bs ++ [46])).2, false) := by
    unfold numB; rw [e1, e2, if_pos ⟨by assumption, by assumption⟩]
   rw [er, en]
   refine step_loop tab_ok (fun s : Nat × List UInt8 × Bool => padK [.ptr 0 0, .junk, .ptr 1 0, .own 0 5 1 (s.2.1.map byteRow), bool s.2.2] 101) (fun s => [some (rdr l s.1), some tok0]) 1 (DigI l (digRun l (l.length + 1) (p + 1) (bs ++ [46])) false) (fun s => l.length - s.1) (p + 1, bs ++ [46], false) ⟨by dsimp only; omega, by dsimp only; rw [List.length_append]; simp; omega, rfl, fun f hf => ?_⟩ (fun _ => rfl) ?_ ?_
   ·dsimp only at hf ⊢
    exact digRun_fuel l f _ _ _ hf (by omega)
   ·
    repeat' first | exact trivial | exact rfl | exact (by decide : 0 < 1) | exact Nat.le_refl _ | exact Nat.zero_lt_succ _ | apply And.intro
   ·clear en er e1 e2 h4
    generalize digRun l (l.length + 1) (p + 1) (bs ++ [46]) = r0
    rintro ⟨p, bs, w⟩ ⟨g1, g2, g3, g4⟩
    simp only at g1 g2 g3 g4
    subst g3
    dsimp only
    conv => whnf
    repeat' first | ((first | refine (see_at l (by omega) p (by omega) _ p (by omega) (by omega) (by omega)).call ⟨⟨rfl, rfl, trivial⟩, rfl, rfl⟩ ?_ | refine (digit_spec _).call ⟨rfl, rfl⟩ ?_ | refine put_call (by omega) ?_ | refine Num.id (by omega) (by omega) ?_); conv => whnf) | (refine Case.mk (fun _ => ?_) (fun _ => ?_) <;> conv => whnf)
    ·have h := digit_lt (by assumption : digit (see l p) = true)
     have hb := putB_le (see l p)
     refine ⟨(p + 1, bs ++ putB (see l p), false), ⟨by dsimp only; omega, by dsimp only; rw [List.length_append]; omega, rfl, fun f hf => ?_⟩, by dsimp only; omega, ?_⟩
     ·dsimp only at hf ⊢
      rw [← g4 (f + 1) (by omega), digRun, if_pos (by assumption)]
     ·
      repeat' first | exact trivial | exact rfl | exact (by decide : 0 < 1) | exact Nat.le_refl _ | exact Nat.zero_lt_succ _ | apply And.intro
    ·have e := digRun_end g4 (by assumption)
     refine ⟨(p, bs, false), ⟨g1, g2, by rw [e]⟩, ?_⟩
     repeat' first | exact trivial | exact rfl | exact (by decide : 0 < 1) | exact Nat.le_refl _ | exact Nat.zero_lt_succ _ | apply And.intro
  ·refine ⟨(p, bs, true), ⟨h1, h2, by unfold numB; rw [e1, e2, if_neg (by simp_all)]⟩, ?_⟩
   repeat' first | exact trivial | exact rfl | exact (by decide : 0 < 1) | exact Nat.le_refl _ | exact Nat.zero_lt_succ _ | apply And.intro
  ·refine ⟨(p, bs, true), ⟨h1, h2, by unfold numB; rw [e1, e2, if_neg (by simp_all)]⟩, ?_⟩
   repeat' first | exact trivial | exact rfl | exact (by decide : 0 < 1) | exact Nat.le_refl _ | exact Nat.zero_lt_succ _ | apply And.intro
 clear h1 h2 h4 e1 e2 p bs
 rintro ⟨p, bs, w⟩ ⟨h1, h2, h4⟩
 simp only at h1 h2 h4
 dsimp only
 conv => whnf
 refine step_of tab_ok ?_
 conv => whnf
 repeat' first | ((first | refine (see_at l (by omega) p (by omega) _ p (by omega) (by omega) (by omega)).call ⟨⟨rfl, rfl, trivial⟩, rfl, rfl⟩ ?_ | refine Owes.mk rfl ?_ | refine AsBytes.mk bs rfl ?_ | refine (num_spec bs (by omega)).call ⟨rfl, rfl⟩ ?_ | refine (begins_at l (by omega) p (by omega) _ p (by omega) (by omega) (by omega)).call ⟨⟨rfl, rfl, trivial⟩, rfl, rfl⟩ ?_ | refine (name_spec l hl p h1).call ?_ | refine Num.id (by omega) (by omega) ?_); conv => whnf) | (refine Case.dec (fun _ => ?_) (fun _ => ?_) <;> conv => whnf) | (refine Case.mk (fun _ => ?_) (fun _ => ?_) <;> conv => whnf)
 ·have eT : numericT l a = { kind := 8, n := (numV bs).1, text := nameS l p } := by unfold numericT; rw [← h4]; dsimp only; rw [if_pos (by assumption)]
  have eP : numericP l a = nameP l p := by unfold numericP; rw [← h4]; dsimp only; rw [if_pos (by assumption)]
  exact Fin.rd (nameP l p) ⟨trivial, trivial, trivial, trivial, trivial, trivial⟩ rfl ⟨by rw [eT]; rfl, by rw [eP]⟩
 ·have eT : numericT l a = { kind := 7, n := (numV bs).1 } := by unfold numericT; rw [← h4]; dsimp only; rw [if_neg (by simp_all), if_pos (by assumption)]
  have eP : numericP l a = p + 1 := by unfold numericP; rw [← h4]; dsimp only; rw [if_neg (by simp_all), if_pos (by assumption)]
  exact Fin.rd (p + 1) ⟨trivial, trivial, trivial, trivial, trivial, trivial⟩ rfl ⟨by rw [eT]; rfl, by rw [eP]⟩
 ·have eT : numericT l a = { kind := 6, n := (numV bs).1, whole := w } := by unfold numericT; rw [← h4]; dsimp only; rw [if_neg (by simp_all), if_neg (by assumption)]
  have eP : numericP l a = p := by unfold numericP; rw [← h4]; dsimp only; rw [if_neg (by simp_all), if_neg (by assumption)]
  exact Fin.rd p ⟨trivial, trivial, trivial, trivial, trivial, trivial⟩ rfl ⟨by rw [eT]; rfl, by rw [eP]⟩
def strRun (l : List Int) (e : Int) : Nat → Nat → List UInt8 → Tok × Nat
  | 0, p, bs => ({}, p)
  | f + 1, p, bs => if see l p < 0 then ({ kind := 4, text := bs }, p)
    else if see l p = e then ({ kind := 4, text := bs }, p + 1)
    else if see l p = 10 then ({ kind := 5 }, p)
    else if see l p = 92 then
      (if see l (p + 1) < 0 then strRun l e f (p + 1) bs
       else if see l (p + 1) = 10 then strRun l e f (p + 2) bs
       else strRun l e f (escapedP l p) (bs ++ putB (escapedV l p)))
    else strRun l e f (p + 1) (bs ++ putB (see l p))
theorem escape_of {l : List Int} {p : Nat} (h1 : see l p = 92) (h2 : ¬ see l (p + 1) < 0) (h3 : ¬ see l (p + 1) = 10) : escape l p = true := by
  simp only [escape, Bool.and_eq_true, decide_eq_true_eq, Bool.not_eq_true', decide_eq_false_iff_not]
  omega
theorem strRun_fuel (l : List Int) (e : Int) : ∀ (f g p : Nat) (bs : List UInt8), l.length - p < f → l.length - p < g → strRun l e f p bs = strRun l e g p bs
  | 0, _, _, _, h, _ => by omega
  | f + 1, 0, _, _, _, h => by omega
  | f + 1, g + 1, p, bs, h1, h2 => by
    unfold strRun
    split
    · rfl
    · rename_i h0
      have hlt := see_lt (l := l) (i := p) (by omega)
      split
      · rfl
      · split
        · rfl
        · split
          · split
            · exact strRun_fuel l e f g _ _ (by omega) (by omega)
            · split
              · exact strRun_fuel l e f g _ _ (by omega) (by omega)
              · rename_i h92 hn h10
                have := escapedP_le (escape_of h92 hn h10)
                exact strRun_fuel l e f g _ _ (by omega) (by omega)
          · exact strRun_fuel l e f g _ _ (by omega) (by omega)
def strT (l : List Int) (a : Nat) : Tok := (strRun l (see l a) (l.length + 1) (a + 1) []).1
def strP (l : List Int) (a : Nat) : Nat := (strRun l (see l a) (l.length + 1) (a + 1) []).2
structure StrI (l : List Int) (a : Nat) (s : Nat × List UInt8) : Prop where
  p : s.1 ≤ l.length
  b : s.2.length ≤ 4 * s.1
  run : ∀ f, l.length - s.1 < f → strRun l (see l a) f s.1 s.2 = strRun l (see l a) (l.length + 1) (a + 1) []
theorem str_spec (l : List Int) (hl : l.length < 100000000) (a : Nat) (ha : a < l.length) : Meth 44 l a (strT l a).d (strP l a) := by
  refine ⟨⟨trivial, trivial, trivial, trivial, trivial, trivial⟩, spec_mk tab_ok Tryz.func44 (by rfl) rfl ?_⟩
  conv => whnf
  repeat' ((first | refine (see_at l (by omega) a (by omega) _ a (by omega) (by omega) (by omega)).call ⟨⟨rfl, rfl, trivial⟩, rfl, rfl⟩ ?_ | refine Num.id (by omega) (by omega) ?_); conv => whnf)
  refine step_loop tab_ok (fun s => padK [.ptr 0 0, .junk, .ptr 1 0, int (see l a), .own 0 5 1 (s.2.map byteRow)] 90) (fun s => [some (rdr l s.1), some tok0]) 1 (StrI l a) (fun s => l.length - s.1) (a + 1, []) ⟨by dsimp only; omega, by simp, fun f hf => strRun_fuel l _ _ _ _ _ hf (by dsimp only at hf; omega)⟩ (fun _ => rfl) ?_ ?_
  ·
    repeat' first | exact trivial | exact rfl | exact (by decide : 0 < 1) | exact Nat.le_refl _ | exact Nat.zero_lt_succ _ | apply And.intro
  · rintro ⟨p, bs⟩ ⟨h1, h2, h3⟩
    simp only at h1 h2 h3
    have e0 := h3 (l.length - p + 1) (by omega)
    rw [strRun] at e0
    dsimp only
    conv => whnf
    repeat' first | ((first | refine Case.no ?_ | refine Case.decT (by assumption) ?_ | refine Case.decF (by assumption) ?_ | refine (see_at l (by omega) p (by omega) _ p (by omega) (by omega) (by omega)).call ⟨⟨rfl, rfl, trivial⟩, rfl, rfl⟩ ?_ | refine (see_at l (by omega) p (by omega) _ (p + 1) (by omega) (by omega) (by omega)).call ⟨⟨rfl, rfl, trivial⟩, rfl, rfl⟩ ?_ | refine (escaped_meth l (by omega) p (by omega)).call ?_ | refine put_call (by omega) ?_ | refine Owes.mk rfl ?_ | refine AsBytes.mk bs rfl ?_ | refine Num.id (by omega) (by omega) ?_); conv => whnf) | (refine Case.dec (fun _ => ?_) (fun _ => ?_) <;> conv => whnf)
    · rw [if_pos (by assumption)] at e0
      exact Fin.rd (p) ⟨trivial, trivial, trivial, trivial, trivial, trivial⟩ rfl ⟨by unfold strT; rw [← e0]; rfl, by unfold strP; rw [← e0]⟩
    · rw [if_neg (by assumption), if_pos (by assumption)] at e0
      exact Fin.rd (p + 1) ⟨trivial, trivial, trivial, trivial, trivial, trivial⟩ rfl ⟨by unfold strT; rw [← e0]; rfl, by unfold strP; rw [← e0]⟩
    · rw [if_neg (by assumption), if_neg (by assumption), if_pos (by assumption)] at e0
      exact Fin.rd (p) ⟨trivial, trivial, trivial, trivial, trivial, trivial⟩ rfl ⟨by unfold strT; rw [← e0]; rfl, by unfold strP; rw [← e0]⟩
    · rw [if_neg (by assumption), if_neg (by assumption), if_neg (by assumption), if_pos (by assumption), if_pos (by assumption)] at e0
      have hp := see_lt (l := l) (i := p) (by omega)
      refine ⟨(p + 1, bs), ⟨by dsimp only; omega, by dsimp only; (try rw [List.length_append]); omega, fun f hf => ?_⟩, by dsimp only; omega, ?_⟩
      · dsimp only at hf ⊢
        rw [← e0]
        exact strRun_fuel l _ f _ _ _ hf (by omega)
      ·
        repeat' first | exact trivial | exact rfl | exact (by decide : 0 < 1) | exact Nat.le_refl _ | exact Nat.zero_lt_succ _ | apply And.intro
    · rw [if_neg (by assumption), if_neg (by assumption), if_neg (by assumption), if_pos (by assumption), if_neg (by assumption), if_pos (by assumption)] at e0
      have hp := see_lt (l := l) (i := p) (by omega)
      have hp1 := see_lt (l := l) (i := p + 1) (by omega)
      refine ⟨(p + 2, bs), ⟨by dsimp only; omega, by dsimp only; (try rw [List.length_append]); omega, fun f hf => ?_⟩, by dsimp only; omega, ?_⟩
      · dsimp only at hf ⊢
        rw [← e0]
        exact strRun_fuel l _ f _ _ _ hf (by omega)
      ·
        repeat' first | exact trivial | exact rfl | exact (by decide : 0 < 1) | exact Nat.le_refl _ | exact Nat.zero_lt_succ _ | apply And.intro
    · rw [if_neg (by assumption), if_neg (by assumption), if_neg (by assumption), if_pos (by assumption), if_neg (by assumption), if_neg (by assumption)] at e0
      have hp := see_lt (l := l) (i := p) (by omega)
      have hp1 := escapedP_le (escape_of (by assumption) (by assumption) (by assumption))
      have hb := putB_le (escapedV l p)
      refine ⟨(escapedP l p, bs ++ putB (escapedV l p)), ⟨by dsimp only; omega, by dsimp only; (try rw [List.length_append]); omega, fun f hf => ?_⟩, by dsimp only; omega, ?_⟩
      · dsimp only at hf ⊢
        rw [← e0]
        exact strRun_fuel l _ f _ _ _ hf (by omega)
      ·
        repeat' first | exact trivial | exact rfl | exact (by decide : 0 < 1) | exact Nat.le_refl _ | exact Nat.zero_lt_succ _ | apply And.intro
    · rw [if_neg (by assumption), if_neg (by assumption), if_neg (by assumption), if_neg (by assumption)] at e0
      have hp := see_lt (l := l) (i := p) (by omega)
      have hb := putB_le (see l p)
      refine ⟨(p + 1, bs ++ putB (see l p)), ⟨by dsimp only; omega, by dsimp only; (try rw [List.length_append]); omega, fun f hf => ?_⟩, by dsimp only; omega, ?_⟩
      · dsimp only at hf ⊢
        rw [← e0]
        exact strRun_fuel l _ f _ _ _ hf (by omega)
      ·
        repeat' first | exact trivial | exact rfl | exact (by decide : 0 < 1) | exact Nat.le_refl _ | exact Nat.zero_lt_succ _ | apply And.intro
theorem nameRun_le (l : List Int) : ∀ (f p : Nat) (bs : List UInt8), p ≤ l.length → p ≤ (nameRun l f p bs).2 ∧ (nameRun l f p bs).2 ≤ l.length
 | 0, p, bs, h => ⟨Nat.le_refl _, h⟩
 | f + 1, p, bs, h => by
  unfold nameRun
  split
  ·rename_i h1
   have h2 := namePoint_lt h1
   have := nameRun_le l f (p + 1) (bs ++ putB (see l p)) h2
   omega
  ·split
   ·rename_i h1
    have h2 := escapedP_le h1
    have := nameRun_le l f (escapedP l p) (bs ++ putB (escapedV l p)) h2.2
    omega
   ·exact ⟨Nat.le_refl _, h⟩
theorem nameP_le {l : List Int} {p : Nat} (h : p ≤ l.length) : p ≤ nameP l p ∧ nameP l p ≤ l.length := nameRun_le l _ _ _ h
theorem nameP_gt {l : List Int} {p : Nat} (h : begins l p = true) : p < nameP l p ∧ nameP l p ≤ l.length := by
 have h1 : namePoint (see l p) = true ∨ escape l p = true := by
  unfold begins at h
  split at h
  ·left; rename_i h2; simp [namePoint, h2]
  ·simp only [Bool.or_eq_true] at h
   rcases h with h | h
   ·left; simp [namePoint, h]
   ·exact .inr h
 unfold nameP
 rw [nameRun]
 rcases h1 with h1 | h1
 ·rw [if_pos h1]
  have h2 := namePoint_lt h1
  have := nameRun_le l l.length (p + 1) ([] ++ putB (see l p)) h2
  omega
 ·have h2 := escapedP_le h1
  split
  ·rename_i h3
   have h4 := namePoint_lt h3
   have := nameRun_le l l.length (p + 1) ([] ++ putB (see l p)) h4
   omega
  ·have := nameRun_le l l.length (escapedP l p) ([] ++ putB (escapedV l p)) h2.2
   omega
theorem digRun_le (l : List Int) : ∀ (f p : Nat) (bs : List UInt8), p ≤ l.length → p ≤ (digRun l f p bs).2 ∧ (digRun l f p bs).2 ≤ l.length
 | 0, p, bs, h => ⟨Nat.le_refl _, h⟩
 | f + 1, p, bs, h => by
  unfold digRun
  split
  ·rename_i h1
   have h2 := digit_lt h1
   have := digRun_le l f (p + 1) (bs ++ putB (see l p)) h2
   omega
  ·exact ⟨Nat.le_refl _, h⟩
theorem digRun_gt {l : List Int} {f p : Nat} {bs : List UInt8} (h : digit (see l p) = true) : p < (digRun l (f + 1) p bs).2 := by
 rw [digRun, if_pos h]
 have := digRun_le l f (p + 1) (bs ++ putB (see l p)) (digit_lt h)
 omega
theorem numB_gt {l : List Int} {p : Nat} (h : number l p = true) : p < (numB l p).2.1 ∧ (numB l p).2.1 ≤ l.length := by
 have hp : p < l.length := by
  refine see_lt ?_
  unfold number at h
  split at h
  ·omega
  ·simp only [Bool.or_eq_true, Bool.and_eq_true, digit, decide_eq_true_eq] at h
   omega
 have h1 : p ≤ (numSgn l p).2 ∧ (numSgn l p).2 ≤ l.length ∧ (p < (numSgn l p).2 ∨ (numSgn l p).2 = p ∧ ¬ (see l p = 43 ∨ see l p = 45)) := by
  unfold numSgn
  split
  ·exact ⟨by dsimp only; omega, by dsimp only; omega, .inl (by dsimp only; omega)⟩
  ·exact ⟨by dsimp only; omega, by dsimp only; omega, .inr ⟨rfl, by assumption⟩⟩
 have h2 := digRun_le l (l.length + 1) (numSgn l p).2 (numSgn l p).1 h1.2.1
 have h3 : (numInt l p).2 = (digRun l (l.length + 1) (numSgn l p).2 (numSgn l p).1).2 := rfl
 unfold numB
 split
 ·rename_i h4
  have h5 := digit_lt h4.2
  have := digRun_le l (l.length + 1) ((numInt l p).2 + 1) ((numInt l p).1 ++ [46]) (by omega)
  dsimp only
  omega
 ·rename_i h4
  dsimp only
  refine ⟨?_, by omega⟩
  rcases h1.2.2 with h5 | ⟨h5, h6⟩
  ·omega
  ·have h7 : digit (see l p) = true ∨ (see l p = 46 ∧ digit (see l (p + 1)) = true) := by
    unfold number at h
    rw [if_neg h6] at h
    simpa using h
   rcases h7 with h7 | h7
   ·have := digRun_gt (l := l) (f := l.length) (p := p) (bs := (numSgn l p).1) h7
    rw [h5] at h3
    omega
   ·exfalso
    have h8 : digit (see l p) = false := by rw [h7.1]; decide
    have h9 : numInt l p = ((numSgn l p).1, p) := by
     unfold numInt
     rw [h5, digRun, if_neg (by simp [h8])]
    rw [h9] at h4
    exact h4 h7
theorem numericP_gt {l : List Int} {p : Nat} (h : number l p = true) : p < numericP l p ∧ numericP l p ≤ l.length := by
 have h1 := numB_gt h
 unfold numericP
 generalize numB l p = x at h1
 obtain ⟨bs, q, w⟩ := x
 dsimp only at h1 ⊢
 split
 ·have := nameP_le h1.2; omega
 ·split
  ·have := see_lt (l := l) (i := q) (by omega); omega
  ·omega
theorem strRun_le (l : List Int) (e : Int) : ∀ (f p : Nat) (bs : List UInt8), p ≤ l.length → p ≤ (strRun l e f p bs).2 ∧ (strRun l e f p bs).2 ≤ l.length
 | 0, p, bs, h => ⟨Nat.le_refl _, h⟩
 | f + 1, p, bs, h => by
  unfold strRun
  split
  ·exact ⟨Nat.le_refl _, h⟩
  ·have hp := see_lt (l := l) (i := p) (by omega)
   split
   ·exact ⟨Nat.le_succ _, hp⟩
   ·split
    ·exact ⟨Nat.le_refl _, h⟩
    ·split
     ·split
      ·have := strRun_le l e f (p + 1) bs hp; omega
      ·have hp1 := see_lt (l := l) (i := p + 1) (by omega)
       split
       ·have := strRun_le l e f (p + 2) bs (by omega); omega
       ·rename_i h92 hn h10
        have h2 := escapedP_le (escape_of h92 hn h10)
        have := strRun_le l e f (escapedP l p) (bs ++ putB (escapedV l p)) h2.2
        omega
     ·have := strRun_le l e f (p + 1) (bs ++ putB (see l p)) hp; omega
theorem strP_gt {l : List Int} {p : Nat} (h : p < l.length) : p < strP l p ∧ strP l p ≤ l.length := by
 have := strRun_le l (see l p) (l.length + 1) (p + 1) [] h
 unfold strP
 omega
def commentEnd (l : List Int) : Nat → Nat → Nat
 | 0, p => p
 | f + 1, p => if 0 ≤ see l p ∧ (see l p ≠ 42 ∨ see l (p + 1) ≠ 47) then commentEnd l f (p + 1) else p
theorem commentEnd_le (l : List Int) : ∀ (f p : Nat), p ≤ l.length → p ≤ commentEnd l f p ∧ commentEnd l f p ≤ l.length
 | 0, p, h => ⟨Nat.le_refl _, h⟩
 | f + 1, p, h => by
  unfold commentEnd
  split
  ·rename_i h1
   have := commentEnd_le l f (p + 1) (see_lt h1.1)
   omega
  ·exact ⟨Nat.le_refl _, h⟩
theorem commentEnd_fuel (l : List Int) : ∀ (f g p : Nat), l.length - p < f → l.length - p < g → commentEnd l f p = commentEnd l g p
 | 0, _, _, h, _ => by omega
 | f + 1, 0, _, _, h => by omega
 | f + 1, g + 1, p, h1, h2 => by
  unfold commentEnd
  split
  ·rename_i h
   have := see_lt h.1
   exact commentEnd_fuel l f g _ (by omega) (by omega)
  ·rfl
def whiteEnd (l : List Int) : Nat → Nat → Nat
 | 0, p => p
 | f + 1, p => if white (see l p) then whiteEnd l f (p + 1) else p
theorem whiteEnd_le (l : List Int) : ∀ (f p : Nat), p ≤ l.length → p ≤ whiteEnd l f p ∧ whiteEnd l f p ≤ l.length
 | 0, p, h => ⟨Nat.le_refl _, h⟩
 | f + 1, p, h => by
  unfold whiteEnd
  split
  ·rename_i h1
   have := whiteEnd_le l f (p + 1) (white_see h1)
   omega
  ·exact ⟨Nat.le_refl _, h⟩
theorem whiteEnd_fuel (l : List Int) : ∀ (f g p : Nat), l.length - p < f → l.length - p < g → whiteEnd l f p = whiteEnd l g p
 | 0, _, _, h, _ => by omega
 | f + 1, 0, _, _, h => by omega
 | f + 1, g + 1, p, h1, h2 => by
  unfold whiteEnd
  split
  ·rename_i h
   have := white_see h
   exact whiteEnd_fuel l f g _ (by omega) (by omega)
  ·rfl
def tokNext (l : List Int) (p : Nat) : List Tok × Nat :=
 if see l p = 47 ∧ see l (p + 1) = 42 then ([], commentEnd l (l.length + 1) (p + 2) + 2)
 else if white (see l p) then ([{ kind := 9 }], whiteEnd l (l.length + 1) p)
 else if see l p = 34 ∨ see l p = 39 then ([strT l p], strP l p)
 else if see l p = 35 ∧ (namePoint (see l (p + 1)) = true ∨ escape l (p + 1) = true) then ([{ kind := 3, text := nameS l (p + 1) }], nameP l (p + 1))
 else if number l p then ([numericT l p], numericP l p)
 else if see l p = 64 ∧ begins l (p + 1) = true then ([{ kind := 2, text := nameS l (p + 1) }], nameP l (p + 1))
 else if begins l p then (if see l (nameP l p) = 40 then ([{ kind := 20, text := nameS l p }], nameP l p + 1) else ([{ kind := 1, text := nameS l p }], nameP l p))
 else if 0 < sign (see l p) then ([{ kind := sign (see l p) }], p + 1)
 else ([{ kind := 10, c := see l p }], p + 1)
def tokRun (l : List Int) : Nat → Nat → List Tok → List Tok
 | 0, _, ts => ts
 | f + 1, p, ts => if 0 ≤ see l p then tokRun l f (tokNext l p).2 (ts ++ (tokNext l p).1) else ts
def tokens (l : List Int) : List Tok := tokRun l (l.length + 1) 0 []
theorem tokNext_gt {l : List Int} {p : Nat} (h : 0 ≤ see l p) : p < (tokNext l p).2 ∧ (tokNext l p).2 ≤ l.length + 2 ∧ (tokNext l p).1.length ≤ 1 := by
 have hp := see_lt h
 unfold tokNext
 split
 ·have := see_lt (l := l) (i := p + 1) (by omega)
  have := commentEnd_le l (l.length + 1) (p + 2) (by omega)
  exact ⟨by dsimp only; omega, by dsimp only; omega, by simp⟩
 split
 ·rename_i hw
  have := whiteEnd_le l l.length (p + 1) hp
  have e : whiteEnd l (l.length + 1) p = whiteEnd l l.length (p + 1) := by rw [whiteEnd, if_pos hw]
  exact ⟨by dsimp only; omega, by dsimp only; omega, by simp⟩
 split
 ·have := strP_gt hp
  exact ⟨by dsimp only; omega, by dsimp only; omega, by simp⟩
 split
 ·have := nameP_le (l := l) (p := p + 1) hp
  exact ⟨by dsimp only; omega, by dsimp only; omega, by simp⟩
 split
 ·rename_i hn
  have := numericP_gt hn
  exact ⟨by dsimp only; omega, by dsimp only; omega, by simp⟩
 split
 ·have := nameP_le (l := l) (p := p + 1) hp
  exact ⟨by dsimp only; omega, by dsimp only; omega, by simp⟩
 split
 ·rename_i hb
  have := nameP_gt hb
  split
  ·exact ⟨by dsimp only; omega, by dsimp only; omega, by simp⟩
  ·exact ⟨by dsimp only; omega, by dsimp only; omega, by simp⟩
 split
 ·exact ⟨by dsimp only; omega, by dsimp only; omega, by simp⟩
 ·exact ⟨by dsimp only; omega, by dsimp only; omega, by simp⟩
theorem tokRun_fuel (l : List Int) : ∀ (f g p : Nat) (ts : List Tok), l.length - p < f → l.length - p < g → tokRun l f p ts = tokRun l g p ts
 | 0, _, _, _, h, _ => by omega
 | f + 1, 0, _, _, _, h => by omega
 | f + 1, g + 1, p, ts, h1, h2 => by
  unfold tokRun
  split
  ·rename_i h
   have h3 := see_lt h
   have h4 := tokNext_gt h
   exact tokRun_fuel l f g _ _ (by omega) (by omega)
  ·rfl
end Go.Proofs.YtlhegfkpgchaeaaGreatDoor.Aw
