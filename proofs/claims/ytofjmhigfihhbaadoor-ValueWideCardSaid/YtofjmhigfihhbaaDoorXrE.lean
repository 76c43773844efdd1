/- The reference's reader: names. -/
import Derived.Test.YtofjmhigfihhbaaDoorXrD
namespace Go.Proofs.YtofjmhigfihhbaaDoor.Aw
open Go Go.RowKit Go.Lib
set_option linter.unusedVariables false
set_option linter.unusedSimpArgs false
set_option maxRecDepth 100000
/-! Calls by shape. -/
def killsK (l : List Nat) : List D → (List D → Prop) → Prop
  | [], K => K []
  | d :: ds, K => force (D.kills l d) fun d => killsK l ds fun r => K (d :: r)
theorem killsK_eq (l : List Nat) : ∀ (ds : List D) (K : List D → Prop), killsK l ds K = K (killsL l ds)
  | [], _ => rfl
  | d :: ds, K => by unfold killsK; rw [force_eq, killsK_eq l ds]; rfl
def killsHK (l : List Nat) : Hp → (Hp → Prop) → Prop
  | [], K => K []
  | none :: h, K => killsHK l h fun r => K (none :: r)
  | some cs :: h, K => killsK l cs fun cs => killsHK l h fun r => K (some cs :: r)
theorem killsHK_eq (l : List Nat) : ∀ (H : Hp) (K : Hp → Prop), killsHK l H K = K (killsH l H)
  | [], _ => rfl
  | none :: h, K => by unfold killsHK; rw [killsHK_eq l h]; rfl
  | some cs :: h, K => by unfold killsHK; rw [killsK_eq, killsHK_eq l h]; rfl
mutual
theorem kills_nil : ∀ d : D, d.kills [] = d
  | .own _ _ _ _ => by simp [D.kills, memB]
  | .optr _ _ _ _ _ _ => by simp [D.kills, memB]
  | .agg cs => by simp [D.kills, killsL_nil cs]
  | .tup cs => by simp [D.kills, killsL_nil cs]
  | .fn _ cs => by simp [D.kills, killsL_nil cs]
  | .yl _ _ _ cs => by simp [D.kills, killsL_nil cs]
  | .junk => by simp [D.kills]
  | .f _ => by simp [D.kills]
  | .nil => by simp [D.kills]
  | .ptr _ _ => by simp [D.kills]
  | .ip _ => by simp [D.kills]
theorem killsL_nil : ∀ ds : List D, killsL [] ds = ds
  | [] => rfl
  | d :: ds => by simp [killsL, kills_nil d, killsL_nil ds]
end
theorem killsH_nil : ∀ H : Hp, killsH [] H = H
  | [] => rfl
  | none :: h => by simp [killsH, killsH_nil h]
  | some cs :: h => by simp [killsH, killsL_nil, killsH_nil h]
mutual
theorem ren_scal (ρ σ : List Nat) : ∀ d : D, scalD d → d.ren ρ σ = d
  | .f (.v x), _ => by simp [D.ren]
  | .nil, _ => by simp [D.ren]
  | .junk, _ => by simp [D.ren]
  | .agg cs, hs => by unfold scalD at hs; simp [D.ren, renL_scal ρ σ cs hs]
  | .tup cs, hs => by unfold scalD at hs; simp [D.ren, renL_scal ρ σ cs hs]
  | .f (.sl _), hs => hs.elim
  | .own _ _ _ _, hs => hs.elim
  | .optr _ _ _ _ _ _, hs => hs.elim
  | .ptr _ _, hs => hs.elim
  | .ip _, hs => hs.elim
  | .fn _ _, hs => hs.elim
  | .yl _ _ _ _, hs => hs.elim
theorem renL_scal (ρ σ : List Nat) : ∀ ds : List D, scalL ds → renL ρ σ ds = ds
  | [], _ => rfl
  | d :: ds, hs => by unfold scalL at hs; simp [renL, ren_scal ρ σ d hs.1, renL_scal ρ σ ds hs.2]
end
/-- A method of the reader. -/
def Meth (g : FuncId) (l : List Int) (a : Nat) (V : D) (p : Nat) : Prop := scalD V ∧ Spec P g [.ptr 0 0] [some (rdr l a)] 0 (fun d H => d = V ∧ H = [some (rdr l p)])
theorem Meth.call {g : FuncId} {l : List Int} {a p : Nat} {V : D} {E : List D} {H : Hp} {n : Nat} {K : KD} (h : Meth g l a V p) (k : K V E (some (rdr l p) :: H) n) : Call P g [.ptr 0 0] E (some (rdr l a) :: H) n K := by
  refine call_gen («as» := [.ptr 0 0]) [0] [] h.2 (by simp) (by simp) (by simp) (by simp) ?_ ?_ ?_
  · unfold fitH fitH; exact ⟨⟨rfl, ⟨trivial, trivial, trivial⟩⟩, trivial⟩
  · exact ⟨Nat.zero_lt_one, trivial⟩
  · rintro d Hs' ⟨rfl, rfl⟩ _
    rw [ren_scal _ _ _ h.1, killsL_nil, killsH_nil]
    exact k
theorem hexRun_ge (l : List Int) : ∀ (k p : Nat) (n : Int), p ≤ (hexRun l k p n).1 ∧ ((hexRun l k p n).1 = p ∨ (hexRun l k p n).1 ≤ l.length)
  | 0, p, n => ⟨Nat.le_refl _, .inl rfl⟩
  | k + 1, p, n => by
    unfold hexRun
    split
    · rename_i h
      obtain ⟨h1, h2⟩ := hexRun_ge l k (p + 1) (n * 16 + hex (see l p))
      have := hex_see h
      refine ⟨by omega, .inr ?_⟩
      rcases h2 with h2 | h2 <;> omega
    · exact ⟨Nat.le_refl _, .inl rfl⟩
theorem escape_lt {l : List Int} {a : Nat} (h : escape l a = true) : a + 1 < l.length := by
  simp only [escape, Bool.and_eq_true, decide_eq_true_eq] at h
  exact see_lt h.1.2
theorem escapedP_le {l : List Int} {a : Nat} (h : escape l a = true) : a < escapedP l a ∧ escapedP l a ≤ l.length := by
  have h1 := escape_lt h
  unfold escapedP
  split
  · omega
  · obtain ⟨h2, h3⟩ := hexRun_ge l 6 (a + 1) 0
    dsimp only
    split
    · rename_i hw
      have := white_see hw
      omega
    · omega
theorem namePoint_lt {l : List Int} {a : Nat} (h : namePoint (see l a) = true) : a < l.length := by
  refine see_lt ?_
  simp only [namePoint, nameStart, digit, Bool.or_eq_true, Bool.and_eq_true, decide_eq_true_eq] at h
  omega
theorem putB_le (c : Int) : (putB c).length ≤ 4 := by
  unfold putB utfB
  repeat' split
  all_goals simp
/-- A name's bytes, and where it ends. -/
def nameRun (l : List Int) : Nat → Nat → List UInt8 → List UInt8 × Nat
  | 0, p, bs => (bs, p)
  | f + 1, p, bs => if namePoint (see l p) then nameRun l f (p + 1) (bs ++ putB (see l p)) else if escape l p then nameRun l f (escapedP l p) (bs ++ putB (escapedV l p)) else (bs, p)
def nameS (l : List Int) (a : Nat) : List UInt8 := (nameRun l (l.length + 1) a []).1
def nameP (l : List Int) (a : Nat) : Nat := (nameRun l (l.length + 1) a []).2
structure NameI (l : List Int) (a : Nat) (s : Nat × List UInt8) : Prop where
  p : s.1 ≤ l.length
  b : s.2.length ≤ 4 * s.1
  run : ∀ f, l.length - s.1 < f → nameRun l f s.1 s.2 = nameRun l (l.length + 1) a []
theorem nameRun_fuel (l : List Int) : ∀ (f g p : Nat) (bs : List UInt8), l.length - p < f → l.length - p < g → nameRun l f p bs = nameRun l g p bs
  | 0, _, _, _, h, _ => by omega
  | f + 1, 0, _, _, _, h => by omega
  | f + 1, g + 1, p, bs, h1, h2 => by
    unfold nameRun
    split
    · rename_i h
      have := namePoint_lt h
      exact nameRun_fuel l f g _ _ (by omega) (by omega)
    · split
      · rename_i h
        have h3 := escapedP_le h
        exact nameRun_fuel l f g _ _ (by omega) (by omega)
      · rfl
end Go.Proofs.YtofjmhigfihhbaaDoor.Aw
