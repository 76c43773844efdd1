/- The reference's Points and Prepare. -/
import Derived.Test.YtofjmhigfihhbaaDoorXrK
namespace Go.Proofs.YtofjmhigfihhbaaDoor.Aw
open Go Go.RowKit Go.Lib
set_option linter.unusedVariables false
set_option linter.unusedSimpArgs false
set_option maxRecDepth 100000
abbrev intsD (l : List Int) : D := .own 0 3 1 (ptsF l)
theorem Fin.ints {l : List Int} {H : Hp} {n : Nat} {R : D → Hp → Prop} (hR : R (.f (.sl (ptsF l))) []) : Fin (intsD l) H n 0 0 R := by
  refine Fin.frz 0 (Fin.mk (.f (.sl (ptsF l))) [] hR rfl ⟨?_, by unfold intoH; cases frzH 0 H <;> trivial⟩)
  unfold intoL intoL intoD
  exact ⟨rfl, rfl⟩
theorem ptsF_row {l : List Int} : ∀ e ∈ ptsF l, e.length = 1 := by simp [ptsF]
def ptsRun (bs : List UInt8) : Nat → Nat → List Int → List Int
  | 0, _, out => out
  | f + 1, i, out => if i < bs.length then ptsRun bs f (i + (pointV (bs.drop i)).2) (out ++ [(pointV (bs.drop i)).1]) else out
def points (bs : List UInt8) : List Int := ptsRun bs (bs.length + 1) 0 []
theorem pointV_drop {bs : List UInt8} {i : Nat} (h : i < bs.length) : 1 ≤ (pointV (bs.drop i)).2 ∧ i + (pointV (bs.drop i)).2 ≤ bs.length := by
  have := pointV_le (bs := bs.drop i) (by rw [List.length_drop]; omega)
  rw [List.length_drop] at this
  omega
theorem ptsRun_fuel (bs : List UInt8) : ∀ (f g i : Nat) (out : List Int), bs.length - i < f → bs.length - i < g → ptsRun bs f i out = ptsRun bs g i out
  | 0, _, _, _, h, _ => by omega
  | f + 1, 0, _, _, _, h => by omega
  | f + 1, g + 1, i, out, h1, h2 => by
    unfold ptsRun
    split
    · rename_i h
      have := pointV_drop h
      exact ptsRun_fuel bs f g _ _ (by omega) (by omega)
    · rfl
theorem ptsRun_len (bs : List UInt8) : ∀ (f i : Nat) (out : List Int), out.length ≤ i → i ≤ bs.length → (ptsRun bs f i out).length ≤ bs.length
  | 0, i, out, h, h1 => by unfold ptsRun; omega
  | f + 1, i, out, h, h1 => by
    unfold ptsRun
    split
    · rename_i hi
      have := pointV_drop hi
      exact ptsRun_len bs f _ _ (by rw [List.length_append]; simp; omega) (by omega)
    · omega
theorem points_len (bs : List UInt8) : (points bs).length ≤ bs.length := ptsRun_len bs _ _ _ (by simp) (by simp)
structure PtsI (bs : List UInt8) (s : Nat × List Int) : Prop where
  i : s.1 ≤ bs.length
  o : s.2.length ≤ s.1
  run : ∀ f, bs.length - s.1 < f → ptsRun bs f s.1 s.2 = points bs
def prep : List Int → List Int
  | [] => []
  | c :: r => if c = 13 ∧ r.head? = some 10 then prep r else if c = 13 ∨ c = 12 then 10 :: prep r else if c = 0 then 65533 :: prep r else c :: prep r
theorem prep_len : ∀ l : List Int, (prep l).length ≤ l.length
  | [] => Nat.le_refl _
  | c :: r => by
    have := prep_len r
    unfold prep
    repeat' split
    all_goals simp only [List.length_cons]; omega
def prepare (bs : List UInt8) : List Int := prep (points bs)
theorem prepare_len (bs : List UInt8) : (prepare bs).length ≤ bs.length := Nat.le_trans (prep_len _) (points_len bs)
structure PrepI (l : List Int) (s : Nat × List Int) : Prop where
  i : s.1 ≤ l.length
  o : s.2.length ≤ s.1
  run : s.2 ++ prep (l.drop s.1) = prep l
theorem drop_step {l : List Int} {i : Nat} {c : Int} (h : l[i]? = some c) : l.drop i = c :: l.drop (i + 1) := by
  obtain ⟨h1, h2⟩ := List.getElem?_eq_some_iff.1 h
  rw [List.drop_eq_getElem_cons h1, h2]
end Go.Proofs.YtofjmhigfihhbaaDoor.Aw
