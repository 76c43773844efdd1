/- The reference's Points and Prepare. -/
import Derived.Test.YtdfiegleaknleaaXrK
namespace Go.Proofs.Ytdfiegleaknleaa.Aw
open Go Go.RowKit Go.Lib
set_option linter.unusedVariables false
set_option linter.unusedSimpArgs false
set_option maxRecDepth 100000
abbrev intsD (l : List Int) : D := .own 0 3 1 (ptsF l)
theorem Fin.ints {l : List Int} {H : Hp} {n : Nat} {R : D → Hp → Prop} (hR : R (.f (.sl (ptsF l))) []) : Fin (intsD l) H n 0 0 R := by
  refine Fin.frz 0 (Fin.mk (.f (.sl (ptsF l))) [] hR rfl ⟨?_, by unfold intoH; cases frzH 0 H <;> trivial⟩)
  unfold intoL intoL intoD
  exact ⟨rfl, rfl⟩
theorem ptsF_row {l : List Int} : ∀ e ∈ ptsF l, e.length = 1 := by simp [ptsF]
def ptsRun (bs : List UInt8) : Nat → Nat → List Int → List Int
  | 0, _, out => out
  | f + 1, i, out => if i < bs.length then ptsRun bs f (i + (pointV (bs.drop i)).2) (out ++ [(pointV (bs.drop i)).1]) else out
def points (bs : List UInt8) : List Int := ptsRun bs (bs.length + 1) 0 []
theorem pointV_drop {bs : List UInt8} {i : Nat} (h : i < bs.length) : 1 ≤ (pointV (bs.drop i)).2 ∧ i + (pointV (bs.drop i)).2 ≤ bs.length := by
  have := pointV_le (bs := bs.drop i) (by rw [List.length_drop]; omega)
  rw [List.length_drop] at this
  omega
theorem ptsRun_fuel (bs : List UInt8) : ∀ (f g i : Nat) (out : List Int), bs.length - i < f → bs.length - i < g → ptsRun bs f i out = ptsRun bs g i out
  | 0, _, _, _, h, _ => by omega
  | f + 1, 0, _, _, _, h => by omega
  | f + 1, g + 1, i, out, h1, h2 => by
    unfold ptsRun
    split
    · rename_i h
      have := pointV_drop h
      exact ptsRun_fuel bs f g _ _ (by omega) (by omega)
    · rfl
theorem ptsRun_len (bs : List UInt8) : ∀ (f i : Nat) (out : List Int), out.length ≤ i → i ≤ bs.length → (ptsRun bs f i out).length ≤ bs.length
  | 0, i, out, h, h1 => by unfold ptsRun; omega
  | f + 1, i, out, h, h1 => by
    unfold ptsRun
    split
    · rename_i hi
      have := pointV_drop hi
      exact ptsRun_len bs f _ _ (by rw [List.length_append]; simp; omega) (by omega)
    · omega
theorem points_len (bs : List UInt8) : (points bs).length ≤ bs.length := ptsRun_len bs _ _ _ (by simp) (by simp)
structure PtsI (bs : List UInt8) (s : Nat × List Int) : Prop where
  i : s.1 ≤ bs.length
  o : s.2.length ≤ s.1
  run : ∀ f, bs.length - s.1 < f → ptsRun bs f s.1 s.2 = points bs
theorem points_spec (bs : List UInt8) (hl : bs.length < 1000000000) : Val 44 [.f (.sl (bs.map byteRow))] (.f (.sl (ptsF (points bs)))) := by
  have hlen : (bs.map byteRow).length = bs.length := by simp
  refine ⟨rfl, ⟨trivial, trivial⟩, rfl, spec_mk tab_ok Try.func44 (by rfl) rfl ?_⟩
  conv => whnf
  refine step_loop tab_ok (fun s : Nat × List Int => padK [.f (.sl (bs.map byteRow)), .junk, .junk, intsD s.2, int s.1] 26) (fun _ => []) 1 (PtsI bs) (fun s => bs.length - s.1) (0, []) ⟨by simp, by simp, fun f hf => ptsRun_fuel bs _ _ _ _ hf (by dsimp only at hf ⊢; omega)⟩ (fun _ => rfl) ?_ ?_
  ·
    repeat' first | exact trivial | exact rfl | exact (by decide : (0 : Nat) < 1) | exact Nat.le_refl _ | exact Nat.zero_lt_succ _ | exact congrArg int (by (try dsimp only); omega) | exact congrArg bool (by (try dsimp only); simp; omega) | (show _ < List.length _; simp; done) | apply And.intro
  · rintro ⟨i, out⟩ ⟨h1, h2, h3⟩
    simp only at h1 h2 h3
    have e0 := h3 (bs.length - i + 1) (by omega)
    rw [ptsRun] at e0
    dsimp only
    conv => whnf
    refine Case.dec (fun h0 => ?_) (fun h0 => ?_)
    · have hi : i < bs.length := by omega
      have hd := pointV_drop hi
      have hdl : (bs.drop i).length = bs.length - i := List.length_drop ..
      rw [if_pos hi] at e0
      conv => whnf
      repeat' first
        | (refine Case.not ?_; conv => whnf)
        | (refine Case.yes ?_; conv => whnf)
        | (refine Case.no ?_; conv => whnf)
        | (refine Case.isTrue (by assumption) ?_; conv => whnf)
        | (refine Case.isFalse (by assumption) ?_; conv => whnf)
        | (refine Case.decT (by assumption) ?_; conv => whnf)
        | (refine Case.decF (by assumption) ?_; conv => whnf)
        | (refine Case.decT (by omega) ?_; conv => whnf)
        | (refine Case.decF (by omega) ?_; conv => whnf)
        | (refine Case.beqT (by omega) ?_; conv => whnf)
        | (refine Case.beqF (by omega) ?_; conv => whnf)
        | (refine Owes.mk byteRow_len ?_; conv => whnf)
        | (refine Part.tail i rfl (by omega) (by omega) ?_; conv => whnf)
        | (refine (point_spec (bs.drop i) (by omega) (by omega)).call ⟨rfl, rfl⟩ ?_; conv => whnf)
        | (refine Owes.mk (by simp [ptsF]; omega) ?_; conv => whnf)
        | (refine Num.id (by omega) (by omega) ?_; conv => whnf)
        | (refine Case.dec (fun _ => ?_) (fun _ => ?_) <;> conv => whnf)
        | (refine Case.beqI (fun _ => ?_) (fun _ => ?_) <;> conv => whnf)
        | (refine Case.mk (fun _ => ?_) (fun _ => ?_) <;> conv => whnf)
      refine ⟨(i + (pointV (bs.drop i)).2, out ++ [(pointV (bs.drop i)).1]), ⟨by dsimp only; omega, by dsimp only; rw [List.length_append]; simp; omega, fun f hf => ?_⟩, by dsimp only; omega, ?_⟩
      · dsimp only at hf ⊢
        rw [← e0]
        exact ptsRun_fuel bs _ _ _ _ hf (by omega)
      ·
        repeat' first | exact trivial | exact rfl | exact (by decide : (0 : Nat) < 1) | exact Nat.le_refl _ | exact Nat.zero_lt_succ _ | exact congrArg int (by (try dsimp only); omega) | exact congrArg bool (by (try dsimp only); simp; omega) | (show _ < List.length _; simp; done) | apply And.intro | exact congrArg (D.own _ _ _) (by simp [ptsF]; done) | exact congrArg int (by unfold ptsF; (repeat' split) <;> omega)
    · rw [if_neg (by omega)] at e0
      subst e0
      conv => whnf
      exact Fin.ints ⟨rfl, rfl⟩
def prep : List Int → List Int
  | [] => []
  | c :: r => if c = 13 ∧ r.head? = some 10 then prep r else if c = 13 ∨ c = 12 then 10 :: prep r else if c = 0 then 65533 :: prep r else c :: prep r
theorem prep_len : ∀ l : List Int, (prep l).length ≤ l.length
  | [] => Nat.le_refl _
  | c :: r => by
    have := prep_len r
    unfold prep
    repeat' split
    all_goals simp only [List.length_cons]; omega
def prepare (bs : List UInt8) : List Int := prep (points bs)
theorem prepare_len (bs : List UInt8) : (prepare bs).length ≤ bs.length := Nat.le_trans (prep_len _) (points_len bs)
structure PrepI (l : List Int) (s : Nat × List Int) : Prop where
  i : s.1 ≤ l.length
  o : s.2.length ≤ s.1
  run : s.2 ++ prep (l.drop s.1) = prep l
theorem drop_step {l : List Int} {i : Nat} {c : Int} (h : l[i]? = some c) : l.drop i = c :: l.drop (i + 1) := by
  obtain ⟨h1, h2⟩ := List.getElem?_eq_some_iff.1 h
  rw [List.drop_eq_getElem_cons h1, h2]
set_option maxHeartbeats 1000000 in
theorem prepare_spec (bs : List UInt8) (hl : bs.length < 1000000000) : Val 24 [.f (.sl (bs.map byteRow))] (.f (.sl (ptsF (prepare bs)))) := by
  have hlen : (bs.map byteRow).length = bs.length := by simp
  refine ⟨rfl, ⟨trivial, trivial⟩, rfl, spec_mk tab_ok Try.func24 (by rfl) rfl ?_⟩
  conv => whnf
  refine (points_spec bs hl).call ?_
  have hle := points_len bs
  unfold prepare
  generalize points bs = l at hle
  have hpl := ptsF_length l
  conv => whnf
  refine step_loop tab_ok (fun s : Nat × List Int => padK [.f (.sl (bs.map byteRow)), .junk, .junk, .f (.sl (ptsF l)), intsD s.2, int s.1] 68) (fun _ => []) 1 (PrepI l) (fun s => l.length - s.1) (0, []) ⟨by simp, by simp, by simp⟩ (fun _ => rfl) ?_ ?_
  ·
    repeat' first | exact trivial | exact rfl | exact (by decide : (0 : Nat) < 1) | exact Nat.le_refl _ | exact Nat.zero_lt_succ _ | exact congrArg int (by (try dsimp only); omega) | exact congrArg bool (by (try dsimp only); simp; omega) | (show _ < List.length _; simp; done) | apply And.intro
  · rintro ⟨i, out⟩ ⟨h1, h2, h3⟩
    simp only at h1 h2 h3
    dsimp only
    conv => whnf
    refine Case.dec (fun h0 => ?_) (fun h0 => ?_)
    · have hi : i < l.length := by omega
      obtain ⟨c, hc⟩ : ∃ c, l[i]? = some c := ⟨_, List.getElem?_eq_getElem hi⟩
      rw [drop_step hc, prep] at h3
      have hd : (l.drop (i + 1)).head? = l[i + 1]? := by simp
      rw [hd] at h3
      rcases hc1 : l[i + 1]? with _ | c1
      · have hi1 : l.length ≤ i + 1 := by simpa using hc1
        conv => whnf
        repeat' first
          | (refine Case.not ?_; conv => whnf)
          | (refine Case.yes ?_; conv => whnf)
          | (refine Case.no ?_; conv => whnf)
          | (refine Case.isTrue (by assumption) ?_; conv => whnf)
          | (refine Case.isFalse (by assumption) ?_; conv => whnf)
          | (refine Case.decT (by assumption) ?_; conv => whnf)
          | (refine Case.decF (by assumption) ?_; conv => whnf)
          | (refine Case.decT (by omega) ?_; conv => whnf)
          | (refine Case.decF (by omega) ?_; conv => whnf)
          | (refine Case.beqT (by omega) ?_; conv => whnf)
          | (refine Case.beqF (by omega) ?_; conv => whnf)
          | (refine Owes.mk ptsF_row ?_; conv => whnf)
          | (refine Elem.mk i _ rfl (ptsF_get hc) ?_; conv => whnf)
          | (refine Owes.mk (by simp [ptsF]; omega) ?_; conv => whnf)
          | (refine Num.id (by omega) (by omega) ?_; conv => whnf)
          | (refine Case.dec (fun _ => ?_) (fun _ => ?_) <;> conv => whnf)
          | (refine Case.beqI (fun _ => ?_) (fun _ => ?_) <;> conv => whnf)
          | (refine Case.mk (fun _ => ?_) (fun _ => ?_) <;> conv => whnf)
        all_goals rw [hc1] at h3
        · rw [if_neg (by simp), if_pos (by omega)] at h3
          refine ⟨(i + 1, out ++ [10]), ⟨by dsimp only; omega, by dsimp only; rw [List.length_append]; simp; omega, by simpa using h3⟩, by dsimp only; omega, ?_⟩
          repeat' first | exact trivial | exact rfl | exact (by decide : (0 : Nat) < 1) | exact Nat.le_refl _ | exact Nat.zero_lt_succ _ | exact congrArg int (by (try dsimp only); omega) | exact congrArg bool (by (try dsimp only); simp; omega) | (show _ < List.length _; simp; done) | apply And.intro | exact congrArg (D.own _ _ _) (by simp [ptsF]; done) | exact congrArg int (by unfold ptsF; (repeat' split) <;> omega)
        · rw [if_neg (by simp), if_pos (by omega)] at h3
          refine ⟨(i + 1, out ++ [10]), ⟨by dsimp only; omega, by dsimp only; rw [List.length_append]; simp; omega, by simpa using h3⟩, by dsimp only; omega, ?_⟩
          repeat' first | exact trivial | exact rfl | exact (by decide : (0 : Nat) < 1) | exact Nat.le_refl _ | exact Nat.zero_lt_succ _ | exact congrArg int (by (try dsimp only); omega) | exact congrArg bool (by (try dsimp only); simp; omega) | (show _ < List.length _; simp; done) | apply And.intro | exact congrArg (D.own _ _ _) (by simp [ptsF]; done) | exact congrArg int (by unfold ptsF; (repeat' split) <;> omega)
        · rw [if_neg (by simp), if_neg (by omega), if_pos (by omega)] at h3
          refine ⟨(i + 1, out ++ [65533]), ⟨by dsimp only; omega, by dsimp only; rw [List.length_append]; simp; omega, by simpa using h3⟩, by dsimp only; omega, ?_⟩
          repeat' first | exact trivial | exact rfl | exact (by decide : (0 : Nat) < 1) | exact Nat.le_refl _ | exact Nat.zero_lt_succ _ | exact congrArg int (by (try dsimp only); omega) | exact congrArg bool (by (try dsimp only); simp; omega) | (show _ < List.length _; simp; done) | apply And.intro | exact congrArg (D.own _ _ _) (by simp [ptsF]; done) | exact congrArg int (by unfold ptsF; (repeat' split) <;> omega)
        · rw [if_neg (by simp), if_neg (by omega), if_neg (by omega)] at h3
          refine ⟨(i + 1, out ++ [c]), ⟨by dsimp only; omega, by dsimp only; rw [List.length_append]; simp; omega, by simpa using h3⟩, by dsimp only; omega, ?_⟩
          repeat' first | exact trivial | exact rfl | exact (by decide : (0 : Nat) < 1) | exact Nat.le_refl _ | exact Nat.zero_lt_succ _ | exact congrArg int (by (try dsimp only); omega) | exact congrArg bool (by (try dsimp only); simp; omega) | (show _ < List.length _; simp; done) | apply And.intro | exact congrArg (D.own _ _ _) (by simp [ptsF]; done) | exact congrArg int (by unfold ptsF; (repeat' split) <;> omega)
      · have hi1 : i + 1 < l.length := (List.getElem?_eq_some_iff.1 hc1).1
        conv => whnf
        repeat' first
          | (refine Case.not ?_; conv => whnf)
          | (refine Case.yes ?_; conv => whnf)
          | (refine Case.no ?_; conv => whnf)
          | (refine Case.isTrue (by assumption) ?_; conv => whnf)
          | (refine Case.isFalse (by assumption) ?_; conv => whnf)
          | (refine Case.decT (by assumption) ?_; conv => whnf)
          | (refine Case.decF (by assumption) ?_; conv => whnf)
          | (refine Case.decT (by omega) ?_; conv => whnf)
          | (refine Case.decF (by omega) ?_; conv => whnf)
          | (refine Case.beqT (by omega) ?_; conv => whnf)
          | (refine Case.beqF (by omega) ?_; conv => whnf)
          | (refine Owes.mk ptsF_row ?_; conv => whnf)
          | (refine Elem.mk i _ rfl (ptsF_get hc) ?_; conv => whnf)
          | (refine Elem.mk (i + 1) _ (by omega) (ptsF_get hc1) ?_; conv => whnf)
          | (refine Owes.mk (by simp [ptsF]; omega) ?_; conv => whnf)
          | (refine Num.id (by omega) (by omega) ?_; conv => whnf)
          | (refine Case.dec (fun _ => ?_) (fun _ => ?_) <;> conv => whnf)
          | (refine Case.beqI (fun _ => ?_) (fun _ => ?_) <;> conv => whnf)
          | (refine Case.mk (fun _ => ?_) (fun _ => ?_) <;> conv => whnf)
        all_goals rw [hc1] at h3
        · rw [if_pos ⟨by assumption, by simp; omega⟩] at h3
          refine ⟨(i + 1, out), ⟨by dsimp only; omega, by dsimp only; omega, h3⟩, by dsimp only; omega, ?_⟩
          repeat' first | exact trivial | exact rfl | exact (by decide : (0 : Nat) < 1) | exact Nat.le_refl _ | exact Nat.zero_lt_succ _ | exact congrArg int (by (try dsimp only); omega) | exact congrArg bool (by (try dsimp only); simp; omega) | (show _ < List.length _; simp; done) | apply And.intro | exact congrArg (D.own _ _ _) (by simp [ptsF]; done) | exact congrArg int (by unfold ptsF; (repeat' split) <;> omega)
        · rw [if_neg (by simp; omega), if_pos (by omega)] at h3
          refine ⟨(i + 1, out ++ [10]), ⟨by dsimp only; omega, by dsimp only; rw [List.length_append]; simp; omega, by simpa using h3⟩, by dsimp only; omega, ?_⟩
          repeat' first | exact trivial | exact rfl | exact (by decide : (0 : Nat) < 1) | exact Nat.le_refl _ | exact Nat.zero_lt_succ _ | exact congrArg int (by (try dsimp only); omega) | exact congrArg bool (by (try dsimp only); simp; omega) | (show _ < List.length _; simp; done) | apply And.intro | exact congrArg (D.own _ _ _) (by simp [ptsF]; done) | exact congrArg int (by unfold ptsF; (repeat' split) <;> omega)
        · rw [if_neg (by simp; omega), if_pos (by omega)] at h3
          refine ⟨(i + 1, out ++ [10]), ⟨by dsimp only; omega, by dsimp only; rw [List.length_append]; simp; omega, by simpa using h3⟩, by dsimp only; omega, ?_⟩
          repeat' first | exact trivial | exact rfl | exact (by decide : (0 : Nat) < 1) | exact Nat.le_refl _ | exact Nat.zero_lt_succ _ | exact congrArg int (by (try dsimp only); omega) | exact congrArg bool (by (try dsimp only); simp; omega) | (show _ < List.length _; simp; done) | apply And.intro | exact congrArg (D.own _ _ _) (by simp [ptsF]; done) | exact congrArg int (by unfold ptsF; (repeat' split) <;> omega)
        · rw [if_neg (by simp; omega), if_neg (by omega), if_pos (by omega)] at h3
          refine ⟨(i + 1, out ++ [65533]), ⟨by dsimp only; omega, by dsimp only; rw [List.length_append]; simp; omega, by simpa using h3⟩, by dsimp only; omega, ?_⟩
          repeat' first | exact trivial | exact rfl | exact (by decide : (0 : Nat) < 1) | exact Nat.le_refl _ | exact Nat.zero_lt_succ _ | exact congrArg int (by (try dsimp only); omega) | exact congrArg bool (by (try dsimp only); simp; omega) | (show _ < List.length _; simp; done) | apply And.intro | exact congrArg (D.own _ _ _) (by simp [ptsF]; done) | exact congrArg int (by unfold ptsF; (repeat' split) <;> omega)
        · rw [if_neg (by simp; omega), if_neg (by omega), if_neg (by omega)] at h3
          refine ⟨(i + 1, out ++ [c]), ⟨by dsimp only; omega, by dsimp only; rw [List.length_append]; simp; omega, by simpa using h3⟩, by dsimp only; omega, ?_⟩
          repeat' first | exact trivial | exact rfl | exact (by decide : (0 : Nat) < 1) | exact Nat.le_refl _ | exact Nat.zero_lt_succ _ | exact congrArg int (by (try dsimp only); omega) | exact congrArg bool (by (try dsimp only); simp; omega) | (show _ < List.length _; simp; done) | apply And.intro | exact congrArg (D.own _ _ _) (by simp [ptsF]; done) | exact congrArg int (by unfold ptsF; (repeat' split) <;> omega)
    · have : l.drop i = [] := by rw [List.drop_eq_nil_iff]; omega
      rw [this, prep, List.append_nil] at h3
      subst h3
      conv => whnf
      exact Fin.ints ⟨rfl, rfl⟩
end Go.Proofs.Ytdfiegleaknleaa.Aw
