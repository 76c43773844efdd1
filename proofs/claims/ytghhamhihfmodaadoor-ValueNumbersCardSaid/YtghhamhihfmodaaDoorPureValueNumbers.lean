/- The plain law of ValueNumbers. -/
import Derived.Test.YtghhamhihfmodaaDoorPNx4
import Derived.Test.YtghhamhihfmodaaDoorPureN
namespace Go.Proofs.YtghhamhihfmodaaDoor.Pure
open Go.RowKit Go.Proofs.YtghhamhihfmodaaDoor.PN Go.Proofs.YtghhamhihfmodaaDoorW.PrintWords Go.Proofs.YtghhamhihfmodaaDoorW.PrintLast Go.Proofs.YtghhamhihfmodaaDoorW.PrintMore Go.Proofs.YtghhamhihfmodaaDoor.Giv Go.Proofs.YtghhamhihfmodaaDoor.Low Go.Proofs.YtghhamhihfmodaaDoor.PureN
theorem par (k : Nat) (n : Int) (wh : Bool) (i : Int) (h : 0 ≤ i ∧ i < 8) : value_Parse.f (k + 4) i [(⟨6, (⟨#[]⟩ : ByteArray), n, wh, 0⟩ : S25)] = some (numV i n wh) := by
  rw [parse_one k i 6 n 0 _ wh (by decide)]
  unfold parseV
  rw [if_pos h, if_neg (by decide), if_neg (by intro e; exact absurd e.1 (by decide)), if_pos rfl]
theorem step (k : Nat) (n : Int) (wh : Bool) (i j : Int) (hi : (i = 0 ∧ j = 1) ∨ (i = 1 ∧ j = 2) ∨ (i = 2 ∧ j = 3) ∨ (i = 3 ∧ j = 4) ∨ (i = 4 ∧ j = 5) ∨ (i = 5 ∧ j = 6) ∨ (i = 6 ∧ j = 7) ∨ (i = 7 ∧ j = 8)) :
    tapestrierlaw7_ValueNumbers.l0 (k + 6) n wh true i = tapestrierlaw7_ValueNumbers.l0 k n wh true j := by
  have hw : wrap64 (i + 1) = j := by rcases hi with ⟨rfl, rfl⟩ | ⟨rfl, rfl⟩ | ⟨rfl, rfl⟩ | ⟨rfl, rfl⟩ | ⟨rfl, rfl⟩ | ⟨rfl, rfl⟩ | ⟨rfl, rfl⟩ | ⟨rfl, rfl⟩ <;> decide +kernel
  have hr : 0 ≤ i ∧ i < 8 := by omega
  conv => lhs; unfold tapestrierlaw7_ValueNumbers.l0
  rw [if_pos hr.2, par (k + 1) n wh i hr, Option.bind_some]
  have j5 : ∀ x8 a b c d, (x8 = false ∨ (x8 = true ∧ (if i = 5 then (a = 2 ∧ b = d) else (a = c ∧ b = d)))) → tapestrierlaw7_ValueNumbers.j5 (k + 1) n wh true i x8 x8 a b c d = tapestrierlaw7_ValueNumbers.l0 k n wh true j := by
    intro x8 a b c d h
    unfold tapestrierlaw7_ValueNumbers.j5
    rw [hw]
    by_cases h5 : i = 5
    · rw [if_pos h5]
      rcases h with rfl | ⟨rfl, h⟩
      · rfl
      · rw [if_pos h5] at h; obtain ⟨rfl, rfl⟩ := h; simp
    · rw [if_neg h5]
      rcases h with rfl | ⟨rfl, h⟩
      · rfl
      · rw [if_neg h5] at h; obtain ⟨rfl, rfl⟩ := h; simp
  have j1 : ∀ x8 a b, (x8 = false ∨ (x8 = true ∧ (if i = 5 then (a = 2 ∧ b = n) else (a = 5 ∧ b = if i = 6 ∧ 1000 < n then 1000 else if i = 6 ∧ n < 0 then 0 else n)))) → tapestrierlaw7_ValueNumbers.j1 (k + 5) n wh true i x8 x8 a b = tapestrierlaw7_ValueNumbers.l0 k n wh true j := by
    intro x8 a b h
    unfold tapestrierlaw7_ValueNumbers.j1
    by_cases h6 : i = 6
    · rw [if_pos h6]
      have h5 : ¬ i = 5 := by omega
      unfold tapestrierlaw7_ValueNumbers.j2
      by_cases hn : n < 0
      · rw [decide_eq_true hn, if_pos rfl]
        unfold tapestrierlaw7_ValueNumbers.j3
        rw [if_pos h6]
        unfold tapestrierlaw7_ValueNumbers.j4
        rw [decide_eq_false (by omega), if_neg (by decide)]
        refine j5 _ _ _ _ _ (h.imp_right fun ⟨e, h⟩ => ⟨e, ?_⟩)
        rw [if_neg h5] at h ⊢
        refine ⟨h.1, h.2.trans ?_⟩
        rw [if_neg (by omega), if_pos ⟨h6, hn⟩]
      · rw [decide_eq_false hn, if_neg (by decide)]
        unfold tapestrierlaw7_ValueNumbers.j3
        rw [if_pos h6]
        unfold tapestrierlaw7_ValueNumbers.j4
        by_cases hb : n > 1000
        · rw [decide_eq_true hb, if_pos rfl]
          refine j5 _ _ _ _ _ (h.imp_right fun ⟨e, h⟩ => ⟨e, ?_⟩)
          rw [if_neg h5] at h ⊢
          refine ⟨h.1, h.2.trans ?_⟩
          rw [if_pos ⟨h6, hb⟩]
        · rw [decide_eq_false hb, if_neg (by decide)]
          refine j5 _ _ _ _ _ (h.imp_right fun ⟨e, h⟩ => ⟨e, ?_⟩)
          rw [if_neg h5] at h ⊢
          refine ⟨h.1, h.2.trans ?_⟩
          rw [if_neg (by omega), if_neg (by omega)]
    · rw [if_neg h6]
      unfold tapestrierlaw7_ValueNumbers.j2
      rw [if_neg (by decide)]
      unfold tapestrierlaw7_ValueNumbers.j3
      rw [if_neg h6]
      unfold tapestrierlaw7_ValueNumbers.j4
      rw [if_neg (by decide)]
      refine j5 _ _ _ _ _ (h.imp_right fun ⟨e, h⟩ => ⟨e, ?_⟩)
      by_cases h5 : i = 5
      · rw [if_pos h5] at h ⊢; exact h
      · rw [if_neg h5] at h ⊢
        refine ⟨h.1, h.2.trans ?_⟩
        rw [if_neg (by omega), if_neg (by omega)]
  unfold numV
  by_cases h6 : i = 6
  · rw [if_pos h6, if_neg (by omega), if_pos h6]
    refine j1 _ _ _ (Or.inr ⟨rfl, ?_⟩)
    rw [if_neg (by omega)]
    refine ⟨rfl, ?_⟩
    show (if 1000 < (if 0 < n then n else 0) then (1000 : Int) else (if 0 < n then n else 0)) = _
    by_cases hp : 0 < n
    · rw [if_pos hp]
      by_cases hb : 1000 < n
      · rw [if_pos hb, if_pos ⟨h6, hb⟩]
      · rw [if_neg hb, if_neg (by omega), if_neg (by omega)]
    · rw [if_neg hp, if_neg (by decide), if_neg (by omega)]
      by_cases hz : n < 0
      · rw [if_pos ⟨h6, hz⟩]
      · rw [if_neg (by omega)]; omega
  · rw [if_neg h6]
    by_cases h7 : i = 7
    · subst h7
      have e5 : ¬ (7 : Int) = 5 := by decide
      cases wh
      · simp only [e5, h6, if_true, if_false, false_and, and_false, Bool.false_eq_true]
        exact j1 _ _ _ (Or.inl rfl)
      · simp only [e5, h6, if_true, if_false, false_and, and_self]
        refine j1 _ _ _ (Or.inr ⟨rfl, ?_⟩)
        rw [if_neg e5]
        exact ⟨rfl, by rw [if_neg (by omega), if_neg (by omega)]⟩
    · rw [if_neg h7]
      by_cases h5 : i = 5
      · rw [if_pos h5]
        by_cases hn : n = 0
        · rw [if_pos ⟨h5, hn⟩, show (n == 0) = true by simp [hn]]
          refine j1 _ _ _ (Or.inr ⟨rfl, ?_⟩)
          rw [if_pos h5]
          exact ⟨rfl, hn.symm⟩
        · rw [if_neg (by simp [hn]), if_neg h6, if_neg (by simp [h7]), show (n == 0) = false by simp [hn]]
          exact j1 _ _ _ (Or.inl rfl)
      · rw [if_neg h5, if_neg (by simp [h5]), if_neg h6, if_neg (by simp [h7])]
        exact j1 _ _ _ (Or.inl rfl)
theorem ValueNumbers : tapestrierlaw7_ValueNumbers.Pure := by
  intro n wh _
  refine ⟨60, ?_⟩
  unfold tapestrierlaw7_ValueNumbers.f
  rw [alive_f 56, Option.bind_some]
  rw [step 54 n wh 0 1 (by decide), step 48 n wh 1 2 (by decide), step 42 n wh 2 3 (by decide), step 36 n wh 3 4 (by decide), step 30 n wh 4 5 (by decide), step 24 n wh 5 6 (by decide), step 18 n wh 6 7 (by decide), step 12 n wh 7 8 (by decide)]
  rfl
end Go.Proofs.YtghhamhihfmodaaDoor.Pure
namespace Go.Proofs.YtghhamhihfmodaaDoor
open Go.RowKit in
theorem walkValueNumbers (a0 : Int) (a1 : Bool) (W : World) (w0 : (Lit.int .i64 a0).wf = true) (_ : True) :
    Calls Tryd.prog 8 #[.int .i64 a0, .bool a1] W fun e W' => e = .returned (.bool true) ∧ Below W.heap.size W W' :=
  PN.tapestrierlaw7_ValueNumbers.walk Pure.ValueNumbers a0 a1 W w0
theorem anyFact {α : Prop} : α → True := fun _ => trivial
end Go.Proofs.YtghhamhihfmodaaDoor
