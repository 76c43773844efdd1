/- value.Parse at one token: the printed functions answer as the law's own function. -/
import Derived.Test.YtghhamhihfmodaaDoorPCx3
import Derived.Test.YtghhamhihfmodaaDoorSpecP
namespace Go.Proofs.YtghhamhihfmodaaDoor.PureC
open Go.RowKit Go.Proofs.YtghhamhihfmodaaDoor.PC Go.Proofs.YtghhamhihfmodaaDoorW.PrintWords Go.Proofs.YtghhamhihfmodaaDoorW.PrintLast Go.Proofs.YtghhamhihfmodaaDoorW.PrintMore Go.Proofs.YtghhamhihfmodaaDoor.Giv Go.Proofs.YtghhamhihfmodaaDoor.Low
theorem num_f (k : Nat) (p kind n ln : Int) (t : ByteArray) (wh : Bool) : value_number.f (k + 1) p kind t n wh ln = some (numV p n wh) := by
  unfold value_number.f numV
  by_cases h5 : p = 5
  · subst h5
    rw [if_pos rfl]
    unfold value_number.j0
    by_cases hn : n = 0 <;> simp [hn]
  · rw [if_neg h5]
    unfold value_number.j0
    simp only [Bool.false_eq_true, if_false, h5, false_and]
    by_cases h6 : p = 6
    · simp only [h6, if_true]; rfl
    · simp only [h6, if_false]
      by_cases h7 : p = 7 <;> cases wh <;> simp [h7]
theorem length_f (k : Nat) (kind n ln : Int) (t : ByteArray) (wh : Bool) (ht : t.size ≤ 140737488355328) : value_length.f (k + 2) kind t n wh ln = some (lengthV kind (lowB t).data.toList n) := by
  unfold value_length.f text_Lower.f lengthV
  rw [if_pos ht, Option.bind_some]
  rw [ByteArray.toList_eq]
  by_cases h8 : kind = 8
  · subst h8
    rw [if_pos rfl]
    unfold value_length.j0
    by_cases hp : (lowB t).data.toList = [112, 120]
    · simp [hp]
    · simp only [beq_eq_false_iff_ne.2 hp, Bool.false_eq_true, if_false, if_true, hp, and_false]
      unfold value_length.j1
      by_cases he : (lowB t).data.toList = [101, 109]
      · simp [ByteArray.toList_eq, he]
      · simp [ByteArray.toList_eq, he]
  · rw [if_neg h8]
    unfold value_length.j0
    simp only [Bool.false_eq_true, if_false, h8, false_and]
    unfold value_length.j1
    simp only [Bool.false_eq_true, if_false]
    by_cases h7 : kind = 7 <;> simp [h7]
theorem parse_one (k : Nat) (p kind n ln : Int) (t : ByteArray) (wh : Bool) (ht : t.size ≤ 140737488355328) : value_Parse.f (k + 4) p [⟨kind, t, n, wh, ln⟩] = some (parseV p kind t n wh) := by
  unfold value_Parse.f value_is.f parseV
  have hl : (((([(⟨kind, t, n, wh, ln⟩ : S25)] : List S25).length : Int)) != 1) = false := rfl
  have hr : rd_T25 [(⟨kind, t, n, wh, ln⟩ : S25)] 0 = ⟨kind, t, n, wh, ln⟩ := rfl
  have h01 : (0 : Int) < (([(⟨kind, t, n, wh, ln⟩ : S25)] : List S25).length : Int) := by show (0 : Int) < 1; decide
  by_cases h0 : 0 ≤ p ∧ p < 8
  · rw [if_pos h0, if_pos (show p ≥ 0 from h0.1), Option.bind_some, decide_eq_true h0.2, if_pos rfl, hl]
    unfold value_Parse.j0
    simp only [Bool.false_eq_true, if_false, h01, if_true, hr]
    by_cases h1 : kind = 1
    · simp only [h1, if_true, value_word.f, ht, Option.bind_some]
    · simp only [h1, if_false]
      have hj : ∀ b : Bool, value_Parse.j1 (k + 3) p b kind t n wh ln = some (if b = true then colorV t.data.toList else if kind = 6 then numV p n wh else if p = 5 ∨ ((p = 1 ∨ p = 4) ∧ 0 ≤ n) then lengthV kind (lowB t).data.toList n else (0, 0, false)) := by
        intro b
        unfold value_Parse.j1
        cases b
        · simp only [Bool.false_eq_true, if_false, num_f, length_f _ _ _ _ _ _ ht, Option.bind_some]
          by_cases h6 : kind = 6
          · simp only [h6, if_true]
          · simp only [h6, if_false]
            by_cases h5 : p = 5
            · simp [h5]
            · by_cases hp1 : p = 1
              · by_cases hn : 0 ≤ n <;> simp [hp1, hn]
              · by_cases hp4 : p = 4
                · by_cases hn : 0 ≤ n <;> simp [hp4, hn]
                · simp [h5, hp1, hp4]
        · simp only [if_true, value_color.f, ht, Option.bind_some]
      by_cases h3 : kind = 3
      · subst h3
        rw [if_pos rfl, hj]
        by_cases hp0 : p = 0
        · subst hp0; rfl
        · simp [hp0]
      · rw [if_neg h3, hj]
        simp [h3]
  · rw [if_neg h0]
    have e : (if p ≥ 0 then some (decide (p < 8)) else some false) = some false := by
      by_cases hp : p ≥ 0
      · rw [if_pos hp, decide_eq_false (by omega)]
      · rw [if_neg hp]
    rw [e, Option.bind_some, if_neg (by decide)]
    unfold value_Parse.j0
    rfl
theorem alive_f (k : Nat) : tapestrierlaw7_alive.f (k + 4) = some true := by
  unfold tapestrierlaw7_alive.f
  rw [parse_one k 0 3 0 0 _ false (by decide), Option.bind_some]
  decide +kernel
end Go.Proofs.YtghhamhihfmodaaDoor.PureC
