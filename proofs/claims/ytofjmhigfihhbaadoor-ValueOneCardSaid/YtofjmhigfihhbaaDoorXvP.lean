/- The program's values are the reference's. -/
import Derived.Test.YtofjmhigfihhbaaDoorXvC
namespace Go.Proofs.YtofjmhigfihhbaaDoor.Aw
open Go Go.RowKit Go.Lib
set_option linter.unusedVariables false
set_option linter.unusedSimpArgs false
set_option maxRecDepth 100000
theorem hexV_hex (c : UInt8) : Giv.hexV c = if hex c.toNat < 0 then none else some (hex c.toNat) := by
  unfold Giv.hexV hex
  have := c.toNat_lt
  repeat' split
  all_goals first | rfl | (exfalso; omega) | (congr 1; omega)
theorem colRun_one : ∀ (l : List UInt8) (n : Int), colRun false l n = Giv.hexL l n
  | [], n => rfl
  | c :: r, n => by
    rw [colRun, Giv.hexL, hexV_hex]
    split
    · rfl
    · exact colRun_one r _
theorem colRun_two (a b c : UInt8) (n : Int) : colRun true [a, b, c] n = Giv.hexL [a, a, b, b, c, c] n := by
  simp only [colRun, Giv.hexL, hexV_hex]
  by_cases ha : hex a.toNat < 0
  · simp [ha]
  by_cases hb : hex b.toNat < 0
  · simp [ha, hb]
  by_cases hc : hex c.toNat < 0
  · simp [ha, hb, hc]
  simp [ha, hb, hc]
theorem colorV_other {s : List UInt8} (h3 : ¬ s.length = 3) : Giv.colorV s = if s.length = 6 then (match Giv.hexL s 0 with | some n => ((6 : Int), n, true) | none => ((0 : Int), (0 : Int), false)) else ((0 : Int), (0 : Int), false) := by
  match s, h3 with
  | [], _ => rfl
  | [a], _ => rfl
  | [a, b], _ => rfl
  | [a, b, c], h => exact absurd rfl h
  | a :: b :: c :: d :: r, _ => rfl
theorem color_same (s : List UInt8) : colorW s = if (colR s).2 = true then (6, (colR s).1, true) else (0, 0, false) := by
  unfold colorW
  by_cases h3 : s.length = 3
  · unfold Giv.colorV colR
    match s, h3 with
    | [a, b, c], _ =>
      simp only [List.length_cons, List.length_nil, decide_true, ← colRun_two]
      cases h : colRun true [a, b, c] 0 <;> simp_all
  · rw [colorV_other h3]
    unfold colR
    by_cases h6 : s.length = 6
    · rw [if_pos h6, if_pos (c := s.length = 3 ∨ s.length = 6) (.inr h6), ← colRun_one, decide_eq_false h3]
      cases h : colRun false s 0 with
      | none => rfl
      | some n => rfl
    · rw [if_neg h6, if_neg (c := s.length = 3 ∨ s.length = 6) (by omega)]
      rfl
theorem key_none {p : Int} {s : List UInt8} (h : Giv.keyV p s = none) : Giv.wordV p s = if (wordV s wideL).2 = true then (7 + ((wordV s wideL).1 : Int), 0, true) else (0, 0, false) := by
  unfold Giv.wordV wideL wordV
  rw [h]
  simp only [wordRun, eq_comm (b := s)]
  repeat' split
  all_goals simp_all
theorem key_some {p : Int} {s : List UInt8} {k n : Int} (h : Giv.keyV p s = some (k, n)) : Giv.wordV p s = if (wordV s wideL).2 = true then (7 + ((wordV s wideL).1 : Int), 0, true) else (k, n, true) := by
  unfold Giv.wordV wideL wordV
  rw [h]
  simp only [wordRun, eq_comm (b := s)]
  repeat' split
  all_goals simp_all
theorem keyV_list (p : Int) (s : List UInt8) : Giv.keyV p s =
    if p = 0 then (if (wordV s colorL).2 = true then some (6, colorN.getD (wordV s colorL).1 0) else none)
    else if p = 2 then (if (wordV s alignL).2 = true then some (1, ((wordV s alignL).1 : Int)) else none)
    else if p = 3 then (if (wordV s dispL).2 = true then some (1, ((wordV s dispL).1 : Int)) else none)
    else if p = 4 ∨ p = 7 then (if (wordV s autoL).2 = true then some (1, ((wordV s autoL).1 : Int)) else none)
    else none := by
  unfold Giv.keyV wordV colorL alignL dispL autoL
  simp only [wordRun, eq_comm (a := s)]
  split
  · repeat' split
    all_goals first | rfl | (simp_all; done)
  split
  · repeat' split
    all_goals first | rfl | (simp_all; done)
  split
  · repeat' split
    all_goals first | rfl | (simp_all; done)
  split
  · repeat' split
    all_goals first | rfl | (simp_all; done)
  rfl
theorem len_same (k : Tok) : lenW k = lenR k := by
  unfold lenW lenR
  by_cases h7 : k.kind = 7
  · simp [h7]
  · simp [h7]
theorem lenR_no {k : Tok} (h7 : ¬ k.kind = 7) (h8 : ¬ k.kind = 8) : lenR k = (0, 0, false) := by
  unfold lenR
  simp [h7, h8]
theorem lenR_n (k : Tok) (h : (lenR k).2.2 = true) : (lenR k).2.1 = k.n := by
  unfold lenR at *
  split at h
  · rename_i h1; rw [if_pos h1]
  split at h
  · rename_i h1 h2; rw [if_neg h1, if_pos h2]
  split at h
  · rename_i h1 h2 h3; rw [if_neg h1, if_neg h2, if_pos h3]
  · cases h
theorem value_same (p : Int) (k : Tok) (h0 : 0 ≤ p ∧ p < 8) : value1 p k = parse1 p k := by
  unfold value1 parse1
  have hL := len_same k
  by_cases h1 : k.kind = 1
  · have e7 : lenR k = (0, 0, false) := lenR_no (by omega) (by omega)
    rw [if_pos h1]
    have hk := keyV_list p (lower k.text)
    unfold wordW
    by_cases hw : (wordV (lower k.text) wideL).2 = true
    · rw [if_pos ⟨h1, hw⟩]
      cases hv : Giv.keyV p (lower k.text) with
      | none => rw [key_none hv, if_pos hw]
      | some v => rw [key_some (k := v.1) (n := v.2) hv, if_pos hw]
    · rw [if_neg (fun h => hw h.2)]
      have fin : (match Giv.keyV p (lower k.text) with | some (k, n) => (k, n, true) | none => ((0 : Int), (0 : Int), false)) = Giv.wordV p (lower k.text) := by
        cases hv : Giv.keyV p (lower k.text) with
        | none => rw [key_none hv, if_neg hw]
        | some v => rw [key_some (k := v.1) (n := v.2) hv, if_neg hw]
      rw [← fin, hk, e7]
      have : p = 0 ∨ p = 1 ∨ p = 2 ∨ p = 3 ∨ p = 4 ∨ p = 5 ∨ p = 6 ∨ p = 7 := by omega
      rcases this with rfl | rfl | rfl | rfl | rfl | rfl | rfl | rfl
      all_goals (simp [h1, keyR]; try (repeat' split) <;> simp_all)
  · rw [if_neg (fun h => h1 h.1), if_neg h1]
    have hkr : ∀ l, keyR k l = (0, 0, false) := fun l => by unfold keyR; rw [if_neg h1]
    simp only [hkr, hL, color_same]
    have : p = 0 ∨ p = 1 ∨ p = 2 ∨ p = 3 ∨ p = 4 ∨ p = 5 ∨ p = 6 ∨ p = 7 := by omega
    have hn := lenR_n k
    have h6 : k.kind = 6 → lenR k = (0, 0, false) := fun h => lenR_no (by omega) (by omega)
    have h9 : lenR k = (0, 0, false) ∨ (lenR k).2.2 = true := by
      unfold lenR
      repeat' split
      all_goals simp
    unfold numW
    rcases this with rfl | rfl | rfl | rfl | rfl | rfl | rfl | rfl
    · simp
      repeat' split
      all_goals simp_all
    · simp
      by_cases k6 : k.kind = 6
      · simp [k6, h6 k6]
      · simp [k6]
        rcases h9 with h9 | h9
        · simp [h9]
        · rw [hn h9, h9]; simp
          by_cases hneg : k.n < 0
          · rw [if_pos hneg, if_neg (by omega)]
          · rw [if_neg hneg, if_pos (by omega)]
    · simp
    · simp
    · simp
      by_cases k6 : k.kind = 6
      · simp [k6, h6 k6]
      · simp [k6]
        rcases h9 with h9 | h9
        · simp [h9]
        · rw [hn h9, h9]; simp
          by_cases hneg : k.n < 0
          · rw [if_pos hneg, if_neg (by omega)]
          · rw [if_neg hneg, if_pos (by omega)]
    · simp
      by_cases k6 : k.kind = 6
      · simp [k6, h6 k6]
      · simp [k6]
    · simp
    · simp
      by_cases k6 : k.kind = 6
      · simp [k6]
      · simp [k6]
theorem value_is (p : Int) (t : List Tok) : valueR p t = parseW p t := by
  unfold valueR parseW
  split
  · match t with
    | [] => rfl
    | [k] => exact value_same _ _ (by assumption)
    | _ :: _ :: _ => rfl
  · rfl
end Go.Proofs.YtofjmhigfihhbaaDoor.Aw
