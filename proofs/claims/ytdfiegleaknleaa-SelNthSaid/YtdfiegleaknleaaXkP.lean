/- What the library's decoder reads is what the reference's point reads. -/
import Derived.Test.YtdfiegleaknleaaXrL
import GoSem.Core.Utf8
namespace Go.Proofs.Ytdfiegleaknleaa.Aw
open Go Go.RowKit Go.Lib
set_option linter.unusedVariables false
set_option linter.unusedSimpArgs false
set_option maxRecDepth 100000
theorem get_at (bs : List UInt8) (k : Nat) : ((⟨bs.toArray⟩ : ByteArray).get! (0 + k)).toNat = (bAt bs k).toNat := by
  unfold bAt ByteArray.get!
  rw [Nat.zero_add]
  simp
  rfl
def cn (bs : List UInt8) (k : Nat) : Bool := decide (k < bs.length) && (bAt bs k).toNat / 64 == 2
/-- The model's reading of a code point, over lists. -/
def decL (bs : List UInt8) : Nat × Nat :=
  if (bAt bs 0).toNat < 0x80 then ((bAt bs 0).toNat, 1)
  else if (bAt bs 0).toNat / 32 == 6 && cn bs 1 then
    if (bAt bs 0).toNat % 32 * 64 + (bAt bs 1).toNat % 64 ≥ 0x80 then ((bAt bs 0).toNat % 32 * 64 + (bAt bs 1).toNat % 64, 2) else (65533, 1)
  else if (bAt bs 0).toNat / 16 == 14 && cn bs 1 && cn bs 2 then
    if (bAt bs 0).toNat % 16 * 4096 + (bAt bs 1).toNat % 64 * 64 + (bAt bs 2).toNat % 64 ≥ 0x800 && Utf8.valid (((bAt bs 0).toNat % 16 * 4096 + (bAt bs 1).toNat % 64 * 64 + (bAt bs 2).toNat % 64 : Nat) : Int) then ((bAt bs 0).toNat % 16 * 4096 + (bAt bs 1).toNat % 64 * 64 + (bAt bs 2).toNat % 64, 3) else (65533, 1)
  else if (bAt bs 0).toNat / 8 == 30 && cn bs 1 && cn bs 2 && cn bs 3 then
    if (bAt bs 0).toNat % 8 * 262144 + (bAt bs 1).toNat % 64 * 4096 + (bAt bs 2).toNat % 64 * 64 + (bAt bs 3).toNat % 64 ≥ 0x10000 && Utf8.valid (((bAt bs 0).toNat % 8 * 262144 + (bAt bs 1).toNat % 64 * 4096 + (bAt bs 2).toNat % 64 * 64 + (bAt bs 3).toNat % 64 : Nat) : Int) then ((bAt bs 0).toNat % 8 * 262144 + (bAt bs 1).toNat % 64 * 4096 + (bAt bs 2).toNat % 64 * 64 + (bAt bs 3).toNat % 64, 4) else (65533, 1)
  else (65533, 1)
theorem decode_decL (bs : List UInt8) : Utf8.decode ⟨bs.toArray⟩ 0 = decL bs := by
  unfold Utf8.decode decL cn Utf8.runeError
  simp only [get_at]
  have hs : (⟨bs.toArray⟩ : ByteArray).size = bs.length := rfl
  simp only [hs, Nat.zero_add]
theorem bAt_out {bs : List UInt8} {i : Nat} (h : bs.length ≤ i) : bAt bs i = 0 := by
  unfold bAt
  rw [List.getD_eq_getElem?_getD, List.getElem?_eq_none h]
  rfl
theorem valid_right (n : Nat) : Utf8.valid (n : Int) = right n := by
  unfold Utf8.valid right
  rw [Bool.eq_iff_iff]
  simp only [Bool.and_eq_true, Bool.or_eq_true, decide_eq_true_eq]
  omega
theorem cn_iff (bs : List UInt8) (k : Nat) : cn bs k = true ↔ (k < bs.length ∧ 128 ≤ bAt bs k ∧ bAt bs k ≤ 191) := by
  have := bAt_le bs k
  unfold cn
  simp only [Bool.and_eq_true, decide_eq_true_eq, beq_iff_eq]
  omega
theorem cn_len {bs : List UInt8} {k : Nat} (h : 128 ≤ bAt bs k) : k < bs.length := by
  rcases Nat.lt_or_ge k bs.length with h1 | h1
  · exact h1
  · rw [bAt_out h1] at h; omega
theorem cn_no {bs : List UInt8} {k : Nat} : cn bs k = false ↔ ¬ (128 ≤ bAt bs k ∧ bAt bs k ≤ 191) := by
  rw [← Bool.not_eq_true, cn_iff]
  constructor
  · exact fun h h2 => h ⟨cn_len h2.1, h2⟩
  · exact fun h h2 => h h2.2
theorem pointK2 (bs : List UInt8) (c : Int) : pointK bs 2 128 c = if 128 ≤ bAt bs 1 ∧ bAt bs 1 ≤ 191 then (if c * 64 + bAt bs 1 % 64 < 128 ∨ right (c * 64 + bAt bs 1 % 64) = false then (65533, 1) else (c * 64 + bAt bs 1 % 64, 2)) else (65533, 1) := by
  unfold pointK
  by_cases h : bs.length < 2
  · rw [if_pos h, if_neg]; rw [bAt_out (by omega)]; omega
  · rw [if_neg h]
    simp only [contRun, show (1 + 1 : Nat) = 2 from rfl, show (1 + 1 + 1 : Nat) = 3 from rfl, show (2 + 1 : Nat) = 3 from rfl, show (2 - 1 : Nat) = 1 from rfl, show (3 - 1 : Nat) = 2 from rfl, show (4 - 1 : Nat) = 3 from rfl]
    by_cases h1 : 128 ≤ bAt bs 1 ∧ bAt bs 1 ≤ 191
    · rw [if_neg (by omega), if_pos h1]
    · rw [if_pos (by omega), if_neg h1]
theorem pointK3 (bs : List UInt8) (c : Int) : pointK bs 3 2048 c = if (128 ≤ bAt bs 1 ∧ bAt bs 1 ≤ 191) ∧ (128 ≤ bAt bs 2 ∧ bAt bs 2 ≤ 191) then (if (c * 64 + bAt bs 1 % 64) * 64 + bAt bs 2 % 64 < 2048 ∨ right ((c * 64 + bAt bs 1 % 64) * 64 + bAt bs 2 % 64) = false then (65533, 1) else ((c * 64 + bAt bs 1 % 64) * 64 + bAt bs 2 % 64, 3)) else (65533, 1) := by
  unfold pointK
  by_cases h : bs.length < 3
  · rw [if_pos h, if_neg]; rw [bAt_out (i := 2) (by omega)]; omega
  · rw [if_neg h]
    simp only [contRun, show (1 + 1 : Nat) = 2 from rfl, show (1 + 1 + 1 : Nat) = 3 from rfl, show (2 + 1 : Nat) = 3 from rfl, show (2 - 1 : Nat) = 1 from rfl, show (3 - 1 : Nat) = 2 from rfl, show (4 - 1 : Nat) = 3 from rfl]
    by_cases h1 : 128 ≤ bAt bs 1 ∧ bAt bs 1 ≤ 191
    · rw [if_neg (by omega)]
      by_cases h2 : 128 ≤ bAt bs 2 ∧ bAt bs 2 ≤ 191
      · rw [if_neg (by omega), if_pos ⟨h1, h2⟩]
      · rw [if_pos (by omega), if_neg (fun h => h2 h.2)]
    · rw [if_pos (by omega), if_neg (fun h => h1 h.1)]
theorem pointK4 (bs : List UInt8) (c : Int) : pointK bs 4 65536 c = if (128 ≤ bAt bs 1 ∧ bAt bs 1 ≤ 191) ∧ (128 ≤ bAt bs 2 ∧ bAt bs 2 ≤ 191) ∧ (128 ≤ bAt bs 3 ∧ bAt bs 3 ≤ 191) then (if ((c * 64 + bAt bs 1 % 64) * 64 + bAt bs 2 % 64) * 64 + bAt bs 3 % 64 < 65536 ∨ right (((c * 64 + bAt bs 1 % 64) * 64 + bAt bs 2 % 64) * 64 + bAt bs 3 % 64) = false then (65533, 1) else (((c * 64 + bAt bs 1 % 64) * 64 + bAt bs 2 % 64) * 64 + bAt bs 3 % 64, 4)) else (65533, 1) := by
  unfold pointK
  by_cases h : bs.length < 4
  · rw [if_pos h, if_neg]; rw [bAt_out (i := 3) (by omega)]; omega
  · rw [if_neg h]
    simp only [contRun, show (1 + 1 : Nat) = 2 from rfl, show (1 + 1 + 1 : Nat) = 3 from rfl, show (2 + 1 : Nat) = 3 from rfl, show (2 - 1 : Nat) = 1 from rfl, show (3 - 1 : Nat) = 2 from rfl, show (4 - 1 : Nat) = 3 from rfl]
    by_cases h1 : 128 ≤ bAt bs 1 ∧ bAt bs 1 ≤ 191
    · rw [if_neg (by omega)]
      by_cases h2 : 128 ≤ bAt bs 2 ∧ bAt bs 2 ≤ 191
      · rw [if_neg (by omega)]
        by_cases h3 : 128 ≤ bAt bs 3 ∧ bAt bs 3 ≤ 191
        · rw [if_neg (by omega), if_pos ⟨h1, h2, h3⟩]
        · rw [if_pos (by omega), if_neg (fun h => h3 h.2.2)]
      · rw [if_pos (by omega), if_neg (fun h => h2 h.2.1)]
    · rw [if_pos (by omega), if_neg (fun h => h1 h.1)]
theorem right_no {c : Int} (h : right c = false) : ¬ (0 ≤ c ∧ c ≤ 1114111 ∧ (c < 55296 ∨ 57343 < c)) := by
  intro h2
  have : right c = true := by
    unfold right
    simp only [Bool.and_eq_true, Bool.or_eq_true, decide_eq_true_eq]
    omega
  rw [h] at this
  cases this
theorem right_yes {c : Int} (h : 0 ≤ c ∧ c ≤ 1114111 ∧ (c < 55296 ∨ 57343 < c)) : right c = true := by
  unfold right
  simp only [Bool.and_eq_true, Bool.or_eq_true, decide_eq_true_eq]
  omega
theorem decL_point (bs : List UInt8) : (((decL bs).1 : Int), (decL bs).2) = pointV bs := by
  have b0 := bAt_le bs 0
  have b1 := bAt_le bs 1
  have b2 := bAt_le bs 2
  have b3 := bAt_le bs 3
  unfold decL pointV
  rw [pointK2, pointK3, pointK4]
  have e0 : ((bAt bs 0).toNat : Int) = bAt bs 0 := by omega
  have e1 : ((bAt bs 1).toNat : Int) = bAt bs 1 := by omega
  have e2 : ((bAt bs 2).toNat : Int) = bAt bs 2 := by omega
  have e3 : ((bAt bs 3).toNat : Int) = bAt bs 3 := by omega
  generalize hx0 : bAt bs 0 = x0 at *
  generalize hx1 : bAt bs 1 = x1 at *
  generalize hx2 : bAt bs 2 = x2 at *
  generalize hx3 : bAt bs 3 = x3 at *
  by_cases c0 : x0 < 128
  · rw [if_pos (by omega), if_pos c0, e0]
  rw [if_neg (by omega), if_neg c0]
  have n1 := cn_iff bs 1
  have n2 := cn_iff bs 2
  have n3 := cn_iff bs 3
  have m1 : cn bs 1 = decide (128 ≤ x1 ∧ x1 ≤ 191) := by
    rw [Bool.eq_iff_iff, cn_iff, hx1, decide_eq_true_eq]
    exact ⟨fun h => h.2, fun h => ⟨cn_len (by rw [hx1]; omega), h⟩⟩
  have m2 : cn bs 2 = decide (128 ≤ x2 ∧ x2 ≤ 191) := by
    rw [Bool.eq_iff_iff, cn_iff, hx2, decide_eq_true_eq]
    exact ⟨fun h => h.2, fun h => ⟨cn_len (by rw [hx2]; omega), h⟩⟩
  have m3 : cn bs 3 = decide (128 ≤ x3 ∧ x3 ≤ 191) := by
    rw [Bool.eq_iff_iff, cn_iff, hx3, decide_eq_true_eq]
    exact ⟨fun h => h.2, fun h => ⟨cn_len (by rw [hx3]; omega), h⟩⟩
  rw [m1, m2, m3]
  clear n1 n2 n3 m1 m2 m3 hx0 hx1 hx2 hx3
  simp only [valid_right, Bool.and_eq_true, beq_iff_eq, decide_eq_true_eq, ge_iff_le]
  by_cases k2 : x0 < 224
  · rw [if_neg (c := (x0.toNat / 16 = 14 ∧ _) ∧ _) (by omega), if_neg (c := ((x0.toNat / 8 = 30 ∧ _) ∧ _) ∧ _) (by omega), if_neg (c := 224 ≤ x0 ∧ _) (by omega), if_neg (c := 240 ≤ x0 ∧ _) (by omega)]
    by_cases h1 : 128 ≤ x1 ∧ x1 ≤ 191
    · by_cases h2 : 194 ≤ x0
      · rw [if_pos ⟨by omega, h1⟩, if_pos (by omega), if_pos ⟨h2, k2⟩, if_pos h1, if_neg]
        · refine Prod.ext ?_ rfl
          dsimp only
          omega
        · have : right (x0 % 32 * 64 + x1 % 64) = true := right_yes (by omega)
          rw [this]
          simp
          omega
      · rw [if_neg (c := 194 ≤ x0 ∧ _) (by omega)]
        split
        · rw [if_neg (by omega)]
          rfl
        · rfl
    · rw [if_neg (c := _ ∧ _) (fun h => h1 h.2)]
      split
      · rfl
      · rfl
  · rw [if_neg (c := x0.toNat / 32 = 6 ∧ _) (by omega), if_neg (c := 194 ≤ x0 ∧ _) (by omega)]
    by_cases k3 : x0 < 240
    · rw [if_neg (c := ((x0.toNat / 8 = 30 ∧ _) ∧ _) ∧ _) (by omega), if_pos (c := 224 ≤ x0 ∧ _) (by omega)]
      by_cases h1 : (128 ≤ x1 ∧ x1 ≤ 191) ∧ (128 ≤ x2 ∧ x2 ≤ 191)
      · rw [if_pos ⟨⟨by omega, h1.1⟩, h1.2⟩, if_pos h1]
        have ee : ((x0.toNat % 16 * 4096 + x1.toNat % 64 * 64 + x2.toNat % 64 : Nat) : Int) = (x0 % 16 * 64 + x1 % 64) * 64 + x2 % 64 := by omega
        rw [ee]
        by_cases hr : right ((x0 % 16 * 64 + x1 % 64) * 64 + x2 % 64) = true
        · by_cases hl : (x0 % 16 * 64 + x1 % 64) * 64 + x2 % 64 < 2048
          · rw [if_neg (by omega), if_pos (.inl hl)]; rfl
          · rw [if_pos ⟨by omega, hr⟩, if_neg (by simp [hr]; omega)]
            exact Prod.ext ee rfl
        · rw [if_neg (fun h => hr h.2), if_pos (.inr (by simpa using hr))]; rfl
      · rw [if_neg (fun h => h1 ⟨h.1.2, h.2⟩), if_neg h1]; rfl
    · rw [if_neg (c := (x0.toNat / 16 = 14 ∧ _) ∧ _) (by omega), if_neg (c := 224 ≤ x0 ∧ _) (by omega)]
      by_cases h1 : (128 ≤ x1 ∧ x1 ≤ 191) ∧ (128 ≤ x2 ∧ x2 ≤ 191) ∧ (128 ≤ x3 ∧ x3 ≤ 191)
      · have ee : ((x0.toNat % 8 * 262144 + x1.toNat % 64 * 4096 + x2.toNat % 64 * 64 + x3.toNat % 64 : Nat) : Int) = ((x0 % 8 * 64 + x1 % 64) * 64 + x2 % 64) * 64 + x3 % 64 := by omega
        rw [ee]
        by_cases k5 : x0 < 248
        · rw [if_pos ⟨⟨⟨by omega, h1.1⟩, h1.2.1⟩, h1.2.2⟩]
          by_cases k4 : x0 < 245
          · rw [if_pos (c := 240 ≤ x0 ∧ _) (by omega), if_pos h1]
            by_cases hr : right (((x0 % 8 * 64 + x1 % 64) * 64 + x2 % 64) * 64 + x3 % 64) = true
            · by_cases hl : ((x0 % 8 * 64 + x1 % 64) * 64 + x2 % 64) * 64 + x3 % 64 < 65536
              · rw [if_neg (by omega), if_pos (.inl hl)]; rfl
              · rw [if_pos ⟨by omega, hr⟩, if_neg (by simp [hr]; omega)]
                exact Prod.ext ee rfl
            · rw [if_neg (fun h => hr h.2), if_pos (.inr (by simpa using hr))]; rfl
          · rw [if_neg (c := 240 ≤ x0 ∧ _) (by omega), if_neg]; · rfl
            intro h
            have := h.2
            unfold right at this
            simp only [Bool.and_eq_true, Bool.or_eq_true, decide_eq_true_eq] at this
            omega
        · rw [if_neg (fun h => k5 (by omega)), if_neg (c := 240 ≤ x0 ∧ _) (by omega)]; rfl
      · rw [if_neg (fun h => h1 ⟨h.1.1.2, h.1.2, h.2⟩), if_neg h1]
        split <;> rfl
end Go.Proofs.Ytdfiegleaknleaa.Aw
