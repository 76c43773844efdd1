/- What the library's decoder reads is what the reference's point reads. -/
/- Lines' ends looked at from behind. -/
/- Tokens of plain texts, piece by piece. -/
import Derived.Test.YtdenafhfngnlfaaDoorXrL
import GoSem.Core.Utf8
namespace Go.Proofs.YtdenafhfngnlfaaDoor.Aw
open Go Go.RowKit Go.Lib
set_option linter.unusedVariables false
set_option linter.unusedSimpArgs false
set_option maxRecDepth 100000
theorem get_at (bs : List UInt8) (k : Nat) : ((⟨bs.toArray⟩ : ByteArray).get! (0 + k)).toNat = (bAt bs k).toNat := by
  unfold bAt ByteArray.get!
  rw [Nat.zero_add]
  simp
  rfl
def cn (bs : List UInt8) (k : Nat) : Bool := decide (k < bs.length) && (bAt bs k).toNat / 64 == 2
/-- The model's reading of a code point, over lists. -/
def decL (bs : List UInt8) : Nat × Nat :=
  if (bAt bs 0).toNat < 0x80 then ((bAt bs 0).toNat, 1)
  else if (bAt bs 0).toNat / 32 == 6 && cn bs 1 then
    if (bAt bs 0).toNat % 32 * 64 + (bAt bs 1).toNat % 64 ≥ 0x80 then ((bAt bs 0).toNat % 32 * 64 + (bAt bs 1).toNat % 64, 2) else (65533, 1)
  else if (bAt bs 0).toNat / 16 == 14 && cn bs 1 && cn bs 2 then
    if (bAt bs 0).toNat % 16 * 4096 + (bAt bs 1).toNat % 64 * 64 + (bAt bs 2).toNat % 64 ≥ 0x800 && Utf8.valid (((bAt bs 0).toNat % 16 * 4096 + (bAt bs 1).toNat % 64 * 64 + (bAt bs 2).toNat % 64 : Nat) : Int) then ((bAt bs 0).toNat % 16 * 4096 + (bAt bs 1).toNat % 64 * 64 + (bAt bs 2).toNat % 64, 3) else (65533, 1)
  else if (bAt bs 0).toNat / 8 == 30 && cn bs 1 && cn bs 2 && cn bs 3 then
    if (bAt bs 0).toNat % 8 * 262144 + (bAt bs 1).toNat % 64 * 4096 + (bAt bs 2).toNat % 64 * 64 + (bAt bs 3).toNat % 64 ≥ 0x10000 && Utf8.valid (((bAt bs 0).toNat % 8 * 262144 + (bAt bs 1).toNat % 64 * 4096 + (bAt bs 2).toNat % 64 * 64 + (bAt bs 3).toNat % 64 : Nat) : Int) then ((bAt bs 0).toNat % 8 * 262144 + (bAt bs 1).toNat % 64 * 4096 + (bAt bs 2).toNat % 64 * 64 + (bAt bs 3).toNat % 64, 4) else (65533, 1)
  else (65533, 1)
theorem decode_decL (bs : List UInt8) : Utf8.decode ⟨bs.toArray⟩ 0 = decL bs := by
  unfold Utf8.decode decL cn Utf8.runeError
  simp only [get_at]
  have hs : (⟨bs.toArray⟩ : ByteArray).size = bs.length := rfl
  simp only [hs, Nat.zero_add]
theorem bAt_out {bs : List UInt8} {i : Nat} (h : bs.length ≤ i) : bAt bs i = 0 := by
  unfold bAt
  rw [List.getD_eq_getElem?_getD, List.getElem?_eq_none h]
  rfl
theorem valid_right (n : Nat) : Utf8.valid (n : Int) = right n := by
  unfold Utf8.valid right
  rw [Bool.eq_iff_iff]
  simp only [Bool.and_eq_true, Bool.or_eq_true, decide_eq_true_eq]
  omega
theorem cn_iff (bs : List UInt8) (k : Nat) : cn bs k = true ↔ (k < bs.length ∧ 128 ≤ bAt bs k ∧ bAt bs k ≤ 191) := by
  have := bAt_le bs k
  unfold cn
  simp only [Bool.and_eq_true, decide_eq_true_eq, beq_iff_eq]
  omega
theorem cn_len {bs : List UInt8} {k : Nat} (h : 128 ≤ bAt bs k) : k < bs.length := by
  rcases Nat.lt_or_ge k bs.length with h1 | h1
  · exact h1
  · rw [bAt_out h1] at h; omega
theorem cn_no {bs : List UInt8} {k : Nat} : cn bs k = false ↔ ¬ (128 ≤ bAt bs k ∧ bAt bs k ≤ 191) := by
  rw [← Bool.not_eq_true, cn_iff]
  constructor
  · exact fun h h2 => h ⟨cn_len h2.1, h2⟩
  · exact fun h h2 => h h2.2
theorem pointK2 (bs : List UInt8) (c : Int) : pointK bs 2 128 c = if 128 ≤ bAt bs 1 ∧ bAt bs 1 ≤ 191 then (if c * 64 + bAt bs 1 % 64 < 128 ∨ right (c * 64 + bAt bs 1 % 64) = false then (65533, 1) else (c * 64 + bAt bs 1 % 64, 2)) else (65533, 1) := by
  unfold pointK
  by_cases h : bs.length < 2
  · rw [if_pos h, if_neg]; rw [bAt_out (by omega)]; omega
  · rw [if_neg h]
    simp only [contRun, show (1 + 1 : Nat) = 2 from rfl, show (1 + 1 + 1 : Nat) = 3 from rfl, show (2 + 1 : Nat) = 3 from rfl, show (2 - 1 : Nat) = 1 from rfl, show (3 - 1 : Nat) = 2 from rfl, show (4 - 1 : Nat) = 3 from rfl]
    by_cases h1 : 128 ≤ bAt bs 1 ∧ bAt bs 1 ≤ 191
    · rw [if_neg (by omega), if_pos h1]
    · rw [if_pos (by omega), if_neg h1]
theorem pointK3 (bs : List UInt8) (c : Int) : pointK bs 3 2048 c = if (128 ≤ bAt bs 1 ∧ bAt bs 1 ≤ 191) ∧ (128 ≤ bAt bs 2 ∧ bAt bs 2 ≤ 191) then (if (c * 64 + bAt bs 1 % 64) * 64 + bAt bs 2 % 64 < 2048 ∨ right ((c * 64 + bAt bs 1 % 64) * 64 + bAt bs 2 % 64) = false then (65533, 1) else ((c * 64 + bAt bs 1 % 64) * 64 + bAt bs 2 % 64, 3)) else (65533, 1) := by
  unfold pointK
  by_cases h : bs.length < 3
  · rw [if_pos h, if_neg]; rw [bAt_out (i := 2) (by omega)]; omega
  · rw [if_neg h]
    simp only [contRun, show (1 + 1 : Nat) = 2 from rfl, show (1 + 1 + 1 : Nat) = 3 from rfl, show (2 + 1 : Nat) = 3 from rfl, show (2 - 1 : Nat) = 1 from rfl, show (3 - 1 : Nat) = 2 from rfl, show (4 - 1 : Nat) = 3 from rfl]
    by_cases h1 : 128 ≤ bAt bs 1 ∧ bAt bs 1 ≤ 191
    · rw [if_neg (by omega)]
      by_cases h2 : 128 ≤ bAt bs 2 ∧ bAt bs 2 ≤ 191
      · rw [if_neg (by omega), if_pos ⟨h1, h2⟩]
      · rw [if_pos (by omega), if_neg (fun h => h2 h.2)]
    · rw [if_pos (by omega), if_neg (fun h => h1 h.1)]
theorem pointK4 (bs : List UInt8) (c : Int) : pointK bs 4 65536 c = if (128 ≤ bAt bs 1 ∧ bAt bs 1 ≤ 191) ∧ (128 ≤ bAt bs 2 ∧ bAt bs 2 ≤ 191) ∧ (128 ≤ bAt bs 3 ∧ bAt bs 3 ≤ 191) then (if ((c * 64 + bAt bs 1 % 64) * 64 + bAt bs 2 % 64) * 64 + bAt bs 3 % 64 < 65536 ∨ right (((c * 64 + bAt bs 1 % 64) * 64 + bAt bs 2 % 64) * 64 + bAt bs 3 % 64) = false then (65533, 1) else (((c * 64 + bAt bs 1 % 64) * 64 + bAt bs 2 % 64) * 64 + bAt bs 3 % 64, 4)) else (65533, 1) := by
  unfold pointK
  by_cases h : bs.length < 4
  · rw [if_pos h, if_neg]; rw [bAt_out (i := 3) (by omega)]; omega
  · rw [if_neg h]
    simp only [contRun, show (1 + 1 : Nat) = 2 from rfl, show (1 + 1 + 1 : Nat) = 3 from rfl, show (2 + 1 : Nat) = 3 from rfl, show (2 - 1 : Nat) = 1 from rfl, show (3 - 1 : Nat) = 2 from rfl, show (4 - 1 : Nat) = 3 from rfl]
    by_cases h1 : 128 ≤ bAt bs 1 ∧ bAt bs 1 ≤ 191
    · rw [if_neg (by omega)]
      by_cases h2 : 128 ≤ bAt bs 2 ∧ bAt bs 2 ≤ 191
      · rw [if_neg (by omega)]
        by_cases h3 : 128 ≤ bAt bs 3 ∧ bAt bs 3 ≤ 191
        · rw [if_neg (by omega), if_pos ⟨h1, h2, h3⟩]
        · rw [if_pos (by omega), if_neg (fun h => h3 h.2.2)]
      · rw [if_pos (by omega), if_neg (fun h => h2 h.2.1)]
    · rw [if_pos (by omega), if_neg (fun h => h1 h.1)]
theorem right_no {c : Int} (h : right c = false) : ¬ (0 ≤ c ∧ c ≤ 1114111 ∧ (c < 55296 ∨ 57343 < c)) := by
  intro h2
  have : right c = true := by
    unfold right
    simp only [Bool.and_eq_true, Bool.or_eq_true, decide_eq_true_eq]
    omega
  rw [h] at this
  cases this
theorem right_yes {c : Int} (h : 0 ≤ c ∧ c ≤ 1114111 ∧ (c < 55296 ∨ 57343 < c)) : right c = true := by
  unfold right
  simp only [Bool.and_eq_true, Bool.or_eq_true, decide_eq_true_eq]
  omega
theorem decL_point (bs : List UInt8) : (((decL bs).1 : Int), (decL bs).2) = pointV bs := by
  have b0 := bAt_le bs 0
  have b1 := bAt_le bs 1
  have b2 := bAt_le bs 2
  have b3 := bAt_le bs 3
  unfold decL pointV
  rw [pointK2, pointK3, pointK4]
  have e0 : ((bAt bs 0).toNat : Int) = bAt bs 0 := by omega
  have e1 : ((bAt bs 1).toNat : Int) = bAt bs 1 := by omega
  have e2 : ((bAt bs 2).toNat : Int) = bAt bs 2 := by omega
  have e3 : ((bAt bs 3).toNat : Int) = bAt bs 3 := by omega
  generalize hx0 : bAt bs 0 = x0 at *
  generalize hx1 : bAt bs 1 = x1 at *
  generalize hx2 : bAt bs 2 = x2 at *
  generalize hx3 : bAt bs 3 = x3 at *
  by_cases c0 : x0 < 128
  · rw [if_pos (by omega), if_pos c0, e0]
  rw [if_neg (by omega), if_neg c0]
  have n1 := cn_iff bs 1
  have n2 := cn_iff bs 2
  have n3 := cn_iff bs 3
  have m1 : cn bs 1 = decide (128 ≤ x1 ∧ x1 ≤ 191) := by
    rw [Bool.eq_iff_iff, cn_iff, hx1, decide_eq_true_eq]
    exact ⟨fun h => h.2, fun h => ⟨cn_len (by rw [hx1]; omega), h⟩⟩
  have m2 : cn bs 2 = decide (128 ≤ x2 ∧ x2 ≤ 191) := by
    rw [Bool.eq_iff_iff, cn_iff, hx2, decide_eq_true_eq]
    exact ⟨fun h => h.2, fun h => ⟨cn_len (by rw [hx2]; omega), h⟩⟩
  have m3 : cn bs 3 = decide (128 ≤ x3 ∧ x3 ≤ 191) := by
    rw [Bool.eq_iff_iff, cn_iff, hx3, decide_eq_true_eq]
    exact ⟨fun h => h.2, fun h => ⟨cn_len (by rw [hx3]; omega), h⟩⟩
  rw [m1, m2, m3]
  clear n1 n2 n3 m1 m2 m3 hx0 hx1 hx2 hx3
  simp only [valid_right, Bool.and_eq_true, beq_iff_eq, decide_eq_true_eq, ge_iff_le]
  by_cases k2 : x0 < 224
  · rw [if_neg (c := (x0.toNat / 16 = 14 ∧ _) ∧ _) (by omega), if_neg (c := ((x0.toNat / 8 = 30 ∧ _) ∧ _) ∧ _) (by omega), if_neg (c := 224 ≤ x0 ∧ _) (by omega), if_neg (c := 240 ≤ x0 ∧ _) (by omega)]
    by_cases h1 : 128 ≤ x1 ∧ x1 ≤ 191
    · by_cases h2 : 194 ≤ x0
      · rw [if_pos ⟨by omega, h1⟩, if_pos (by omega), if_pos ⟨h2, k2⟩, if_pos h1, if_neg]
        · refine Prod.ext ?_ rfl
          dsimp only
          omega
        · have : right (x0 % 32 * 64 + x1 % 64) = true := right_yes (by omega)
          rw [this]
          simp
          omega
      · rw [if_neg (c := 194 ≤ x0 ∧ _) (by omega)]
        split
        · rw [if_neg (by omega)]
          rfl
        · rfl
    · rw [if_neg (c := _ ∧ _) (fun h => h1 h.2)]
      split
      · rfl
      · rfl
  · rw [if_neg (c := x0.toNat / 32 = 6 ∧ _) (by omega), if_neg (c := 194 ≤ x0 ∧ _) (by omega)]
    by_cases k3 : x0 < 240
    · rw [if_neg (c := ((x0.toNat / 8 = 30 ∧ _) ∧ _) ∧ _) (by omega), if_pos (c := 224 ≤ x0 ∧ _) (by omega)]
      by_cases h1 : (128 ≤ x1 ∧ x1 ≤ 191) ∧ (128 ≤ x2 ∧ x2 ≤ 191)
      · rw [if_pos ⟨⟨by omega, h1.1⟩, h1.2⟩, if_pos h1]
        have ee : ((x0.toNat % 16 * 4096 + x1.toNat % 64 * 64 + x2.toNat % 64 : Nat) : Int) = (x0 % 16 * 64 + x1 % 64) * 64 + x2 % 64 := by omega
        rw [ee]
        by_cases hr : right ((x0 % 16 * 64 + x1 % 64) * 64 + x2 % 64) = true
        · by_cases hl : (x0 % 16 * 64 + x1 % 64) * 64 + x2 % 64 < 2048
          · rw [if_neg (by omega), if_pos (.inl hl)]; rfl
          · rw [if_pos ⟨by omega, hr⟩, if_neg (by simp [hr]; omega)]
            exact Prod.ext ee rfl
        · rw [if_neg (fun h => hr h.2), if_pos (.inr (by simpa using hr))]; rfl
      · rw [if_neg (fun h => h1 ⟨h.1.2, h.2⟩), if_neg h1]; rfl
    · rw [if_neg (c := (x0.toNat / 16 = 14 ∧ _) ∧ _) (by omega), if_neg (c := 224 ≤ x0 ∧ _) (by omega)]
      by_cases h1 : (128 ≤ x1 ∧ x1 ≤ 191) ∧ (128 ≤ x2 ∧ x2 ≤ 191) ∧ (128 ≤ x3 ∧ x3 ≤ 191)
      · have ee : ((x0.toNat % 8 * 262144 + x1.toNat % 64 * 4096 + x2.toNat % 64 * 64 + x3.toNat % 64 : Nat) : Int) = ((x0 % 8 * 64 + x1 % 64) * 64 + x2 % 64) * 64 + x3 % 64 := by omega
        rw [ee]
        by_cases k5 : x0 < 248
        · rw [if_pos ⟨⟨⟨by omega, h1.1⟩, h1.2.1⟩, h1.2.2⟩]
          by_cases k4 : x0 < 245
          · rw [if_pos (c := 240 ≤ x0 ∧ _) (by omega), if_pos h1]
            by_cases hr : right (((x0 % 8 * 64 + x1 % 64) * 64 + x2 % 64) * 64 + x3 % 64) = true
            · by_cases hl : ((x0 % 8 * 64 + x1 % 64) * 64 + x2 % 64) * 64 + x3 % 64 < 65536
              · rw [if_neg (by omega), if_pos (.inl hl)]; rfl
              · rw [if_pos ⟨by omega, hr⟩, if_neg (by simp [hr]; omega)]
                exact Prod.ext ee rfl
            · rw [if_neg (fun h => hr h.2), if_pos (.inr (by simpa using hr))]; rfl
          · rw [if_neg (c := 240 ≤ x0 ∧ _) (by omega), if_neg]; · rfl
            intro h
            have := h.2
            unfold right at this
            simp only [Bool.and_eq_true, Bool.or_eq_true, decide_eq_true_eq] at this
            omega
        · rw [if_neg (fun h => k5 (by omega)), if_neg (c := 240 ≤ x0 ∧ _) (by omega)]; rfl
      · rw [if_neg (fun h => h1 ⟨h.1.1.2, h.1.2, h.2⟩), if_neg h1]
        split <;> rfl
end Go.Proofs.YtdenafhfngnlfaaDoor.Aw

namespace Go.Proofs.YtdenafhfngnlfaaDoor.Aw
open Go Go.RowKit Go.Lib
set_option linter.unusedVariables false
set_option linter.unusedSimpArgs false
/-- Lines' ends, looked at from behind. -/
def lineC (last c : Int) : List Int := if c = 10 ∧ last = 13 then [] else if c = 13 ∨ c = 12 then [10] else if c = 0 then [65533] else [c]
def pprep : Int → List Int → List Int
  | _, [] => []
  | last, c :: r => lineC last c ++ pprep c r
theorem pprep_is : ∀ (l : List Int) (last : Int), (last ≠ 13 → pprep last l = prep l) ∧ 10 :: pprep 13 l = prep (13 :: l)
  | [], last => ⟨fun _ => rfl, by simp [pprep, prep]⟩
  | c :: r, last => by
    obtain ⟨i1, i2⟩ := pprep_is r c
    have one : ∀ last, last ≠ 13 ∨ c ≠ 10 → pprep last (c :: r) = prep (c :: r) := fun last h => by
      rw [pprep, lineC, if_neg (by omega)]
      by_cases h13 : c = 13
      · subst h13
        rw [if_pos (.inl rfl)]
        exact i2
      · rw [prep, i1 h13]
        rw [if_neg (c := c = 13 ∧ _) (fun h => h13 h.1)]
        repeat' split
        all_goals rfl
    refine ⟨fun h => one last (.inl h), ?_⟩
    by_cases h10 : c = 10
    · subst h10
      rw [prep, if_pos ⟨rfl, rfl⟩, pprep, lineC, if_pos ⟨rfl, rfl⟩, List.nil_append, i1 (by decide)]
      simp [prep]
    · rw [one 13 (.inr h10)]
      conv => rhs; rw [prep]
      rw [if_neg (by simp; exact h10), if_pos (.inl rfl)]
theorem pprep_prep (l : List Int) : pprep 0 l = prep l := (pprep_is l 0).1 (by decide)
end Go.Proofs.YtdenafhfngnlfaaDoor.Aw

namespace Go.Proofs.YtdenafhfngnlfaaDoor.Aw
open Go Go.RowKit Go.Lib
set_option linter.unusedVariables false
set_option linter.unusedSimpArgs false
def ints (bs : List UInt8) : List Int := bs.map fun b => (b.toNat : Int)
theorem ptsRun_ascii {bs : List UInt8} (h : ∀ b ∈ bs, b.toNat < 128) : ∀ (f i : Nat) (out : List Int), bs.length - i < f → i ≤ bs.length → ptsRun bs f i out = out ++ ints (bs.drop i)
  | 0, i, out, hf, _ => by omega
  | f + 1, i, out, hf, hi => by
    unfold ptsRun
    split
    · rename_i hlt
      have e1 : bs.drop i = bs[i] :: bs.drop (i + 1) := List.drop_eq_getElem_cons hlt
      have hb := h bs[i] (List.getElem_mem hlt)
      have e2 : bAt (bs.drop i) 0 = (bs[i].toNat : Int) := by rw [e1]; rfl
      have e3 : pointV (bs.drop i) = ((bs[i].toNat : Int), 1) := by
        unfold pointV
        rw [e2, if_pos (by omega)]
      rw [e3]
      dsimp only
      rw [ptsRun_ascii h f (i + 1) _ (by omega) (by omega), e1]
      simp only [ints, List.map_cons, List.append_assoc, List.singleton_append]
    · rw [show bs.drop i = [] by rw [List.drop_eq_nil_iff]; omega]
      simp [ints]
theorem points_ascii {bs : List UInt8} (h : ∀ b ∈ bs, b.toNat < 128) : points bs = ints bs := by
  unfold points
  rw [ptsRun_ascii h _ 0 [] (by omega) (by omega)]
  simp
theorem prep_id : ∀ {l : List Int}, (∀ c ∈ l, c ≠ 13 ∧ c ≠ 12 ∧ c ≠ 0) → prep l = l
  | [], _ => rfl
  | c :: r, h => by
    have h1 := h c (by simp)
    unfold prep
    rw [if_neg (by omega), if_neg (by omega), if_neg (by omega), prep_id (fun x hx => h x (by simp [hx]))]
theorem prepare_ascii {bs : List UInt8} (h : ∀ b ∈ bs, b.toNat < 128 ∧ b.toNat ≠ 13 ∧ b.toNat ≠ 12 ∧ b.toNat ≠ 0) : prepare bs = ints bs := by
  unfold prepare
  rw [points_ascii (fun b hb => (h b hb).1)]
  refine prep_id (fun c hc => ?_)
  obtain ⟨b, hb, rfl⟩ := List.mem_map.1 hc
  have := h b hb
  omega
theorem see_cons {l : List Int} {p : Nat} {c : Int} {r : List Int} (h : l.drop p = c :: r) (hc : 0 ≤ c ∧ c < 128) : see l p = c ∧ l.drop (p + 1) = r ∧ p < l.length := by
  have h1 : l[p]? = some c := by
    have := congrArg (·[0]?) h
    simpa using this
  have h2 : l.drop (p + 1) = r := by
    have := congrArg List.tail h
    simpa [List.tail_drop] using this
  refine ⟨?_, h2, (List.getElem?_eq_some_iff.1 h1).1⟩
  unfold see
  rw [h1]
  dsimp only
  have : right c = true := by simp only [right, Bool.and_eq_true, Bool.or_eq_true, decide_eq_true_eq]; omega
  rw [if_pos this]
theorem see_end {l : List Int} {p : Nat} (h : l.drop p = []) : see l p = -1 := by
  unfold see
  rw [List.getElem?_eq_none (by rw [List.drop_eq_nil_iff] at h; exact h)]
theorem putB_ascii {c : Int} (hc : 0 ≤ c ∧ c < 128) : putB c = [b8 c] := by
  have : right c = true := by simp only [right, Bool.and_eq_true, Bool.or_eq_true, decide_eq_true_eq]; omega
  unfold putB utfB
  rw [if_pos this, if_pos hc.2]
/-- Where a name ends. -/
def Stops : List Int → Prop
  | [] => True
  | c :: _ => 0 ≤ c ∧ c < 128 ∧ namePoint c = false ∧ c ≠ 92
theorem stop_see {l : List Int} {p : Nat} {r : List Int} (h : l.drop p = r) (hs : Stops r) : namePoint (see l p) = false ∧ escape l p = false := by
  cases r with
  | nil =>
    rw [see_end h]
    refine ⟨by decide, ?_⟩
    unfold escape
    rw [see_end h]
    simp
  | cons c r =>
    obtain ⟨h1, h2, h3, h4⟩ := hs
    obtain ⟨e, _, _⟩ := see_cons h ⟨h1, h2⟩
    rw [e]
    refine ⟨h3, ?_⟩
    unfold escape
    rw [e]
    simp [h4]
theorem nameRun_plain {l : List Int} : ∀ (cs r : List Int) (p : Nat) (bs : List UInt8) (f : Nat), l.drop p = cs ++ r → (∀ c ∈ cs, namePoint c = true ∧ 0 ≤ c ∧ c < 128) → Stops r → cs.length < f → nameRun l f p bs = (bs ++ cs.map b8, p + cs.length)
  | _, _, _, _, 0, _, _, _, hf => by omega
  | [], r, p, bs, f + 1, h, _, hs, _ => by
    obtain ⟨h1, h2⟩ := stop_see h hs
    unfold nameRun
    rw [h1, h2]
    simp
  | c :: cs, r, p, bs, f + 1, h, hc, hs, hf => by
    have h0 := hc c (by simp)
    obtain ⟨e, hd, _⟩ := see_cons h h0.2
    unfold nameRun
    rw [e, if_pos h0.1, putB_ascii h0.2, nameRun_plain cs r (p + 1) _ f hd (fun x hx => hc x (by simp [hx])) hs (by simp at hf; omega)]
    simp
    omega
theorem name_plain {l : List Int} {cs r : List Int} {p : Nat} (h : l.drop p = cs ++ r) (hc : ∀ c ∈ cs, namePoint c = true ∧ 0 ≤ c ∧ c < 128) (hs : Stops r) : nameS l p = cs.map b8 ∧ nameP l p = p + cs.length := by
  have hl : cs.length ≤ l.length := by
    have := congrArg List.length h
    simp at this
    omega
  have := nameRun_plain cs r p [] (l.length + 1) h hc hs (by omega)
  unfold nameS nameP
  rw [this]
  exact ⟨by simp, rfl⟩
/-- Signs. -/
theorem tok_sign {l : List Int} {p : Nat} {c : Int} {r : List Int} (h : l.drop p = c :: r) (hc : c = 58 ∨ c = 41 ∨ c = 91 ∨ c = 93 ∨ c = 44) : tokNext l p = ([{ kind := sign c }], p + 1) := by
  obtain ⟨e, _, _⟩ := see_cons h (by omega)
  have n1 : number l p = false := number_at e (by rcases hc with rfl | rfl | rfl | rfl | rfl <;> decide) (by omega)
  have n2 : begins l p = false := begins_at' e (by rcases hc with rfl | rfl | rfl | rfl | rfl <;> decide) (by omega)
  have n3 : white c = false := by rcases hc with rfl | rfl | rfl | rfl | rfl <;> decide
  have n4 : 0 < sign c := by rcases hc with rfl | rfl | rfl | rfl | rfl <;> decide
  unfold tokNext
  rw [e, n1, n2, n3, if_neg (by omega), if_neg (by simp), if_neg (by omega), if_neg (by omega), if_neg (by simp), if_neg (by omega), if_neg (by simp), if_pos n4]
theorem letter_facts {c : Int} (h : 97 ≤ c ∧ c ≤ 122) : nameStart c = true ∧ namePoint c = true ∧ white c = false ∧ digit c = false := by
  refine ⟨?_, ?_, ?_, ?_⟩
  · simp only [nameStart, Bool.or_eq_true, Bool.and_eq_true, decide_eq_true_eq]; omega
  · simp only [namePoint, nameStart, Bool.or_eq_true, Bool.and_eq_true, decide_eq_true_eq]; omega
  · simp only [white, Bool.or_eq_false_iff, decide_eq_false_iff_not]; omega
  · simp only [digit, Bool.and_eq_false_imp, decide_eq_true_eq, decide_eq_false_iff_not]; omega
/-- Names of letters. -/
theorem tok_name {l : List Int} {p : Nat} {c : Int} {cs r : List Int} (h : l.drop p = (c :: cs) ++ r) (h0 : 97 ≤ c ∧ c ≤ 122) (hc : ∀ x ∈ c :: cs, namePoint x = true ∧ 0 ≤ x ∧ x < 128) (hs : Stops r) :
    tokNext l p = if see l (p + (c :: cs).length) = 40 then ([{ kind := 20, text := (c :: cs).map b8 }], p + (c :: cs).length + 1) else ([{ kind := 1, text := (c :: cs).map b8 }], p + (c :: cs).length) := by
  obtain ⟨e, _, _⟩ := see_cons (c := c) (r := cs ++ r) (by simpa using h) (by omega)
  obtain ⟨f1, f2, f3, f4⟩ := letter_facts h0
  obtain ⟨e1, e2⟩ := name_plain h hc hs
  have n1 : number l p = false := number_at e f4 (by omega)
  have n2 : begins l p = true := by
    unfold begins
    rw [e, if_neg (by omega), f1]
    rfl
  unfold tokNext
  rw [e, n1, n2, f3, if_neg (by omega), if_neg (by simp), if_neg (by omega), if_neg (by omega), if_neg (by simp), if_neg (by omega), if_pos rfl, e1, e2]
/-- A blank. -/
theorem tok_blank {l : List Int} {p : Nat} {r : List Int} (h : l.drop p = 32 :: r) (hs : match r with | [] => True | c :: _ => 0 ≤ c ∧ c < 128 ∧ white c = false) : tokNext l p = ([{ kind := 9 }], p + 1) := by
  obtain ⟨e, hd, hp⟩ := see_cons h (by omega)
  have w0 : white 32 = true := by decide
  have w1 : white (see l (p + 1)) = false := by
    cases r with
    | nil => rw [see_end hd]; decide
    | cons c r => rw [(see_cons hd ⟨hs.1, hs.2.1⟩).1]; exact hs.2.2
  have hw : whiteEnd l (l.length + 1) p = p + 1 := by
    rw [whiteEnd, e, if_pos w0]
    cases hl : l.length with
    | zero => omega
    | succ m => rw [whiteEnd, w1, if_neg (by simp)]
  unfold tokNext
  rw [e, if_neg (by omega), if_pos w0, hw]
/-- Tokens from one place to another. -/
def Toks (l : List Int) (p q : Nat) (us : List Tok) : Prop := ∀ (f : Nat) (ts : List Tok), l.length - p < f → tokRun l f p ts = tokRun l (l.length - q + 1) q (ts ++ us)
theorem Toks.nil {l : List Int} {p : Nat} : Toks l p p [] := fun f ts hf => by rw [List.append_nil]; exact tokRun_fuel l _ _ _ _ hf (by omega)
theorem Toks.one {l : List Int} {p q : Nat} {us : List Tok} (h0 : 0 ≤ see l p) (h : tokNext l p = (us, q)) : Toks l p q us := fun f ts hf => by
  have hg := tokNext_gt h0
  have hl := see_lt h0
  rw [h] at hg
  obtain ⟨f, rfl⟩ : ∃ g, f = g + 1 := ⟨f - 1, by omega⟩
  rw [tokRun, if_pos h0, h]
  exact tokRun_fuel l _ _ _ _ (by dsimp only at *; omega) (by omega)
theorem Toks.trans {l : List Int} {p q r : Nat} {us vs : List Tok} (h : Toks l p q us) (k : Toks l q r vs) : Toks l p r (us ++ vs) := fun f ts hf => by
  rw [h f ts hf, k _ _ (by omega), List.append_assoc]
theorem tokens_of {l : List Int} {us : List Tok} (h : Toks l 0 l.length us) : tokens l = us := by
  unfold tokens
  rw [h _ _ (by omega), Nat.sub_self, tokRun, if_neg]
  · simp
  · rw [see_end (by simp)]; omega
end Go.Proofs.YtdenafhfngnlfaaDoor.Aw

