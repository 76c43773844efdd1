/- Plain laws of tokens: comments, parts of a text, how many tokens there are. -/
import Derived.Test.YtlhegfkpgchaeaaGreatDoorXrL
import GoSem.Core.Utf8
namespace Go.Proofs.YtlhegfkpgchaeaaGreatDoor.Aw
open Go Go.RowKit Go.Lib
set_option linter.unusedVariables false
set_option linter.unusedSimpArgs false
set_option maxRecDepth 100000
theorem get_at (bs : List UInt8) (k : Nat) : ((⟨bs.toArray⟩ : ByteArray).get! (0 + k)).toNat = (bAt bs k).toNat := by
 unfold bAt ByteArray.get!
 rw [Nat.zero_add]
 simp
 rfl
def cn (bs : List UInt8) (k : Nat) : Bool := decide (k < bs.length) && (bAt bs k).toNat / 64 == 2
def decL (bs : List UInt8) : Nat × Nat :=
 if (bAt bs 0).toNat < 0x80 then ((bAt bs 0).toNat, 1)
 else if (bAt bs 0).toNat / 32 == 6 && cn bs 1 then
  if (bAt bs 0).toNat % 32 * 64 + (bAt bs 1).toNat % 64 ≥ 0x80 then ((bAt bs 0).toNat % 32 * 64 + (bAt bs 1).toNat % 64, 2) else (65533, 1)
 else if (bAt bs 0).toNat / 16 == 14 && cn bs 1 && cn bs 2 then
  if (bAt bs 0).toNat % 16 * 4096 + (bAt bs 1).toNat % 64 * 64 + (bAt bs 2).toNat % 64 ≥ 0x800 && Utf8.valid (((bAt bs 0).toNat % 16 * 4096 + (bAt bs 1).toNat % 64 * 64 + (bAt bs 2).toNat % 64 : Nat) : Int) then ((bAt bs 0).toNat % 16 * 4096 + (bAt bs 1).toNat % 64 * 64 + (bAt bs 2).toNat % 64, 3) else (65533, 1)
 else if (bAt bs 0).toNat / 8 == 30 && cn bs 1 && cn bs 2 && cn bs 3 then
  if (bAt bs 0).toNat % 8 * 262144 + (bAt bs 1).toNat % 64 * 4096 + (bAt bs 2).toNat % 64 * 64 + (bAt bs 3).toNat % 64 ≥ 0x10000 && Utf8.valid (((bAt bs 0).toNat % 8 * 262144 + (bAt bs 1).toNat % 64 * 4096 + (bAt bs 2).toNat % 64 * 64 + (bAt bs 3).toNat % 64 : Nat) : Int) then ((bAt bs 0).toNat % 8 * 262144 + (bAt bs 1).toNat % 64 * 4096 + (bAt bs 2).toNat % 64 * 64 + (bAt bs 3).toNat % 64, 4) else (65533, 1)
 else (65533, 1)
theorem decode_decL (bs : List UInt8) : Utf8.decode ⟨bs.toArray⟩ 0 = decL bs := by
 unfold Utf8.decode decL cn Utf8.runeError
 simp only [get_at]
 have hs : (⟨bs.toArray⟩ : ByteArray).size = bs.length := rfl
 simp only [hs, Nat.zero_add]
theorem bAt_out {bs : List UInt8} {i : Nat} (h : bs.length ≤ i) : bAt bs i = 0 := by
 unfold bAt
 rw [List.getD_eq_getElem?_getD, List.getElem?_eq_none h]
 rfl
theorem valid_right (n : Nat) : Utf8.valid (n : Int) = right n := by
 unfold Utf8.valid right
 rw [Bool.eq_iff_iff]
 simp only [Bool.and_eq_true, Bool.or_eq_true, decide_eq_true_eq]
 omega
theorem cn_iff (bs : List UInt8) (k : Nat) : cn bs k = true ↔ (k < bs.length ∧ 128 ≤ bAt bs k ∧ bAt bs k ≤ 191) := by
 have := bAt_le bs k
 unfold cn
 simp only [Bool.and_eq_true, decide_eq_true_eq, beq_iff_eq]
 omega
theorem cn_len {bs : List UInt8} {k : Nat} (h : 128 ≤ bAt bs k) : k < bs.length := by
 rcases Nat.lt_or_ge k bs.length with h1 | h1
 ·exact h1
 ·rw [bAt_out h1] at h; omega
theorem pointK2 (bs : List UInt8) (c : Int) : pointK bs 2 128 c = if 128 ≤ bAt bs 1 ∧ bAt bs 1 ≤ 191 then (if c * 64 + bAt bs 1 % 64 < 128 ∨ right (c * 64 + bAt bs 1 % 64) = false then (65533, 1) else (c * 64 + bAt bs 1 % 64, 2)) else (65533, 1) := by
 unfold pointK
 by_cases h : bs.length < 2
 ·rw [if_pos h, if_neg]; rw [bAt_out (by omega)]; omega
 ·rw [if_neg h]
  simp only [contRun, show (1 + 1 : Nat) = 2 from rfl, show (1 + 1 + 1 : Nat) = 3 from rfl, show (2 + 1 : Nat) = 3 from rfl, show (2 - 1 : Nat) = 1 from rfl, show (3 - 1 : Nat) = 2 from rfl, show (4 - 1 : Nat) = 3 from rfl]
  by_cases h1 : 128 ≤ bAt bs 1 ∧ bAt bs 1 ≤ 191
  ·rw [if_neg (by omega), if_pos h1]
  ·rw [if_pos (by omega), if_neg h1]
theorem pointK3 (bs : List UInt8) (c : Int) : pointK bs 3 2048 c = if (128 ≤ bAt bs 1 ∧ bAt bs 1 ≤ 191) ∧ (128 ≤ bAt bs 2 ∧ bAt bs 2 ≤ 191) then (if (c * 64 + bAt bs 1 % 64) * 64 + bAt bs 2 % 64 < 2048 ∨ right ((c * 64 + bAt bs 1 % 64) * 64 + bAt bs 2 % 64) = false then (65533, 1) else ((c * 64 + bAt bs 1 % 64) * 64 + bAt bs 2 % 64, 3)) else (65533, 1) := by
 unfold pointK
 by_cases h : bs.length < 3
 ·rw [if_pos h, if_neg]; rw [bAt_out (i := 2) (by omega)]; omega
 ·rw [if_neg h]
  simp only [contRun, show (1 + 1 : Nat) = 2 from rfl, show (1 + 1 + 1 : Nat) = 3 from rfl, show (2 + 1 : Nat) = 3 from rfl, show (2 - 1 : Nat) = 1 from rfl, show (3 - 1 : Nat) = 2 from rfl, show (4 - 1 : Nat) = 3 from rfl]
  by_cases h1 : 128 ≤ bAt bs 1 ∧ bAt bs 1 ≤ 191
  ·rw [if_neg (by omega)]
   by_cases h2 : 128 ≤ bAt bs 2 ∧ bAt bs 2 ≤ 191
   ·rw [if_neg (by omega), if_pos ⟨h1, h2⟩]
   ·rw [if_pos (by omega), if_neg (fun h => h2 h.2)]
  ·rw [if_pos (by omega), if_neg (fun h => h1 h.1)]
theorem pointK4 (bs : List UInt8) (c : Int) : pointK bs 4 65536 c = if (128 ≤ bAt bs 1 ∧ bAt bs 1 ≤ 191) ∧ (128 ≤ bAt bs 2 ∧ bAt bs 2 ≤ 191) ∧ (128 ≤ bAt bs 3 ∧ bAt bs 3 ≤ 191) then (if ((c * 64 + bAt bs 1 % 64) * 64 + bAt bs 2 % 64) * 64 + bAt bs 3 % 64 < 65536 ∨ right (((c * 64 + bAt bs 1 % 64) * 64 + bAt bs 2 % 64) * 64 + bAt bs 3 % 64) = false then (65533, 1) else (((c * 64 + bAt bs 1 % 64) * 64 + bAt bs 2 % 64) * 64 + bAt bs 3 % 64, 4)) else (65533, 1) := by
 unfold pointK
 by_cases h : bs.length < 4
 ·rw [if_pos h, if_neg]; rw [bAt_out (i := 3) (by omega)]; omega
 ·rw [if_neg h]
  simp only [contRun, show (1 + 1 : Nat) = 2 from rfl, show (1 + 1 + 1 : Nat) = 3 from rfl, show (2 + 1 : Nat) = 3 from rfl, show (2 - 1 : Nat) = 1 from rfl, show (3 - 1 : Nat) = 2 from rfl, show (4 - 1 : Nat) = 3 from rfl]
  by_cases h1 : 128 ≤ bAt bs 1 ∧ bAt bs 1 ≤ 191
  ·rw [if_neg (by omega)]
   by_cases h2 : 128 ≤ bAt bs 2 ∧ bAt bs 2 ≤ 191
   ·rw [if_neg (by omega)]
    by_cases h3 : 128 ≤ bAt bs 3 ∧ bAt bs 3 ≤ 191
    ·rw [if_neg (by omega), if_pos ⟨h1, h2, h3⟩]
    ·rw [if_pos (by omega), if_neg (fun h => h3 h.2.2)]
   ·rw [if_pos (by omega), if_neg (fun h => h2 h.2.1)]
  ·rw [if_pos (by omega), if_neg (fun h => h1 h.1)]
theorem right_yes {c : Int} (h : 0 ≤ c ∧ c ≤ 1114111 ∧ (c < 55296 ∨ 57343 < c)) : right c = true := by
 unfold right
 simp only [Bool.and_eq_true, Bool.or_eq_true, decide_eq_true_eq]
 omega
theorem decL_point (bs : List UInt8) : (((decL bs).1 : Int), (decL bs).2) = pointV bs := by
 have b0 := bAt_le bs 0
 have b1 := bAt_le bs 1
 have b2 := bAt_le bs 2
 have b3 := bAt_le bs 3
 unfold decL pointV
 rw [pointK2, pointK3, pointK4]
 have e0 : ((bAt bs 0).toNat : Int) = bAt bs 0 := by omega
 have e1 : ((bAt bs 1).toNat : Int) = bAt bs 1 := by omega
 have e2 : ((bAt bs 2).toNat : Int) = bAt bs 2 := by omega
 have e3 : ((bAt bs 3).toNat : Int) = bAt bs 3 := by omega
 generalize hx0 : bAt bs 0 = x0 at *
 generalize hx1 : bAt bs 1 = x1 at *
 generalize hx2 : bAt bs 2 = x2 at *
 generalize hx3 : bAt bs 3 = x3 at *
 by_cases c0 : x0 < 128
 ·rw [if_pos (by omega), if_pos c0, e0]
 rw [if_neg (by omega), if_neg c0]
 have n1 := cn_iff bs 1
 have n2 := cn_iff bs 2
 have n3 := cn_iff bs 3
 have m1 : cn bs 1 = decide (128 ≤ x1 ∧ x1 ≤ 191) := by
  rw [Bool.eq_iff_iff, cn_iff, hx1, decide_eq_true_eq]
  exact ⟨fun h => h.2, fun h => ⟨cn_len (by rw [hx1]; omega), h⟩⟩
 have m2 : cn bs 2 = decide (128 ≤ x2 ∧ x2 ≤ 191) := by
  rw [Bool.eq_iff_iff, cn_iff, hx2, decide_eq_true_eq]
  exact ⟨fun h => h.2, fun h => ⟨cn_len (by rw [hx2]; omega), h⟩⟩
 have m3 : cn bs 3 = decide (128 ≤ x3 ∧ x3 ≤ 191) := by
  rw [Bool.eq_iff_iff, cn_iff, hx3, decide_eq_true_eq]
  exact ⟨fun h => h.2, fun h => ⟨cn_len (by rw [hx3]; omega), h⟩⟩
 rw [m1, m2, m3]
 clear n1 n2 n3 m1 m2 m3 hx0 hx1 hx2 hx3
 simp only [valid_right, Bool.and_eq_true, beq_iff_eq, decide_eq_true_eq, ge_iff_le]
 by_cases k2 : x0 < 224
 ·rw [if_neg (c := (x0.toNat / 16 = 14 ∧ _) ∧ _) (by omega), if_neg (c := ((x0.toNat / 8 = 30 ∧ _) ∧ _) ∧ _) (by omega), if_neg (c := 224 ≤ x0 ∧ _) (by omega), if_neg (c := 240 ≤ x0 ∧ _) (by omega)]
  by_cases h1 : 128 ≤ x1 ∧ x1 ≤ 191
  ·by_cases h2 : 194 ≤ x0
   ·rw [if_pos ⟨by omega, h1⟩, if_pos (by omega), if_pos ⟨h2, k2⟩, if_pos h1, if_neg]
    ·refine Prod.ext ?_ rfl
     dsimp only
     omega
    ·have : right (x0 % 32 * 64 + x1 % 64) = true := right_yes (by omega)
     rw [this]
     simp
     omega
   ·rw [if_neg (c := 194 ≤ x0 ∧ _) (by omega)]
    split
    ·rw [if_neg (by omega)]
     rfl
    ·rfl
  ·rw [if_neg (c := _ ∧ _) (fun h => h1 h.2)]
   split
   ·rfl
   ·rfl
 ·rw [if_neg (c := x0.toNat / 32 = 6 ∧ _) (by omega), if_neg (c := 194 ≤ x0 ∧ _) (by omega)]
  by_cases k3 : x0 < 240
  ·rw [if_neg (c := ((x0.toNat / 8 = 30 ∧ _) ∧ _) ∧ _) (by omega), if_pos (c := 224 ≤ x0 ∧ _) (by omega)]
   by_cases h1 : (128 ≤ x1 ∧ x1 ≤ 191) ∧ (128 ≤ x2 ∧ x2 ≤ 191)
   ·rw [if_pos ⟨⟨by omega, h1.1⟩, h1.2⟩, if_pos h1]
    have ee : ((x0.toNat % 16 * 4096 + x1.toNat % 64 * 64 + x2.toNat % 64 : Nat) : Int) = (x0 % 16 * 64 + x1 % 64) * 64 + x2 % 64 := by omega
    rw [ee]
    by_cases hr : right ((x0 % 16 * 64 + x1 % 64) * 64 + x2 % 64) = true
    ·by_cases hl : (x0 % 16 * 64 + x1 % 64) * 64 + x2 % 64 < 2048
     ·rw [if_neg (by omega), if_pos (.inl hl)]; rfl
     ·rw [if_pos ⟨by omega, hr⟩, if_neg (by simp [hr]; omega)]
      exact Prod.ext ee rfl
    ·rw [if_neg (fun h => hr h.2), if_pos (.inr (by simpa using hr))]; rfl
   ·rw [if_neg (fun h => h1 ⟨h.1.2, h.2⟩), if_neg h1]; rfl
  ·rw [if_neg (c := (x0.toNat / 16 = 14 ∧ _) ∧ _) (by omega), if_neg (c := 224 ≤ x0 ∧ _) (by omega)]
   by_cases h1 : (128 ≤ x1 ∧ x1 ≤ 191) ∧ (128 ≤ x2 ∧ x2 ≤ 191) ∧ (128 ≤ x3 ∧ x3 ≤ 191)
   ·have ee : ((x0.toNat % 8 * 262144 + x1.toNat % 64 * 4096 + x2.toNat % 64 * 64 + x3.toNat % 64 : Nat) : Int) = ((x0 % 8 * 64 + x1 % 64) * 64 + x2 % 64) * 64 + x3 % 64 := by omega
    rw [ee]
    by_cases k5 : x0 < 248
    ·rw [if_pos ⟨⟨⟨by omega, h1.1⟩, h1.2.1⟩, h1.2.2⟩]
     by_cases k4 : x0 < 245
     ·rw [if_pos (c := 240 ≤ x0 ∧ _) (by omega), if_pos h1]
      by_cases hr : right (((x0 % 8 * 64 + x1 % 64) * 64 + x2 % 64) * 64 + x3 % 64) = true
      ·by_cases hl : ((x0 % 8 * 64 + x1 % 64) * 64 + x2 % 64) * 64 + x3 % 64 < 65536
       ·rw [if_neg (by omega), if_pos (.inl hl)]; rfl
       ·rw [if_pos ⟨by omega, hr⟩, if_neg (by simp [hr]; omega)]
        exact Prod.ext ee rfl
      ·rw [if_neg (fun h => hr h.2), if_pos (.inr (by simpa using hr))]; rfl
     ·rw [if_neg (c := 240 ≤ x0 ∧ _) (by omega), if_neg]; · rfl
      intro h
      have := h.2
      unfold right at this
      simp only [Bool.and_eq_true, Bool.or_eq_true, decide_eq_true_eq] at this
      omega
    ·rw [if_neg (fun h => k5 (by omega)), if_neg (c := 240 ≤ x0 ∧ _) (by omega)]; rfl
   ·rw [if_neg (fun h => h1 ⟨h.1.1.2, h.1.2, h.2⟩), if_neg h1]
    split <;> rfl
def lineC (last c : Int) : List Int := if c = 10 ∧ last = 13 then [] else if c = 13 ∨ c = 12 then [10] else if c = 0 then [65533] else [c]
def pprep : Int → List Int → List Int
 | _, [] => []
 | last, c :: r => lineC last c ++ pprep c r
theorem pprep_is : ∀ (l : List Int) (last : Int), (last ≠ 13 → pprep last l = prep l) ∧ 10 :: pprep 13 l = prep (13 :: l)
 | [], last => ⟨fun _ => rfl, by simp [pprep, prep]⟩
 | c :: r, last => by
  obtain ⟨i1, i2⟩ := pprep_is r c
  have one : ∀ last, last ≠ 13 ∨ c ≠ 10 → pprep last (c :: r) = prep (c :: r) := fun last h => by
   rw [pprep, lineC, if_neg (by omega)]
   by_cases h13 : c = 13
   ·subst h13
    rw [if_pos (.inl rfl)]
    exact i2
   ·rw [prep, i1 h13]
    rw [if_neg (c := c = 13 ∧ _) (fun h => h13 h.1)]
    repeat' split
    all_goals rfl
  refine ⟨fun h => one last (.inl h), ?_⟩
  by_cases h10 : c = 10
  ·subst h10
   rw [prep, if_pos ⟨rfl, rfl⟩, pprep, lineC, if_pos ⟨rfl, rfl⟩, List.nil_append, i1 (by decide)]
   simp [prep]
  ·rw [one 13 (.inr h10)]
   conv => rhs; rw [prep]
   rw [if_neg (by simp; exact h10), if_pos (.inl rfl)]
theorem pprep_prep (l : List Int) : pprep 0 l = prep l := (pprep_is l 0).1 (by decide)
def ints (bs : List UInt8) : List Int := bs.map fun b => (b.toNat : Int)
def Toks (l : List Int) (p q : Nat) (us : List Tok) : Prop := ∀ (f : Nat) (ts : List Tok), l.length - p < f → tokRun l f p ts = tokRun l (l.length - q + 1) q (ts ++ us)
theorem Toks.nil {l : List Int} {p : Nat} : Toks l p p [] := fun f ts hf => by rw [List.append_nil]; exact tokRun_fuel l _ _ _ _ hf (by omega)
theorem Toks.one {l : List Int} {p q : Nat} {us : List Tok} (h0 : 0 ≤ see l p) (h : tokNext l p = (us, q)) : Toks l p q us := fun f ts hf => by
 have hg := tokNext_gt h0
 have hl := see_lt h0
 rw [h] at hg
 obtain ⟨f, rfl⟩ : ∃ g, f = g + 1 := ⟨f - 1, by omega⟩
 rw [tokRun, if_pos h0, h]
 exact tokRun_fuel l _ _ _ _ (by dsimp only at *; omega) (by omega)
theorem Toks.trans {l : List Int} {p q r : Nat} {us vs : List Tok} (h : Toks l p q us) (k : Toks l q r vs) : Toks l p r (us ++ vs) := fun f ts hf => by
 rw [h f ts hf, k _ _ (by omega), List.append_assoc]
set_option linter.unusedSectionVars false
structure Shift (k : Nat) (l l' : List Int) : Prop where
 see : ∀ i, see l' (k + i) = see l i
 len : l'.length = k + l.length
section
variable {k : Nat} {l l' : List Int} (h : Shift k l l')
include h
theorem Shift.see1 (i : Nat) : Aw.see l' (k + i + 1) = Aw.see l (i + 1) := h.see (i + 1)
theorem Shift.see2 (i : Nat) : Aw.see l' (k + i + 2) = Aw.see l (i + 2) := h.see (i + 2)
theorem Shift.escape (p : Nat) : Aw.escape l' (k + p) = Aw.escape l p := by unfold Aw.escape; rw [h.see, h.see1]
theorem Shift.escape1 (p : Nat) : Aw.escape l' (k + p + 1) = Aw.escape l (p + 1) := h.escape (p + 1)
theorem Shift.hexRun : ∀ (f p : Nat) (n : Int), Aw.hexRun l' f (k + p) n = (k + (Aw.hexRun l f p n).1, (Aw.hexRun l f p n).2)
 | 0, p, n => rfl
 | f + 1, p, n => by
  unfold Aw.hexRun
  rw [h.see]
  split
  ·exact Shift.hexRun f (p + 1) _
  ·rfl
theorem Shift.escapedV (p : Nat) : Aw.escapedV l' (k + p) = Aw.escapedV l p := by
 unfold Aw.escapedV
 have := h.hexRun 6 (p + 1) 0
 rw [h.see1, show k + p + 1 = k + (p + 1) from rfl, this]
theorem Shift.escapedP (p : Nat) : Aw.escapedP l' (k + p) = k + Aw.escapedP l p := by
 unfold Aw.escapedP
 have := h.hexRun 6 (p + 1) 0
 rw [h.see1, show k + p + 1 = k + (p + 1) from rfl, this]
 dsimp only
 rw [h.see]
 split
 ·rfl
 ·split <;> rfl
theorem Shift.nameRun : ∀ (f p : Nat) (bs : List UInt8), Aw.nameRun l' f (k + p) bs = ((Aw.nameRun l f p bs).1, k + (Aw.nameRun l f p bs).2)
 | 0, p, bs => rfl
 | f + 1, p, bs => by
  unfold Aw.nameRun
  rw [h.see, h.escape, h.escapedV, h.escapedP]
  split
  ·exact Shift.nameRun f (p + 1) _
  ·split
   ·exact Shift.nameRun f _ _
   ·rfl
theorem Shift.name (p : Nat) : Aw.nameS l' (k + p) = Aw.nameS l p ∧ Aw.nameP l' (k + p) = k + Aw.nameP l p := by
 have hl := h.len
 unfold Aw.nameS Aw.nameP
 rw [nameRun_fuel l' (l'.length + 1) (l.length + 1) (k + p) [] (by omega) (by omega), h.nameRun]
 exact ⟨rfl, rfl⟩
theorem Shift.name1 (p : Nat) : Aw.nameS l' (k + p + 1) = Aw.nameS l (p + 1) ∧ Aw.nameP l' (k + p + 1) = k + Aw.nameP l (p + 1) := h.name (p + 1)
theorem Shift.begins (p : Nat) : Aw.begins l' (k + p) = Aw.begins l p := by unfold Aw.begins; rw [h.see, h.see1, h.escape, h.escape1]
theorem Shift.begins1 (p : Nat) : Aw.begins l' (k + p + 1) = Aw.begins l (p + 1) := h.begins (p + 1)
theorem Shift.number (p : Nat) : Aw.number l' (k + p) = Aw.number l p := by unfold Aw.number; rw [h.see, h.see1, h.see2]
theorem Shift.digRun : ∀ (f p : Nat) (bs : List UInt8), Aw.digRun l' f (k + p) bs = ((Aw.digRun l f p bs).1, k + (Aw.digRun l f p bs).2)
 | 0, p, bs => rfl
 | f + 1, p, bs => by
  unfold Aw.digRun
  rw [h.see]
  split
  ·exact Shift.digRun f (p + 1) _
  ·rfl
theorem Shift.dig (p : Nat) (bs : List UInt8) : Aw.digRun l' (l'.length + 1) (k + p) bs = ((Aw.digRun l (l.length + 1) p bs).1, k + (Aw.digRun l (l.length + 1) p bs).2) := by
 have hl := h.len
 rw [digRun_fuel l' (l'.length + 1) (l.length + 1) (k + p) bs (by omega) (by omega), h.digRun]
theorem Shift.numInt (p : Nat) : Aw.numInt l' (k + p) = ((Aw.numInt l p).1, k + (Aw.numInt l p).2) := by
 unfold Aw.numInt numSgn
 rw [h.see]
 split
 ·exact h.dig (p + 1) _
 ·exact h.dig p _
theorem Shift.numB (p : Nat) : Aw.numB l' (k + p) = ((Aw.numB l p).1, k + (Aw.numB l p).2.1, (Aw.numB l p).2.2) := by
 unfold Aw.numB
 rw [h.numInt]
 dsimp only
 rw [h.see, h.see1]
 split
 ·have := h.dig ((Aw.numInt l p).2 + 1) ((Aw.numInt l p).1 ++ [46])
  rw [← Nat.add_assoc] at this
  rw [this]
 ·rfl
theorem Shift.numeric (p : Nat) : Aw.numericT l' (k + p) = Aw.numericT l p ∧ Aw.numericP l' (k + p) = k + Aw.numericP l p := by
 unfold Aw.numericT Aw.numericP
 rw [h.numB]
 dsimp only
 rw [h.begins, h.see, (h.name _).1, (h.name _).2]
 refine ⟨rfl, ?_⟩
 split
 ·rfl
 ·split <;> rfl
theorem Shift.strRun (e : Int) : ∀ (f p : Nat) (bs : List UInt8), Aw.strRun l' e f (k + p) bs = ((Aw.strRun l e f p bs).1, k + (Aw.strRun l e f p bs).2)
 | 0, p, bs => rfl
 | f + 1, p, bs => by
  unfold Aw.strRun
  rw [h.see, h.see1, h.escapedV, h.escapedP]
  split
  ·rfl
  split
  ·rfl
  split
  ·rfl
  split
  ·split
   ·exact Shift.strRun e f (p + 1) bs
   split
   ·exact Shift.strRun e f (p + 2) bs
   ·exact Shift.strRun e f _ _
  ·exact Shift.strRun e f (p + 1) _
theorem Shift.str (p : Nat) : Aw.strT l' (k + p) = Aw.strT l p ∧ Aw.strP l' (k + p) = k + Aw.strP l p := by
 have hl := h.len
 unfold Aw.strT Aw.strP
 have := h.strRun (Aw.see l p) (l.length + 1) (p + 1) []
 rw [h.see, strRun_fuel l' _ (l'.length + 1) (l.length + 1) (k + p + 1) [] (by omega) (by omega), show k + p + 1 = k + (p + 1) from rfl, this]
 exact ⟨rfl, rfl⟩
theorem Shift.commentRun : ∀ (f p : Nat), Aw.commentEnd l' f (k + p) = k + Aw.commentEnd l f p
 | 0, p => rfl
 | f + 1, p => by
  unfold Aw.commentEnd
  rw [h.see, h.see1]
  split
  ·exact Shift.commentRun f (p + 1)
  ·rfl
theorem Shift.comment (p : Nat) : Aw.commentEnd l' (l'.length + 1) (k + p + 2) = k + Aw.commentEnd l (l.length + 1) (p + 2) := by
 have hl := h.len
 rw [commentEnd_fuel l' (l'.length + 1) (l.length + 1) (k + p + 2) (by omega) (by omega)]
 exact h.commentRun _ (p + 2)
theorem Shift.whiteRun : ∀ (f p : Nat), Aw.whiteEnd l' f (k + p) = k + Aw.whiteEnd l f p
 | 0, p => rfl
 | f + 1, p => by
  unfold Aw.whiteEnd
  rw [h.see]
  split
  ·exact Shift.whiteRun f (p + 1)
  ·rfl
theorem Shift.white (p : Nat) : Aw.whiteEnd l' (l'.length + 1) (k + p) = k + Aw.whiteEnd l (l.length + 1) p := by
 have hl := h.len
 rw [whiteEnd_fuel l' (l'.length + 1) (l.length + 1) (k + p) (by omega) (by omega)]
 exact h.whiteRun _ p
theorem Shift.tokNext (p : Nat) : Aw.tokNext l' (k + p) = ((Aw.tokNext l p).1, k + (Aw.tokNext l p).2) := by
 unfold Aw.tokNext
 rw [h.see, h.see1, h.comment, h.white, (h.str p).1, (h.str p).2, h.escape1, (h.name1 p).1, (h.name1 p).2, h.number, (h.numeric p).1, (h.numeric p).2, h.begins1, h.begins, (h.name p).1, (h.name p).2, h.see]
 repeat' split
 all_goals rfl
theorem Shift.tokRun : ∀ (f p : Nat) (ts : List Tok), Aw.tokRun l' f (k + p) ts = Aw.tokRun l f p ts
 | 0, p, ts => rfl
 | f + 1, p, ts => by
  unfold Aw.tokRun
  rw [h.see, h.tokNext]
  split
  ·exact Shift.tokRun f _ _
  ·rfl
end
theorem tokRun_acc (l : List Int) : ∀ (f p : Nat) (ts : List Tok), tokRun l f p ts = ts ++ tokRun l f p []
 | 0, p, ts => by simp [tokRun]
 | f + 1, p, ts => by
  unfold tokRun
  split
  ·rw [tokRun_acc l f _ (ts ++ _), tokRun_acc l f _ ([] ++ _)]
   simp
  ·simp
theorem shift_app (X Y : List Int) : Shift X.length Y (X ++ Y) := ⟨fun i => by unfold see; rw [List.getElem?_append_right (by omega), Nat.add_sub_cancel_left], by simp⟩
theorem tokens_app {X Y : List Int} {us : List Tok} (h : Toks (X ++ Y) 0 X.length us) : tokens (X ++ Y) = us ++ tokens Y := by
 unfold tokens
 have hs := shift_app X Y
 rw [h _ _ (by omega), show ([] : List Tok) ++ us = us from rfl, tokRun_acc]
 congr 1
 have := hs.tokRun ((X ++ Y).length - X.length + 1) 0 []
 refine this.trans ?_
 rw [List.length_append, Nat.add_sub_cancel_left]
theorem see_none {l : List Int} {i : Nat} (h : l.length ≤ i) : see l i = -1 := by unfold see; rw [List.getElem?_eq_none h]
theorem bAt_app {X Y : List UInt8} {i : Nat} (h : i < X.length) : bAt (X ++ Y) i = bAt X i := by
 unfold bAt
 rw [List.getD_eq_getElem?_getD, List.getElem?_append_left h, List.getD_eq_getElem?_getD]
theorem bAt_seam {X Y : List UInt8} {c : UInt8} (hc : c.toNat < 128) : bAt (X ++ c :: Y) X.length < 128 := by
 unfold bAt
 rw [List.getD_eq_getElem?_getD, List.getElem?_append_right (Nat.le_refl _), Nat.sub_self]
 simp
 omega
theorem bAt_conts {X Y : List UInt8} {c : UInt8} (hc : c.toNat < 128) (h1 : 1 ≤ X.length) :
  bAt (X ++ c :: Y) 0 = bAt X 0 ∧ (bAt (X ++ c :: Y) 1 = bAt X 1 ∨ bAt (X ++ c :: Y) 1 < 128 ∧ bAt X 1 < 128) ∧
  ((bAt (X ++ c :: Y) 1 < 128 ∧ bAt X 1 < 128) ∨ bAt (X ++ c :: Y) 1 = bAt X 1 ∧ (bAt (X ++ c :: Y) 2 = bAt X 2 ∨ bAt (X ++ c :: Y) 2 < 128 ∧ bAt X 2 < 128)) ∧
  ((bAt (X ++ c :: Y) 1 < 128 ∧ bAt X 1 < 128) ∨ (bAt (X ++ c :: Y) 2 < 128 ∧ bAt X 2 < 128) ∨ bAt (X ++ c :: Y) 2 = bAt X 2 ∧ (bAt (X ++ c :: Y) 3 = bAt X 3 ∨ bAt (X ++ c :: Y) 3 < 128 ∧ bAt X 3 < 128)) := by
 have hs := bAt_seam (X := X) (Y := Y) hc
 have ho := bAt_out (bs := X) (i := X.length) (Nat.le_refl _)
 rcases Nat.lt_or_ge 3 X.length with h | h
 ·have e0 := bAt_app (Y := c :: Y) (X := X) (i := 0) (by omega)
  have e1 := bAt_app (Y := c :: Y) (X := X) (i := 1) (by omega)
  have e2 := bAt_app (Y := c :: Y) (X := X) (i := 2) (by omega)
  have e3 := bAt_app (Y := c :: Y) (X := X) (i := 3) (by omega)
  omega
 ·have : X.length = 1 ∨ X.length = 2 ∨ X.length = 3 := by omega
  rcases this with e | e | e
  ·rw [e] at hs ho
   have e0 := bAt_app (Y := c :: Y) (X := X) (i := 0) (by omega)
   omega
  ·rw [e] at hs ho
   have e0 := bAt_app (Y := c :: Y) (X := X) (i := 0) (by omega)
   have e1 := bAt_app (Y := c :: Y) (X := X) (i := 1) (by omega)
   omega
  ·rw [e] at hs ho
   have e0 := bAt_app (Y := c :: Y) (X := X) (i := 0) (by omega)
   have e1 := bAt_app (Y := c :: Y) (X := X) (i := 1) (by omega)
   have e2 := bAt_app (Y := c :: Y) (X := X) (i := 2) (by omega)
   omega
theorem pointV_app {X Y : List UInt8} {c : UInt8} (hc : c.toNat < 128) (h1 : 1 ≤ X.length) : pointV (X ++ c :: Y) = pointV X := by
 obtain ⟨e0, e1, e2, e3⟩ := bAt_conts (Y := Y) hc h1
 unfold pointV
 rw [pointK2, pointK3, pointK4, pointK2, pointK3, pointK4, e0]
 generalize bAt (X ++ c :: Y) 1 = y1 at *
 generalize bAt (X ++ c :: Y) 2 = y2 at *
 generalize bAt (X ++ c :: Y) 3 = y3 at *
 generalize bAt X 1 = x1 at *
 generalize bAt X 2 = x2 at *
 generalize bAt X 3 = x3 at *
 generalize bAt X 0 = x0 at *
 split
 ·rfl
 split
 ·rcases e1 with rfl | e1
  ·rfl
  ·rw [if_neg (by omega), if_neg (by omega)]
 split
 ·rcases e2 with e2 | ⟨rfl, rfl | e2⟩
  ·rw [if_neg (by omega), if_neg (by omega)]
  ·rfl
  ·rw [if_neg (by omega), if_neg (by omega)]
 split
 ·rcases e1 with rfl | e1
  ·rcases e2 with e2 | ⟨_, rfl | e2⟩
   ·rw [if_neg (by omega), if_neg (by omega)]
   ·rcases e3 with e3 | e3 | ⟨_, rfl | e3⟩
    ·rw [if_neg (by omega), if_neg (by omega)]
    ·rw [if_neg (by omega), if_neg (by omega)]
    ·rfl
    ·rw [if_neg (by omega), if_neg (by omega)]
   ·rw [if_neg (by omega), if_neg (by omega)]
  ·rw [if_neg (by omega), if_neg (by omega)]
 ·rfl
theorem ptsRun_acc (bs : List UInt8) : ∀ (f i : Nat) (out : List Int), ptsRun bs f i out = out ++ ptsRun bs f i []
 | 0, i, out => by simp [ptsRun]
 | f + 1, i, out => by
  unfold ptsRun
  split
  ·rw [ptsRun_acc bs f _ (out ++ _), ptsRun_acc bs f _ ([] ++ _)]
   simp
  ·simp
theorem ptsRun_shift (X Y : List UInt8) : ∀ (f i : Nat) (out : List Int), ptsRun (X ++ Y) f (X.length + i) out = ptsRun Y f i out
 | 0, i, out => rfl
 | f + 1, i, out => by
  unfold ptsRun
  have e : (X ++ Y).drop (X.length + i) = Y.drop i := by rw [List.drop_append, List.drop_eq_nil_of_le (by omega)]; simp
  rw [e]
  by_cases h : i < Y.length
  ·rw [if_pos (by simp; omega), if_pos h, Nat.add_assoc]
   exact ptsRun_shift X Y f _ _
  ·rw [if_neg (by simp; omega), if_neg h]
theorem ptsRun_app {X Y : List UInt8} {c : UInt8} (hc : c.toNat < 128) (m : Nat) : ∀ (i : Nat) (f : Nat) (out : List Int), X.length - i ≤ m → i ≤ X.length → (X ++ c :: Y).length - i < f → ptsRun (X ++ c :: Y) f i out = ptsRun X (X.length - i + 1) i out ++ points (c :: Y) := by
 have done : ∀ (f : Nat) (out : List Int), (X ++ c :: Y).length - X.length < f → ptsRun (X ++ c :: Y) f X.length out = ptsRun X (X.length - X.length + 1) X.length out ++ points (c :: Y) := fun f out hf => by
  have := ptsRun_shift X (c :: Y) f 0 out
  rw [Nat.add_zero] at this
  rw [this, ptsRun_acc]
  have e : ptsRun X (X.length - X.length + 1) X.length out = out := by rw [ptsRun, if_neg (Nat.lt_irrefl _)]
  rw [e]
  exact congrArg (fun z => out ++ z) (ptsRun_fuel _ _ _ _ _ (by rw [List.length_append] at hf; omega) (by omega))
 induction m with
 | zero =>
  intro i f out hm hi hf
  obtain rfl : i = X.length := by omega
  exact done f out hf
 | succ m ih =>
  intro i f out hm hi hf
  by_cases h0 : i = X.length
  ·subst h0
   exact done f out hf
  have hlt : i < X.length := by omega
  have hl : (X ++ c :: Y).length = X.length + (c :: Y).length := List.length_append
  obtain ⟨h1, h2⟩ := pointV_drop hlt
  have e : pointV ((X ++ c :: Y).drop i) = pointV (X.drop i) := by
   rw [List.drop_append_of_le_length hi]
   exact pointV_app hc (by rw [List.length_drop]; omega)
  obtain ⟨g, rfl⟩ : ∃ g, f = g + 1 := ⟨f - 1, by omega⟩
  have e2 : ptsRun X (X.length - i + 1) i out = ptsRun X (X.length - (i + (pointV (X.drop i)).2) + 1) (i + (pointV (X.drop i)).2) (out ++ [(pointV (X.drop i)).1]) := by
   rw [ptsRun, if_pos hlt]
   exact ptsRun_fuel _ _ _ _ _ (by omega) (by omega)
  rw [e2, ptsRun, if_pos (by omega), e]
  exact ih _ _ _ (by omega) h2 (by omega)
theorem points_app {X Y : List UInt8} {c : UInt8} (hc : c.toNat < 128) : points (X ++ c :: Y) = points X ++ points (c :: Y) := by
 have := ptsRun_app (X := X) (Y := Y) hc X.length 0 ((X ++ c :: Y).length + 1) [] (by omega) (by omega) (by omega)
 exact this
theorem points_cons {Y : List UInt8} {c : UInt8} (hc : c.toNat < 128) : points (c :: Y) = (c.toNat : Int) :: points Y := by
 have e : pointV (c :: Y) = ((c.toNat : Int), 1) := by
  have : bAt (c :: Y) 0 = c.toNat := rfl
  unfold pointV
  rw [this, if_pos (by omega)]
 unfold points
 rw [ptsRun, if_pos (by simp), List.drop_zero, e, ptsRun_acc]
 have := ptsRun_shift [c] Y ((c :: Y).length) 0 []
 show _ = [_] ++ _
 congr 1
theorem prep_app : ∀ (A B : List Int) (c : Int), c ≠ 10 → prep (A ++ c :: B) = prep A ++ prep (c :: B)
 | [], B, c, h => rfl
 | x :: A, B, c, h => by
  have ih := prep_app A B c h
  have e : (x = 13 ∧ (A ++ c :: B).head? = some 10) = (x = 13 ∧ A.head? = some 10) := by
   cases A with
   | nil => simp [h]
   | cons y A => rfl
  rw [List.cons_append, prep, ih]
  conv => rhs; rw [prep]
  simp only [e]
  split
  ·rfl
  split
  ·rfl
  split <;> rfl
theorem prep_cons {c : Int} {B : List Int} (hc : c ≠ 13 ∧ c ≠ 12 ∧ c ≠ 0) : prep (c :: B) = c :: prep B := by
 rw [prep, if_neg (fun h => hc.1 h.1), if_neg (by omega), if_neg hc.2.2]
theorem prepare_app {X Y : List UInt8} {c : UInt8} (hc : c.toNat < 128) (h10 : c.toNat ≠ 10) : prepare (X ++ c :: Y) = prepare X ++ prepare (c :: Y) := by
 unfold prepare
 rw [points_app hc, points_cons hc, prep_app _ _ _ (by omega)]
theorem prepare_cons {Y : List UInt8} {c : UInt8} (hc : c.toNat < 128) (h : c.toNat ≠ 13 ∧ c.toNat ≠ 12 ∧ c.toNat ≠ 0) : prepare (c :: Y) = (c.toNat : Int) :: prepare Y := by
 unfold prepare
 rw [points_cons hc, prep_cons (by omega)]
theorem tokRun_len (l : List Int) : ∀ (f p : Nat) (ts : List Tok), ts.length ≤ p → ts.length ≤ l.length → (tokRun l f p ts).length ≤ l.length
 | 0, p, ts, h, h2 => h2
 | f + 1, p, ts, h, h2 => by
  unfold tokRun
  split
  ·rename_i hs
   have h3 := tokNext_gt hs
   have := see_lt hs
   refine tokRun_len l f _ _ ?_ ?_ <;> rw [List.length_append] <;> omega
  ·exact h2
theorem tokens_len (l : List Int) : (tokens l).length ≤ l.length := tokRun_len l _ _ _ (Nat.le_refl _) (Nat.zero_le _)
end Go.Proofs.YtlhegfkpgchaeaaGreatDoor.Aw
