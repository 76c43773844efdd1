/- SelNth: the texts, their tokens, and how they are read. -/
import Derived.Test.YtdfiegleaknleaaXkV
import Derived.Test.YtdfiegleaknleaaXlF
import Derived.Test.YtdfiegleaknleaaXpA
namespace Go.Proofs.Ytdfiegleaknleaa.Aw
open Go Go.RowKit Go.Lib
set_option linter.unusedVariables false
set_option linter.unusedSimpArgs false
set_option maxRecDepth 100000
/-- What may stand behind a number: a blank or a bracket. -/
def AfterN (r : List Int) : Prop := ∃ c r', r = c :: r' ∧ (c = 32 ∨ c = 41)
theorem afterN_begins {l r : List Int} {p : Nat} (h : l.drop p = r) (hr : AfterN r) : begins l p = false ∧ see l p ≠ 37 := by
  obtain ⟨c, r', rfl, hc⟩ := hr
  obtain ⟨e, _, _⟩ := see_cons h (by omega)
  refine ⟨?_, by rw [e]; omega⟩
  exact begins_at' e (by rcases hc with rfl | rfl <;> decide) (by omega)
theorem noNum_after {r : List Int} (hr : AfterN r) : NoNum r := by
  obtain ⟨c, r', rfl, hc⟩ := hr
  refine ⟨by omega, by omega, ?_, by omega⟩
  unfold dgI
  omega
theorem sgB_ints (neg : Bool) : ints (sgB neg) = sgT neg := by cases neg <;> rfl
theorem nth_cons (neg : Bool) (w : Nat) (t : List UInt8) : ∃ (c : Int) (cs : List Int), sgT neg ++ (ints (Lib.decDigits w) ++ ints t) = c :: cs ∧ 0 ≤ c ∧ c < 128 ∧ white c = false := by
  cases neg with
  | true => exact ⟨45, _, rfl, by decide, by decide, by decide⟩
  | false =>
    have hD := dig_ints (dec_all w)
    cases hd : Lib.decDigits w with
    | nil => exact absurd hd (dec_ne w)
    | cons b bs =>
      have h0 := hD (b.toNat : Int) (by rw [hd]; simp [ints])
      unfold dgI at h0
      refine ⟨(b.toNat : Int), ints bs ++ ints t, by simp [sgT, ints], by omega, by omega, ?_⟩
      unfold white
      simp
      omega
theorem piece_whole (neg : Bool) (w : Nat) (hw : w ≤ 2000000) : Piece (ints (numT neg w 0)) [{ kind := 6, n := numN neg w 0, whole := true }] AfterN := by
  have e : ints (numT neg w 0) = sgT neg ++ ints (Lib.decDigits w) := by
    unfold numT frT
    rw [if_neg (by omega), List.append_nil, ints_app, sgB_ints]
  obtain ⟨c, cs, ec, hc1, hc2, _⟩ := nth_cons neg w []
  have ec' : ints (numT neg w 0) = c :: cs := by rw [e, ← ec]; simp [ints]
  have hD := dig_ints (dec_all w)
  have hn : ints (Lib.decDigits w) ≠ [] := by intro e; exact dec_ne w (by simpa [ints] using e)
  rw [ec']
  refine Piece.one ⟨hc1, hc2⟩ fun l p r h hF => ?_
  have h0 : l.drop p = sgT neg ++ (ints (Lib.decDigits w) ++ r) := by rw [h, ← ec', e, List.append_assoc]
  have h1 := numB_whole h0 hD hn (noNum_after hF)
  obtain ⟨_, h2, h3⟩ := numSgn_of h0 hD hn
  rw [← e, ints_b8, ec'] at h1
  have h4 : l.drop (p + (c :: cs).length) = r := by rw [← List.drop_drop, h]; simp
  obtain ⟨h5, h6⟩ := afterN_begins h4 hF
  rw [tok_num h2 h3]
  unfold numericT numericP
  rw [h1]
  dsimp only
  rw [h5, if_neg Bool.false_ne_true, if_neg Bool.false_ne_true, if_neg h6, if_neg h6, numT_val neg w 0 hw (by omega)]
theorem piece_half (neg : Bool) (w : Nat) : ∃ v : Int, Piece (ints (sgB neg ++ (Lib.decDigits w ++ [46, 53]))) [{ kind := 6, n := v, whole := false }] AfterN := by
  have e : ints (sgB neg ++ (Lib.decDigits w ++ [46, 53])) = sgT neg ++ (ints (Lib.decDigits w) ++ 46 :: ([53] ++ [])) := by
    rw [ints_app, ints_app, sgB_ints]
    rfl
  obtain ⟨c, cs, ec, hc1, hc2, _⟩ := nth_cons neg w [46, 53]
  have ec' : ints (sgB neg ++ (Lib.decDigits w ++ [46, 53])) = c :: cs := by rw [e, ← ec]; rfl
  have hD := dig_ints (dec_all w)
  have hn : ints (Lib.decDigits w) ≠ [] := by intro e; exact dec_ne w (by simpa [ints] using e)
  refine ⟨(numV ((sgT neg ++ ints (Lib.decDigits w) ++ 46 :: [53]).map b8)).1, ?_⟩
  rw [ec']
  refine Piece.one ⟨hc1, hc2⟩ fun l p r h hF => ?_
  have h0 : l.drop p = sgT neg ++ (ints (Lib.decDigits w) ++ 46 :: ([53] ++ r)) := by rw [h, ← ec', e]; simp
  have h1 := numB_frac h0 hD hn (by intro c hc; simp at hc; subst hc; unfold dgI; omega) (by simp) (noNum_after hF).dig
  obtain ⟨_, h2, h3⟩ := numSgn_of h0 hD hn
  have el : (sgT neg ++ ints (Lib.decDigits w) ++ 46 :: [53]).length = (c :: cs).length := by rw [← ec', e]; simp
  rw [el] at h1
  have h4 : l.drop (p + (c :: cs).length) = r := by rw [← List.drop_drop, h]; simp
  obtain ⟨h5, h6⟩ := afterN_begins h4 hF
  rw [tok_num h2 h3]
  unfold numericT numericP
  rw [h1]
  dsimp only
  rw [h5, if_neg Bool.false_ne_true, if_neg Bool.false_ne_true, if_neg h6, if_neg h6]
/-- A function's name in capitals or small letters with a dash, ahead of its bracket. -/
theorem piece_fn {w : List UInt8} (h0 : ∀ c ∈ ints w, namePoint c = true ∧ 0 ≤ c ∧ c < 128) (hl : ∃ b r, w = b :: r ∧ letter (b.toNat : Int)) : Piece (ints w ++ [40]) [{ kind := 20, text := w }] Any := by
  obtain ⟨b, r0, rfl, hb⟩ := hl
  have hb2 := letter_f hb
  refine Piece.one (c := (b.toNat : Int)) (cs := ints r0 ++ [40]) (by omega) fun l p r h _ => ?_
  have h1 : l.drop p = ints (b :: r0) ++ (40 :: r) := by rw [h]; simp [ints]
  obtain ⟨e, _, _⟩ := see_cons (c := (b.toNat : Int)) (r := ints r0 ++ (40 :: r)) (by rw [h1]; rfl) (by omega)
  have hs : Stops (40 :: r) := ⟨by decide, by decide, by decide, by decide⟩
  obtain ⟨e1, e2⟩ := name_plain h1 h0 hs
  have h3 : see l (p + (ints (b :: r0)).length) = 40 := (see_cons (r := r) (by rw [← List.drop_drop, h1]; simp) (by decide)).1
  have n1 : number l p = false := number_at e hb2.2.2.2.1 (by omega)
  have n2 : begins l p = true := by
    unfold begins
    rw [e, if_neg (by omega), hb2.1]
    rfl
  unfold tokNext
  rw [n1, n2, e, hb2.2.2.1, if_neg (by omega), if_neg (by decide), if_neg (by omega), if_neg (by omega), if_neg (by decide), if_neg (by omega), if_pos rfl, e1, e2, if_pos h3, ints_b8]
  simp [ints]
  try omega
def nthU : List UInt8 := [78, 84, 72, 45, 99, 104, 105, 108, 100]
def nthL : List UInt8 := [110, 116, 104, 45, 99, 104, 105, 108, 100]
theorem numA (neg : Bool) (w : Nat) : ∀ b ∈ sgB neg ++ Lib.decDigits w, 45 ≤ b.toNat ∧ b.toNat ≤ 57 := by
  intro b hb
  rcases List.mem_append.1 hb with hb | hb
  · cases neg with
    | true => simp [sgB] at hb; subst hb; decide
    | false => simp [sgB] at hb
  · have := dgB_le (List.all_eq_true.1 (dec_all w) b hb)
    omega
theorem nth_head (neg : Bool) (w : Nat) (t : List UInt8) (r : List Int) : AfterB (ints (sgB neg ++ (Lib.decDigits w ++ t)) ++ r) := by
  obtain ⟨c, cs, ec, h1, h2, h3⟩ := nth_cons neg w t
  rw [ints_app, ints_app, sgB_ints, ec]
  exact ⟨h1, h2, h3⟩
theorem numT_0 (neg : Bool) (w : Nat) : numT neg w 0 = sgB neg ++ Lib.decDigits w := by
  unfold numT frT
  rw [if_neg (by omega), List.append_nil]
def nthTs (v : Int) : List Tok := [{ kind := 11 }, { kind := 20, text := nthU }, { kind := 9 }, { kind := 6, n := v, whole := true }, { kind := 9 }, { kind := 17 }]
def nthHs (v : Int) : List Tok := [{ kind := 11 }, { kind := 20, text := nthL }, { kind := 6, n := v, whole := false }, { kind := 17 }]
theorem nth_toks (neg : Bool) (w : Nat) (hw : w ≤ 2000000) (X : ByteArray) (hX : X.data.toList = 58 :: nthU ++ [40, 32] ++ (sgB neg ++ Lib.decDigits w) ++ [32, 41]) : ofT X = nthTs (numN neg w 0) := by
  have asc : ∀ x ∈ X.data.toList, x.toNat < 128 ∧ x.toNat ≠ 13 ∧ x.toNat ≠ 12 ∧ x.toNat ≠ 0 := by
    intro x hx
    rw [hX] at hx
    have h1 : ∀ x ∈ (58 :: nthU ++ [40, 32] : List UInt8), x.toNat < 128 ∧ x.toNat ≠ 13 ∧ x.toNat ≠ 12 ∧ x.toNat ≠ 0 := by decide
    have h2 : ∀ x ∈ ([32, 41] : List UInt8), x.toNat < 128 ∧ x.toNat ≠ 13 ∧ x.toNat ≠ 12 ∧ x.toNat ≠ 0 := by decide
    rcases List.mem_append.1 hx with hx | hx
    · rcases List.mem_append.1 hx with hx | hx
      · exact h1 x hx
      · have := numA neg w x hx
        omega
    · exact h2 x hx
  unfold ofT
  rw [prepare_ascii asc, hX]
  have e : ints (58 :: nthU ++ [40, 32] ++ (sgB neg ++ Lib.decDigits w) ++ [32, 41]) = [58] ++ ((ints nthU ++ [40]) ++ ([32] ++ (ints (sgB neg ++ (Lib.decDigits w ++ [])) ++ ([32] ++ [41])))) := by
    simp [ints, nthU]
  rw [e]
  have p1 := piece_whole neg w hw
  rw [numT_0, ← List.append_nil (Lib.decDigits w)] at p1
  have pb : Piece [32] [{ kind := 9 }] AfterB := piece_white (by decide)
  have pf : Piece (ints nthU ++ [40]) [{ kind := 20, text := nthU }] Any := piece_fn (by decide) ⟨78, _, rfl, by unfold letter; decide⟩
  have hp := (piece_sign (c := 58) (by omega)).app (pf.app (pb.app (p1.app (pb.app (piece_sign (c := 41) (by omega)) (fun r _ => ⟨by decide, by decide, by decide⟩)) (fun r _ => ⟨32, [41] ++ r, rfl, .inl rfl⟩)) (fun r _ => by rw [List.append_assoc]; exact nth_head neg w [] _)) fun _ _ => trivial) fun _ _ => trivial
  exact hp.tokens trivial
theorem nth_half (neg : Bool) (w : Nat) (X : ByteArray) (hX : X.data.toList = 58 :: nthL ++ [40] ++ (sgB neg ++ (Lib.decDigits w ++ [46, 53])) ++ [41]) : ∃ v, ofT X = nthHs v := by
  have asc : ∀ x ∈ X.data.toList, x.toNat < 128 ∧ x.toNat ≠ 13 ∧ x.toNat ≠ 12 ∧ x.toNat ≠ 0 := by
    intro x hx
    rw [hX] at hx
    have h1 : ∀ x ∈ (58 :: nthL ++ [40] : List UInt8), x.toNat < 128 ∧ x.toNat ≠ 13 ∧ x.toNat ≠ 12 ∧ x.toNat ≠ 0 := by decide
    have h2 : ∀ x ∈ ([46, 53] : List UInt8), x.toNat < 128 ∧ x.toNat ≠ 13 ∧ x.toNat ≠ 12 ∧ x.toNat ≠ 0 := by decide
    have h3 : ∀ x ∈ ([41] : List UInt8), x.toNat < 128 ∧ x.toNat ≠ 13 ∧ x.toNat ≠ 12 ∧ x.toNat ≠ 0 := by decide
    rcases List.mem_append.1 hx with hx | hx
    · rcases List.mem_append.1 hx with hx | hx
      · exact h1 x hx
      · rw [← List.append_assoc] at hx
        rcases List.mem_append.1 hx with hx | hx
        · have := numA neg w x hx
          omega
        · exact h2 x hx
    · exact h3 x hx
  obtain ⟨v, p1⟩ := piece_half neg w
  refine ⟨v, ?_⟩
  unfold ofT
  rw [prepare_ascii asc, hX]
  have e : ints (58 :: nthL ++ [40] ++ (sgB neg ++ (Lib.decDigits w ++ [46, 53])) ++ [41]) = [58] ++ ((ints nthL ++ [40]) ++ (ints (sgB neg ++ (Lib.decDigits w ++ [46, 53])) ++ [41])) := by
    simp [ints, nthL]
  rw [e]
  have pf : Piece (ints nthL ++ [40]) [{ kind := 20, text := nthL }] Any := piece_fn (by decide) ⟨110, _, rfl, by unfold letter; decide⟩
  have hp := (piece_sign (c := 58) (by omega)).app (pf.app (p1.app (piece_sign (c := 41) (by omega)) (fun r _ => ⟨41, [] ++ r, rfl, .inr rfl⟩)) fun _ _ => trivial) fun _ _ => trivial
  exact hp.tokens trivial
def nthR (a b : Int) : List Selr := [[(0, { pss := [{ kind := 6, a := a, b := b }] })]]
theorem nth_parse (v : Int) : sParse (nthTs v) = (nthR 0 (v.tdiv 1000), true) := by kernel_rfl
theorem half_parse (v : Int) : (sParse (nthHs v)).2 = false := by kernel_rfl
theorem numN_div (neg : Bool) (w : Nat) : (numN neg w 0).tdiv 1000 = if neg then -(w : Int) else w := by
  unfold numN
  cases neg with
  | true =>
    rw [if_pos rfl, if_pos rfl, show ((w * 1000 + 0 : Nat) : Int) = (w : Int) * 1000 by omega, Int.neg_tdiv, Int.mul_tdiv_cancel _ (by decide)]
  | false => rw [if_neg (by decide), if_neg (by decide), show ((w * 1000 + 0 : Nat) : Int) = (w : Int) * 1000 by omega, Int.mul_tdiv_cancel _ (by decide)]
def oddX : ByteArray := ⟨(58 :: nthU ++ [40, 32] ++ [79, 100, 68] ++ [32, 41] : List UInt8).toArray⟩
def evenX : ByteArray := ⟨(58 :: nthU ++ [40, 32] ++ [101, 118, 101, 110] ++ [32, 41] : List UInt8).toArray⟩
def voidX : ByteArray := ⟨(58 :: nthL ++ [40] ++ [41] : List UInt8).toArray⟩
theorem odd_parse : sParse (ofT oddX) = (nthR 2 1, true) := by
  have : ofT oddX = [{ kind := 11 }, { kind := 20, text := nthU }, { kind := 9 }, { kind := 1, text := [79, 100, 68] }, { kind := 9 }, { kind := 17 }] := by decide +kernel
  rw [this]
  show @Eq _ _ _
  kernel_rfl
theorem even_parse : sParse (ofT evenX) = (nthR 2 0, true) := by
  have : ofT evenX = [{ kind := 11 }, { kind := 20, text := nthU }, { kind := 9 }, { kind := 1, text := [101, 118, 101, 110] }, { kind := 9 }, { kind := 17 }] := by decide +kernel
  rw [this]
  show @Eq _ _ _
  kernel_rfl
theorem void_parse : (sParse (ofT voidX)).2 = false := by
  have : ofT voidX = [{ kind := 11 }, { kind := 20, text := nthL }, { kind := 17 }] := by decide +kernel
  rw [this]
  show @Eq _ _ _
  kernel_rfl
end Go.Proofs.Ytdfiegleaknleaa.Aw
