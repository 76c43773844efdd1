/- SelLower: the text, its tokens, and how they are read. -/
import Derived.Test.YtdfiegleaknleaaXkU
import Derived.Test.YtdfiegleaknleaaXlC
namespace Go.Proofs.Ytdfiegleaknleaa.Aw
open Go Go.RowKit Go.Lib
set_option linter.unusedVariables false
set_option linter.unusedSimpArgs false
set_option maxRecDepth 100000
def LowW : List UInt8 := [97, 98, 35, 99, 100, 46, 101, 102, 91, 103, 104, 61, 105, 106, 93, 58, 114, 111, 111, 116]
theorem ints_app (a b : List UInt8) : ints (a ++ b) = ints a ++ ints b := by simp [ints]
/-- A word of letters in either case. -/
def LetterB (w : List UInt8) : Prop := ∀ b ∈ w, letter (b.toNat : Int)
theorem letterB_ints {w : List UInt8} (h : LetterB w) : ∀ c ∈ ints w, letter c := fun c hc => by
  obtain ⟨b, hb, rfl⟩ := List.mem_map.1 hc
  exact h b hb
theorem piece_lets {w : List UInt8} (h : LetterB w) (hn : w ≠ []) : Piece (ints w) [{ kind := 1, text := w }] AfterW := by
  have hi := letterB_ints h
  have e := ints_b8 w
  cases w with
  | nil => exact absurd rfl hn
  | cons b w =>
    have h0 := letter_f (hi (b.toNat : Int) (by simp [ints]))
    have h00 : 0 ≤ (b.toNat : Int) ∧ (b.toNat : Int) < 128 := by omega
    refine Piece.one h00 fun l p r h hF => ?_
    have h1 := head_letter (cs := ints (b :: w)) h (by simp [ints]) hi
    have h2 := letter_f h1
    have h3 : l.drop (p + (ints (b :: w)).length) = r := by
      rw [← List.drop_drop]
      have : l.drop p = ints (b :: w) ++ r := h
      rw [this]
      simp
    obtain ⟨e1, e2⟩ := name_letters (cs := ints (b :: w)) h hi hF.1
    rw [tok_begin (begins_letter h1) (no_num rfl ⟨h2.2.2.2.1, h2.2.2.2.2.2.2.2.1, h2.2.2.2.2.2.2.1, h2.2.2.2.2.2.2.2.2.1⟩) (by omega) h2.2.2.1, e1, e2, if_neg (after_see h3 hF), e]
    rfl
theorem piece_hash {w : List UInt8} (h : LetterB w) (hn : w ≠ []) : Piece (35 :: ints w) [{ kind := 3, text := w }] AfterW := by
  have hi := letterB_ints h
  have e := ints_b8 w
  refine Piece.one (by omega) fun l p r h hF => ?_
  obtain ⟨e0, hd, _⟩ := see_cons (r := ints w ++ r) (by simpa using h) (by omega)
  have h1 := head_letter hd (by simpa [ints] using hn) hi
  have h2 := letter_f h1
  obtain ⟨e1, e2⟩ := name_letters hd hi hF.1
  unfold tokNext
  rw [e0, if_neg (by omega), if_neg (by decide), if_neg (by omega), if_pos ⟨rfl, .inl h2.2.1⟩, e1, e2, e]
  simp
  omega
theorem piece_dot {w : List UInt8} (h : LetterB w) (hn : w ≠ []) : Piece (46 :: ints w) [{ kind := 10, c := 46 }, { kind := 1, text := w }] AfterW := by
  have h1 : Piece [46] [{ kind := 10, c := 46 }] (fun r => ∃ c r', r = c :: r' ∧ letter c) := by
    refine Piece.one (by omega) fun l p r h hF => ?_
    obtain ⟨c, r', rfl, hc⟩ := hF
    obtain ⟨e0, hd, _⟩ := see_cons (r := c :: r') (by simpa using h) (by omega)
    have hc2 := letter_f hc
    obtain ⟨e1, _, _⟩ := see_cons hd (by omega)
    have n1 : number l p = false := by
      unfold number
      rw [e0, if_neg (by omega)]
      simp [e1, hc2.2.2.2.1]
      try decide
    have n2 : begins l p = false := begins_at' e0 (by decide) (by omega)
    unfold tokNext
    rw [e0, n1, n2, if_neg (by omega), if_neg (by decide), if_neg (by omega), if_neg (by omega), if_neg (by decide), if_neg (by omega), if_neg (by decide), if_neg (by decide)]
    rfl
  have := h1.app (piece_lets h hn) (fun r _ => by
    cases w with
    | nil => exact absurd rfl hn
    | cons b w => exact ⟨(b.toNat : Int), ints w ++ r, rfl, h b (by simp)⟩)
  simpa using this
theorem lowC_sign {b c : UInt8} (h : Low.lowC b = c) (hc : ¬ (97 ≤ c.toNat ∧ c.toNat ≤ 122)) : b = c := by
  unfold Low.lowC at h
  split at h
  · rename_i hb
    have : c.toNat = b.toNat + 32 := by
      rw [← h, UInt8.toNat_add]
      have : (32 : UInt8).toNat = 32 := rfl
      omega
    omega
  · exact h
theorem lowC_letter {b c : UInt8} (h : Low.lowC b = c) (hc : 97 ≤ c.toNat ∧ c.toNat ≤ 122) : b = c ∨ b = c - 32 := by
  unfold Low.lowC at h
  split at h
  · right
    rw [← h]
    simp
  · exact .inl h
theorem lowC_let {b c : UInt8} (h : Low.lowC b = c) (hc : 97 ≤ c.toNat ∧ c.toNat ≤ 122) : letter (b.toNat : Int) := by
  unfold Low.lowC at h
  unfold letter
  split at h
  · omega
  · subst h; omega
/-- The text, as words and signs. -/
structure LowS (bs t1 t2 t3 t4 t5 t6 : List UInt8) : Prop where
  e : bs = t1 ++ (35 :: t2) ++ (46 :: t3) ++ (91 :: t4) ++ (61 :: t5) ++ (93 :: 58 :: t6)
  l1 : lower t1 = [97, 98]
  l2 : lower t2 = [99, 100]
  l3 : lower t3 = [101, 102]
  l4 : lower t4 = [103, 104]
  l5 : lower t5 = [105, 106]
  l6 : lower t6 = [114, 111, 111, 116]
  c2 : (bs.take 5).drop 3 = t2
  c3 : (bs.take 8).drop 6 = t3
  c5 : (bs.take 14).drop 12 = t5
theorem lowS_of {bs : List UInt8} (h : lower bs = LowW) : ∃ t1 t2 t3 t4 t5 t6, LowS bs t1 t2 t3 t4 t5 t6 := by
  have hl : bs.length = 20 := by
    have := congrArg List.length h
    simpa [lower, LowW] using this
  match bs, hl with
  | [x0, x1, x2, x3, x4, x5, x6, x7, x8, x9, x10, x11, x12, x13, x14, x15, x16, x17, x18, x19], _ =>
    simp only [lower, LowW, List.map_cons, List.map_nil, List.cons.injEq, and_true] at h
    obtain ⟨h0, h1, h2, h3, h4, h5, h6, h7, h8, h9, h10, h11, h12, h13, h14, h15, h16, h17, h18, h19⟩ := h
    have s2 := lowC_sign h2 (by decide)
    have s5 := lowC_sign h5 (by decide)
    have s8 := lowC_sign h8 (by decide)
    have s11 := lowC_sign h11 (by decide)
    have s14 := lowC_sign h14 (by decide)
    have s15 := lowC_sign h15 (by decide)
    subst s2 s5 s8 s11 s14 s15
    exact ⟨[x0, x1], [x3, x4], [x6, x7], [x9, x10], [x12, x13], [x16, x17, x18, x19], rfl, by simp [lower, *], by simp [lower, *], by simp [lower, *], by simp [lower, *], by simp [lower, *], by simp [lower, *], rfl, rfl, rfl⟩
theorem letterB_of {t w : List UInt8} (h : lower t = w) (hw : ∀ c ∈ w, 97 ≤ c.toNat ∧ c.toNat ≤ 122) : LetterB t := fun b hb => by
  have : Low.lowC b ∈ w := by rw [← h]; exact List.mem_map.2 ⟨b, hb, rfl⟩
  exact lowC_let rfl (hw _ this)
def lowT (t1 t2 t3 t4 t5 t6 : List UInt8) : List Tok := [{ kind := 1, text := t1 }, { kind := 3, text := t2 }, { kind := 10, c := 46 }, { kind := 1, text := t3 }, { kind := 18 }, { kind := 1, text := t4 }, { kind := 10, c := 61 }, { kind := 1, text := t5 }, { kind := 19 }, { kind := 11 }, { kind := 1, text := t6 }]
theorem after_sign {c : Int} (r : List Int) (h : c = 35 ∨ c = 46 ∨ c = 91 ∨ c = 61 ∨ c = 93) : AfterW (c :: r) :=
  ⟨⟨by omega, by omega, by rcases h with rfl | rfl | rfl | rfl | rfl <;> decide, by omega⟩, fun r' e => by simp at e; omega⟩
theorem low_tokens {bs t1 t2 t3 t4 t5 t6 : List UInt8} (h : LowS bs t1 t2 t3 t4 t5 t6) : ofT ⟨bs.toArray⟩ = lowT t1 t2 t3 t4 t5 t6 := by
  have b1 := letterB_of h.l1 (by decide)
  have b2 := letterB_of h.l2 (by decide)
  have b3 := letterB_of h.l3 (by decide)
  have b4 := letterB_of h.l4 (by decide)
  have b5 := letterB_of h.l5 (by decide)
  have b6 := letterB_of h.l6 (by decide)
  have ne : ∀ {t : List UInt8} {c : UInt8} {w : List UInt8}, lower t = c :: w → t ≠ [] := fun h e => by subst e; simp [lower] at h
  have n1 := ne h.l1
  have n2 := ne h.l2
  have n3 := ne h.l3
  have n4 := ne h.l4
  have n5 := ne h.l5
  have n6 := ne h.l6
  have asc : ∀ x ∈ bs, x.toNat < 128 ∧ x.toNat ≠ 13 ∧ x.toNat ≠ 12 ∧ x.toNat ≠ 0 := by
    have hl : ∀ t, LetterB t → ∀ x ∈ t, x.toNat < 128 ∧ x.toNat ≠ 13 ∧ x.toNat ≠ 12 ∧ x.toNat ≠ 0 := fun t ht x hx => by
      have := ht x hx
      unfold letter at this
      omega
    intro x hx
    rw [h.e] at hx
    simp only [List.mem_append, List.mem_cons] at hx
    rcases hx with ((((hx | rfl | hx) | rfl | hx) | rfl | hx) | rfl | hx) | rfl | rfl | hx
    all_goals first | decide | exact hl _ b1 x hx | exact hl _ b2 x hx | exact hl _ b3 x hx | exact hl _ b4 x hx | exact hl _ b5 x hx | exact hl _ b6 x hx
  unfold ofT
  rw [show (⟨bs.toArray⟩ : ByteArray).data.toList = bs from rfl, prepare_ascii asc]
  have e : ints bs = ints t1 ++ ((35 :: ints t2) ++ ((46 :: ints t3) ++ ([91] ++ (ints t4 ++ ([61] ++ (ints t5 ++ ([93] ++ ([58] ++ ints t6)))))))) := by
    rw [h.e]
    simp [ints]
  rw [e]
  have hp := (piece_lets b1 n1).app ((piece_hash b2 n2).app ((piece_dot b3 n3).app ((piece_sign (c := 91) (by omega)).app ((piece_lets b4 n4).app ((piece_delim (c := 61) (by omega)).app ((piece_lets b5 n5).app ((piece_sign (c := 93) (by omega)).app ((piece_sign (c := 58) (by omega)).app (piece_lets b6 n6) fun _ _ => trivial) fun _ _ => trivial) fun r _ => after_sign _ (by omega)) fun _ _ => trivial) fun r _ => after_sign _ (by omega)) fun _ _ => trivial) fun r _ => after_sign _ (by omega)) fun r _ => after_sign _ (by omega)) fun r _ => after_sign _ (by omega)
  exact hp.tokens ⟨trivial, fun r' e => by cases e⟩
def lowR (t1 t2 t3 t4 t5 : List UInt8) : List Selr := [[(0, { tag := t1, ids := [t2], cls := [t3], atts := [{ name := t4, op := 1, text := t5 }], pss := [{ kind := 1 }] })]]
theorem low_parse {t1 t2 t3 t4 t5 t6 : List UInt8} (h : lower t6 = [114, 111, 111, 116]) : sParse (lowT t1 t2 t3 t4 t5 t6) = (lowR (lower t1) t2 t3 (lower t4) t5, true) := by
  have hl : t6.length = 4 := by
    have := congrArg List.length h
    simpa [lower] using this
  match t6, hl with
  | [x0, x1, x2, x3], _ =>
    simp only [lower, List.map_cons, List.map_nil, List.cons.injEq, and_true] at h
    obtain ⟨h0, h1, h2, h3⟩ := h
    rcases lowC_letter h0 (by decide) with rfl | rfl <;> rcases lowC_letter h1 (by decide) with rfl | rfl <;> rcases lowC_letter h2 (by decide) with rfl | rfl <;> rcases lowC_letter h3 (by decide) with rfl | rfl <;> (show sParse _ = _; kernel_rfl)
end Go.Proofs.Ytdfiegleaknleaa.Aw
