/- Tokens of plain texts, piece by piece. -/
import Derived.Test.YtdfiegleaknleaaXrL
namespace Go.Proofs.Ytdfiegleaknleaa.Aw
open Go Go.RowKit Go.Lib
set_option linter.unusedVariables false
set_option linter.unusedSimpArgs false
def ints (bs : List UInt8) : List Int := bs.map fun b => (b.toNat : Int)
theorem ptsRun_ascii {bs : List UInt8} (h : ∀ b ∈ bs, b.toNat < 128) : ∀ (f i : Nat) (out : List Int), bs.length - i < f → i ≤ bs.length → ptsRun bs f i out = out ++ ints (bs.drop i)
  | 0, i, out, hf, _ => by omega
  | f + 1, i, out, hf, hi => by
    unfold ptsRun
    split
    · rename_i hlt
      have e1 : bs.drop i = bs[i] :: bs.drop (i + 1) := List.drop_eq_getElem_cons hlt
      have hb := h bs[i] (List.getElem_mem hlt)
      have e2 : bAt (bs.drop i) 0 = (bs[i].toNat : Int) := by rw [e1]; rfl
      have e3 : pointV (bs.drop i) = ((bs[i].toNat : Int), 1) := by
        unfold pointV
        rw [e2, if_pos (by omega)]
      rw [e3]
      dsimp only
      rw [ptsRun_ascii h f (i + 1) _ (by omega) (by omega), e1]
      simp only [ints, List.map_cons, List.append_assoc, List.singleton_append]
    · rw [show bs.drop i = [] by rw [List.drop_eq_nil_iff]; omega]
      simp [ints]
theorem points_ascii {bs : List UInt8} (h : ∀ b ∈ bs, b.toNat < 128) : points bs = ints bs := by
  unfold points
  rw [ptsRun_ascii h _ 0 [] (by omega) (by omega)]
  simp
theorem prep_id : ∀ {l : List Int}, (∀ c ∈ l, c ≠ 13 ∧ c ≠ 12 ∧ c ≠ 0) → prep l = l
  | [], _ => rfl
  | c :: r, h => by
    have h1 := h c (by simp)
    unfold prep
    rw [if_neg (by omega), if_neg (by omega), if_neg (by omega), prep_id (fun x hx => h x (by simp [hx]))]
theorem prepare_ascii {bs : List UInt8} (h : ∀ b ∈ bs, b.toNat < 128 ∧ b.toNat ≠ 13 ∧ b.toNat ≠ 12 ∧ b.toNat ≠ 0) : prepare bs = ints bs := by
  unfold prepare
  rw [points_ascii (fun b hb => (h b hb).1)]
  refine prep_id (fun c hc => ?_)
  obtain ⟨b, hb, rfl⟩ := List.mem_map.1 hc
  have := h b hb
  omega
theorem see_cons {l : List Int} {p : Nat} {c : Int} {r : List Int} (h : l.drop p = c :: r) (hc : 0 ≤ c ∧ c < 128) : see l p = c ∧ l.drop (p + 1) = r ∧ p < l.length := by
  have h1 : l[p]? = some c := by
    have := congrArg (·[0]?) h
    simpa using this
  have h2 : l.drop (p + 1) = r := by
    have := congrArg List.tail h
    simpa [List.tail_drop] using this
  refine ⟨?_, h2, (List.getElem?_eq_some_iff.1 h1).1⟩
  unfold see
  rw [h1]
  dsimp only
  have : right c = true := by simp only [right, Bool.and_eq_true, Bool.or_eq_true, decide_eq_true_eq]; omega
  rw [if_pos this]
theorem see_end {l : List Int} {p : Nat} (h : l.drop p = []) : see l p = -1 := by
  unfold see
  rw [List.getElem?_eq_none (by rw [List.drop_eq_nil_iff] at h; exact h)]
theorem putB_ascii {c : Int} (hc : 0 ≤ c ∧ c < 128) : putB c = [b8 c] := by
  have : right c = true := by simp only [right, Bool.and_eq_true, Bool.or_eq_true, decide_eq_true_eq]; omega
  unfold putB utfB
  rw [if_pos this, if_pos hc.2]
/-- Where a name ends. -/
def Stops : List Int → Prop
  | [] => True
  | c :: _ => 0 ≤ c ∧ c < 128 ∧ namePoint c = false ∧ c ≠ 92
theorem stop_see {l : List Int} {p : Nat} {r : List Int} (h : l.drop p = r) (hs : Stops r) : namePoint (see l p) = false ∧ escape l p = false := by
  cases r with
  | nil =>
    rw [see_end h]
    refine ⟨by decide, ?_⟩
    unfold escape
    rw [see_end h]
    simp
  | cons c r =>
    obtain ⟨h1, h2, h3, h4⟩ := hs
    obtain ⟨e, _, _⟩ := see_cons h ⟨h1, h2⟩
    rw [e]
    refine ⟨h3, ?_⟩
    unfold escape
    rw [e]
    simp [h4]
theorem nameRun_plain {l : List Int} : ∀ (cs r : List Int) (p : Nat) (bs : List UInt8) (f : Nat), l.drop p = cs ++ r → (∀ c ∈ cs, namePoint c = true ∧ 0 ≤ c ∧ c < 128) → Stops r → cs.length < f → nameRun l f p bs = (bs ++ cs.map b8, p + cs.length)
  | _, _, _, _, 0, _, _, _, hf => by omega
  | [], r, p, bs, f + 1, h, _, hs, _ => by
    obtain ⟨h1, h2⟩ := stop_see h hs
    unfold nameRun
    rw [h1, h2]
    simp
  | c :: cs, r, p, bs, f + 1, h, hc, hs, hf => by
    have h0 := hc c (by simp)
    obtain ⟨e, hd, _⟩ := see_cons h h0.2
    unfold nameRun
    rw [e, if_pos h0.1, putB_ascii h0.2, nameRun_plain cs r (p + 1) _ f hd (fun x hx => hc x (by simp [hx])) hs (by simp at hf; omega)]
    simp
    omega
theorem name_plain {l : List Int} {cs r : List Int} {p : Nat} (h : l.drop p = cs ++ r) (hc : ∀ c ∈ cs, namePoint c = true ∧ 0 ≤ c ∧ c < 128) (hs : Stops r) : nameS l p = cs.map b8 ∧ nameP l p = p + cs.length := by
  have hl : cs.length ≤ l.length := by
    have := congrArg List.length h
    simp at this
    omega
  have := nameRun_plain cs r p [] (l.length + 1) h hc hs (by omega)
  unfold nameS nameP
  rw [this]
  exact ⟨by simp, rfl⟩
/-- Signs. -/
theorem tok_sign {l : List Int} {p : Nat} {c : Int} {r : List Int} (h : l.drop p = c :: r) (hc : c = 58 ∨ c = 41 ∨ c = 91 ∨ c = 93 ∨ c = 44) : tokNext l p = ([{ kind := sign c }], p + 1) := by
  obtain ⟨e, _, _⟩ := see_cons h (by omega)
  have n1 : number l p = false := number_at e (by rcases hc with rfl | rfl | rfl | rfl | rfl <;> decide) (by omega)
  have n2 : begins l p = false := begins_at' e (by rcases hc with rfl | rfl | rfl | rfl | rfl <;> decide) (by omega)
  have n3 : white c = false := by rcases hc with rfl | rfl | rfl | rfl | rfl <;> decide
  have n4 : 0 < sign c := by rcases hc with rfl | rfl | rfl | rfl | rfl <;> decide
  unfold tokNext
  rw [e, n1, n2, n3, if_neg (by omega), if_neg (by simp), if_neg (by omega), if_neg (by omega), if_neg (by simp), if_neg (by omega), if_neg (by simp), if_pos n4]
theorem letter_facts {c : Int} (h : 97 ≤ c ∧ c ≤ 122) : nameStart c = true ∧ namePoint c = true ∧ white c = false ∧ digit c = false := by
  refine ⟨?_, ?_, ?_, ?_⟩
  · simp only [nameStart, Bool.or_eq_true, Bool.and_eq_true, decide_eq_true_eq]; omega
  · simp only [namePoint, nameStart, Bool.or_eq_true, Bool.and_eq_true, decide_eq_true_eq]; omega
  · simp only [white, Bool.or_eq_false_iff, decide_eq_false_iff_not]; omega
  · simp only [digit, Bool.and_eq_false_imp, decide_eq_true_eq, decide_eq_false_iff_not]; omega
/-- Names of letters. -/
theorem tok_name {l : List Int} {p : Nat} {c : Int} {cs r : List Int} (h : l.drop p = (c :: cs) ++ r) (h0 : 97 ≤ c ∧ c ≤ 122) (hc : ∀ x ∈ c :: cs, namePoint x = true ∧ 0 ≤ x ∧ x < 128) (hs : Stops r) :
    tokNext l p = if see l (p + (c :: cs).length) = 40 then ([{ kind := 20, text := (c :: cs).map b8 }], p + (c :: cs).length + 1) else ([{ kind := 1, text := (c :: cs).map b8 }], p + (c :: cs).length) := by
  obtain ⟨e, _, _⟩ := see_cons (c := c) (r := cs ++ r) (by simpa using h) (by omega)
  obtain ⟨f1, f2, f3, f4⟩ := letter_facts h0
  obtain ⟨e1, e2⟩ := name_plain h hc hs
  have n1 : number l p = false := number_at e f4 (by omega)
  have n2 : begins l p = true := by
    unfold begins
    rw [e, if_neg (by omega), f1]
    rfl
  unfold tokNext
  rw [e, n1, n2, f3, if_neg (by omega), if_neg (by simp), if_neg (by omega), if_neg (by omega), if_neg (by simp), if_neg (by omega), if_pos rfl, e1, e2]
/-- A blank. -/
theorem tok_blank {l : List Int} {p : Nat} {r : List Int} (h : l.drop p = 32 :: r) (hs : match r with | [] => True | c :: _ => 0 ≤ c ∧ c < 128 ∧ white c = false) : tokNext l p = ([{ kind := 9 }], p + 1) := by
  obtain ⟨e, hd, hp⟩ := see_cons h (by omega)
  have w0 : white 32 = true := by decide
  have w1 : white (see l (p + 1)) = false := by
    cases r with
    | nil => rw [see_end hd]; decide
    | cons c r => rw [(see_cons hd ⟨hs.1, hs.2.1⟩).1]; exact hs.2.2
  have hw : whiteEnd l (l.length + 1) p = p + 1 := by
    rw [whiteEnd, e, if_pos w0]
    cases hl : l.length with
    | zero => omega
    | succ m => rw [whiteEnd, w1, if_neg (by simp)]
  unfold tokNext
  rw [e, if_neg (by omega), if_pos w0, hw]
/-- Tokens from one place to another. -/
def Toks (l : List Int) (p q : Nat) (us : List Tok) : Prop := ∀ (f : Nat) (ts : List Tok), l.length - p < f → tokRun l f p ts = tokRun l (l.length - q + 1) q (ts ++ us)
theorem Toks.nil {l : List Int} {p : Nat} : Toks l p p [] := fun f ts hf => by rw [List.append_nil]; exact tokRun_fuel l _ _ _ _ hf (by omega)
theorem Toks.one {l : List Int} {p q : Nat} {us : List Tok} (h0 : 0 ≤ see l p) (h : tokNext l p = (us, q)) : Toks l p q us := fun f ts hf => by
  have hg := tokNext_gt h0
  have hl := see_lt h0
  rw [h] at hg
  obtain ⟨f, rfl⟩ : ∃ g, f = g + 1 := ⟨f - 1, by omega⟩
  rw [tokRun, if_pos h0, h]
  exact tokRun_fuel l _ _ _ _ (by dsimp only at *; omega) (by omega)
theorem Toks.trans {l : List Int} {p q r : Nat} {us vs : List Tok} (h : Toks l p q us) (k : Toks l q r vs) : Toks l p r (us ++ vs) := fun f ts hf => by
  rw [h f ts hf, k _ _ (by omega), List.append_assoc]
theorem tokens_of {l : List Int} {us : List Tok} (h : Toks l 0 l.length us) : tokens l = us := by
  unfold tokens
  rw [h _ _ (by omega), Nat.sub_self, tokRun, if_neg]
  · simp
  · rw [see_end (by simp)]; omega
end Go.Proofs.Ytdfiegleaknleaa.Aw
