/- Tokens of plain texts: signs, words, white with a comment, strings of letters, piece by piece. -/
import Derived.Test.YtdfiegleaknleaaXtA
namespace Go.Proofs.Ytdfiegleaknleaa.Aw
open Go Go.RowKit Go.Lib
set_option linter.unusedVariables false
set_option linter.unusedSimpArgs false
/-- A piece of a text: what its tokens are, whatever stands ahead, before what F lets in. -/
def Piece (cs : List Int) (us : List Tok) (F : List Int → Prop) : Prop := ∀ (l : List Int) (p : Nat) (r : List Int), l.drop p = cs ++ r → F r → Toks l p (p + cs.length) us
theorem Piece.nil {F : List Int → Prop} : Piece [] [] F := fun l p r h hF => Toks.nil
theorem Piece.app {cs ds : List Int} {us vs : List Tok} {F G : List Int → Prop} (h : Piece cs us F) (k : Piece ds vs G) (hF : ∀ r, G r → F (ds ++ r)) : Piece (cs ++ ds) (us ++ vs) G := fun l p r e hG => by
  have e' : l.drop p = cs ++ (ds ++ r) := by rw [e, List.append_assoc]
  have h1 := h l p (ds ++ r) e' (hF r hG)
  have h2 : l.drop (p + cs.length) = ds ++ r := by
    rw [← List.drop_drop, e']
    simp
  have := h1.trans (k l (p + cs.length) r h2 hG)
  rw [List.length_append, ← Nat.add_assoc]
  exact this
theorem Piece.mono {cs : List Int} {us : List Tok} {F G : List Int → Prop} (h : Piece cs us F) (hF : ∀ r, G r → F r) : Piece cs us G := fun l p r e hG => h l p r e (hF r hG)
theorem Piece.tokens {cs : List Int} {us : List Tok} {F : List Int → Prop} (h : Piece cs us F) (hF : F []) : tokens cs = us := by
  have := h cs 0 [] (by simp) hF
  exact tokens_of (by simpa using this)
/-- One token of a piece that begins with a point of ASCII. -/
theorem Piece.one {c : Int} {cs : List Int} {us : List Tok} {F : List Int → Prop} (hc : 0 ≤ c ∧ c < 128) (h : ∀ (l : List Int) (p : Nat) (r : List Int), l.drop p = (c :: cs) ++ r → F r → tokNext l p = (us, p + (c :: cs).length)) : Piece (c :: cs) us F := fun l p r e hF => by
  have e0 := (see_cons (c := c) (r := cs ++ r) (by simpa using e) hc).1
  exact Toks.one (by rw [e0]; omega) (h l p r e hF)
def Any (r : List Int) : Prop := True
/-- What may follow a word: nothing that goes on with it, and no bracket. -/
def AfterW (r : List Int) : Prop := Stops r ∧ ∀ r', r ≠ 40 :: r'
def AfterB (r : List Int) : Prop := match r with | [] => True | c :: _ => 0 ≤ c ∧ c < 128 ∧ white c = false
theorem piece_sign {c : Int} (hc : c = 58 ∨ c = 41 ∨ c = 91 ∨ c = 93 ∨ c = 44) : Piece [c] [{ kind := sign c }] Any :=
  Piece.one (by omega) fun l p r e _ => tok_sign (r := r) e hc
theorem after_see {l : List Int} {p : Nat} {r : List Int} (h : l.drop p = r) (hs : AfterW r) : see l p ≠ 40 := by
  cases r with
  | nil => rw [see_end h]; omega
  | cons c r =>
    obtain ⟨⟨h1, h2, _⟩, h3⟩ := hs
    rw [(see_cons h ⟨h1, h2⟩).1]
    intro e
    exact h3 r (by rw [e])
theorem piece_word {c : Int} {cs : List Int} (h0 : 97 ≤ c ∧ c ≤ 122) (hc : ∀ x ∈ c :: cs, namePoint x = true ∧ 0 ≤ x ∧ x < 128) : Piece (c :: cs) [{ kind := 1, text := (c :: cs).map b8 }] AfterW :=
  Piece.one (by omega) fun l p r e hF => by
    have h2 : l.drop (p + (c :: cs).length) = r := by
      rw [← List.drop_drop, e]
      simp
    rw [tok_name e h0 hc hF.1, if_neg (after_see h2 hF)]
/-- Signs that are tokens of no kind of their own. -/
theorem piece_delim {c : Int} (hc : c = 61 ∨ c = 126 ∨ c = 124 ∨ c = 94 ∨ c = 36 ∨ c = 42) : Piece [c] [{ kind := 10, c := c }] Any :=
  Piece.one (by omega) fun l p r h _ => by
    obtain ⟨e, _, _⟩ := see_cons (r := r) h (by omega)
    have n1 : number l p = false := number_at e (by rcases hc with rfl | rfl | rfl | rfl | rfl | rfl <;> decide) (by omega)
    have n2 : begins l p = false := begins_at' e (by rcases hc with rfl | rfl | rfl | rfl | rfl | rfl <;> decide) (by omega)
    have n3 : white c = false := by rcases hc with rfl | rfl | rfl | rfl | rfl | rfl <;> decide
    have n4 : ¬ 0 < sign c := by rcases hc with rfl | rfl | rfl | rfl | rfl | rfl <;> decide
    unfold tokNext
    rw [e, n1, n2, n3, if_neg (by omega), if_neg (by simp), if_neg (by omega), if_neg (by omega), if_neg (by simp), if_neg (by omega), if_neg (by simp), if_neg n4]
    rfl
/-- White. -/
theorem white_run {l : List Int} : ∀ (ws r : List Int) (p f : Nat), l.drop p = ws ++ r → (∀ c ∈ ws, white c = true) → AfterB r → ws.length < f → whiteEnd l f p = p + ws.length
  | _, _, _, 0, _, _, _, hf => by omega
  | [], r, p, f + 1, h, _, hr, _ => by
    have : white (see l p) = false := by
      cases r with
      | nil => rw [see_end (by simpa using h)]; decide
      | cons c r => rw [(see_cons (by simpa using h) ⟨hr.1, hr.2.1⟩).1]; exact hr.2.2
    rw [whiteEnd, this]
    rfl
  | c :: ws, r, p, f + 1, h, hw, hr, hf => by
    have hc := hw c (by simp)
    have hc' : c = 9 ∨ c = 10 ∨ c = 32 := by simpa [white, or_assoc] using hc
    obtain ⟨e, hd, _⟩ := see_cons (r := ws ++ r) h (by omega)
    rw [whiteEnd, e, if_pos hc, white_run ws r (p + 1) f hd (fun x hx => hw x (by simp [hx])) hr (by simp at hf; omega)]
    simp
    omega
theorem piece_white {c : Int} {ws : List Int} (hw : ∀ x ∈ c :: ws, white x = true) : Piece (c :: ws) [{ kind := 9 }] AfterB := by
  have hc := hw c (by simp)
  have hc' : c = 9 ∨ c = 10 ∨ c = 32 := by simpa [white, or_assoc] using hc
  refine Piece.one (by omega) fun l p r h hr => ?_
  obtain ⟨e, _, _⟩ := see_cons (r := ws ++ r) (by simpa using h) (by omega)
  have hl : (c :: ws).length ≤ l.length := by
    have := congrArg List.length h
    simp at this ⊢
    omega
  unfold tokNext
  rw [e, if_neg (by omega), if_pos hc, white_run (c :: ws) r p _ h hw hr (by omega)]
/-- The comment that is one blank. -/
theorem piece_comment : Piece [47, 42, 32, 42, 47] [] Any := by
  refine Piece.one (by omega) fun l p r h _ => ?_
  have h0 : l.drop p = 47 :: (42 :: 32 :: 42 :: 47 :: r) := h
  obtain ⟨e0, d0, _⟩ := see_cons h0 (by omega)
  obtain ⟨e1, d1, _⟩ := see_cons d0 (by omega)
  obtain ⟨e2, d2, _⟩ := see_cons d1 (by omega)
  obtain ⟨e3, d3, _⟩ := see_cons d2 (by omega)
  obtain ⟨e4, d4, h4⟩ := see_cons d3 (by omega)
  obtain ⟨m, hm⟩ : ∃ m, l.length + 1 = m + 2 := ⟨l.length - 1, by omega⟩
  unfold tokNext
  rw [e0, e1, if_pos ⟨rfl, rfl⟩, hm, commentEnd, show p + 2 = p + 1 + 1 by omega, e2, if_pos ⟨by omega, .inl (by omega)⟩, commentEnd, e3, e4, if_neg (by omega)]
  rfl
theorem strRun_plain {l : List Int} {e : Int} (he : e = 34) : ∀ (cs r : List Int) (p : Nat) (bs : List UInt8) (f : Nat), l.drop p = cs ++ e :: r → (∀ c ∈ cs, 97 ≤ c ∧ c ≤ 122) → cs.length < f → strRun l e f p bs = ({ kind := 4, text := bs ++ cs.map b8 }, p + cs.length + 1)
  | _, _, _, _, 0, _, _, hf => by omega
  | [], r, p, bs, f + 1, h, _, _ => by
    obtain ⟨e1, _, _⟩ := see_cons (l := l) (p := p) (c := e) (r := r) h (by omega)
    rw [strRun, e1, if_neg (by omega), if_pos rfl]
    simp
  | c :: cs, r, p, bs, f + 1, h, hc, hf => by
    have h0 := hc c (by simp)
    obtain ⟨e1, hd, _⟩ := see_cons (r := cs ++ e :: r) h (by omega)
    rw [strRun, e1, if_neg (by omega), if_neg (by omega), if_neg (by omega), if_neg (by omega), putB_ascii (by omega), strRun_plain he cs r (p + 1) _ f hd (fun x hx => hc x (by simp [hx])) (by simp at hf; omega)]
    simp
    omega
theorem piece_quoted {cs : List Int} (hc : ∀ c ∈ cs, 97 ≤ c ∧ c ≤ 122) : Piece (34 :: (cs ++ [34])) [{ kind := 4, text := cs.map b8 }] Any := by
  refine Piece.one (by omega) fun l p r h _ => ?_
  have h0 : l.drop p = 34 :: (cs ++ 34 :: r) := by rw [h]; simp
  obtain ⟨e0, d0, _⟩ := see_cons h0 (by omega)
  have hl : cs.length < l.length + 1 := by
    have := congrArg List.length h0
    simp at this
    omega
  have hrun := strRun_plain rfl cs r (p + 1) [] (l.length + 1) d0 hc hl
  unfold tokNext strT strP
  rw [e0, if_neg (by omega), if_neg (by decide), if_pos (.inl rfl), hrun]
  simp
  omega
/-- White, a comment of one blank, and white. -/
theorem piece_blank : Piece [32, 10, 47, 42, 32, 42, 47, 32] [{ kind := 9 }, { kind := 9 }] AfterB := by
  have h1 : Piece [32, 10] [{ kind := 9 }] AfterB := piece_white (by decide)
  have h2 : Piece [32] [{ kind := 9 }] AfterB := piece_white (by decide)
  exact h1.app (piece_comment.app h2 fun _ _ => trivial) fun r _ => ⟨by omega, by omega, by decide⟩
end Go.Proofs.Ytdfiegleaknleaa.Aw
