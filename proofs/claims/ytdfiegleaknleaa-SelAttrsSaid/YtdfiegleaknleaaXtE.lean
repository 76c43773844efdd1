/- SelAttrs: the text, its tokens, and how they are read. -/
import Derived.Test.YtdfiegleaknleaaXtD
namespace Go.Proofs.Ytdfiegleaknleaa.Aw
open Go Go.RowKit Go.Lib
set_option linter.unusedVariables false
set_option linter.unusedSimpArgs false
set_option maxRecDepth 100000
def Letters (w : List UInt8) : Prop := ∀ b ∈ w, 97 ≤ b.toNat ∧ b.toNat ≤ 122
def bL (b : Bool) : List UInt8 := if b then [32, 10, 47, 42, 32, 42, 47, 32] else []
def bT (b : Bool) : List Tok := if b then [{ kind := 9 }, { kind := 9 }] else []
def opL : Nat → List UInt8
  | 0 => [] | 1 => [61] | 2 => [126, 61] | 3 => [124, 61] | 4 => [94, 61] | 5 => [36, 61] | _ => [42, 61]
def opT : Nat → List Tok
  | 0 => [] | 1 => [{ kind := 10, c := 61 }] | 2 => [{ kind := 10, c := 126 }, { kind := 10, c := 61 }] | 3 => [{ kind := 10, c := 124 }, { kind := 10, c := 61 }]
  | 4 => [{ kind := 10, c := 94 }, { kind := 10, c := 61 }] | 5 => [{ kind := 10, c := 36 }, { kind := 10, c := 61 }] | _ => [{ kind := 10, c := 42 }, { kind := 10, c := 61 }]
def vL (q : Bool) (w : List UInt8) : List UInt8 := if q then 34 :: (w ++ [34]) else w
def vT (q : Bool) (w : List UInt8) : List Tok := if q then [{ kind := 4, text := w }] else [{ kind := 1, text := w }]
def mL (op : Nat) (q b : Bool) (w e : List UInt8) : List UInt8 := if op = 0 then e else opL op ++ (bL b ++ (vL q w ++ (bL b ++ e)))
def mT (op : Nat) (q b : Bool) (w : List UInt8) (e : List Tok) : List Tok := if op = 0 then e else opT op ++ (bT b ++ (vT q w ++ (bT b ++ e)))
def attL (op : Nat) (q b : Bool) (n w e : List UInt8) : List UInt8 := [91] ++ (bL b ++ (n ++ (bL b ++ mL op q b w e)))
def attT (op : Nat) (q b : Bool) (n w : List UInt8) (e : List Tok) : List Tok := [{ kind := 18 }] ++ (bT b ++ ([{ kind := 1, text := n }] ++ (bT b ++ mT op q b w e)))
theorem ints_b8 (l : List UInt8) : (ints l).map b8 = l := by
  unfold ints
  rw [List.map_map]
  have : (b8 ∘ fun b : UInt8 => (b.toNat : Int)) = id := by
    funext b
    show UInt8.ofNat (b.toNat : Int).toNat = b
    simp
  rw [this, List.map_id]
theorem letters_ints {w : List UInt8} (h : Letters w) : ∀ c ∈ ints w, 97 ≤ c ∧ c ≤ 122 := fun c hc => by
  obtain ⟨b, hb, rfl⟩ := List.mem_map.1 hc
  have := h b hb
  omega
theorem name_of_letter {c : Int} (h : 97 ≤ c ∧ c ≤ 122) : namePoint c = true ∧ 0 ≤ c ∧ c < 128 := ⟨(letter_facts h).2.1, by omega, by omega⟩
theorem piece_letters {w : List UInt8} (h : Letters w) (hn : w ≠ []) : Piece (ints w) [{ kind := 1, text := w }] AfterW := by
  have hi := letters_ints h
  have e := ints_b8 w
  cases w with
  | nil => exact absurd rfl hn
  | cons b w =>
    have hp := piece_word (c := (b.toNat : Int)) (cs := ints w) (hi _ (by simp [ints])) (fun x hx => name_of_letter (hi x (by simpa [ints] using hx)))
    rw [show ((b.toNat : Int) :: ints w) = ints (b :: w) from rfl, e] at hp
    exact hp
theorem piece_b (b : Bool) : Piece (ints (bL b)) (bT b) AfterB := by
  cases b
  · exact Piece.nil
  · exact piece_blank
theorem piece_op {op : Nat} (h : 1 ≤ op) : Piece (ints (opL op)) (opT op) Any := by
  have two : ∀ c : Int, (c = 61 ∨ c = 126 ∨ c = 124 ∨ c = 94 ∨ c = 36 ∨ c = 42) → Piece [c, 61] [{ kind := 10, c := c }, { kind := 10, c := 61 }] Any := fun c hc =>
    (piece_delim hc).app (piece_delim (.inl rfl)) fun _ _ => trivial
  match op, h with
  | 1, _ => exact piece_delim (.inl rfl)
  | 2, _ => exact two 126 (by omega)
  | 3, _ => exact two 124 (by omega)
  | 4, _ => exact two 94 (by omega)
  | 5, _ => exact two 36 (by omega)
  | n + 6, _ => exact two 42 (by omega)
theorem piece_v (q : Bool) {w : List UInt8} (h : Letters w) (hn : w ≠ []) : Piece (ints (vL q w)) (vT q w) AfterW := by
  cases q
  · exact piece_letters h hn
  · have := piece_quoted (letters_ints h)
    rw [ints_b8] at this
    have e : ints (vL true w) = 34 :: (ints w ++ [34]) := by simp [vL, ints]
    rw [e]
    exact this.mono fun _ _ => trivial
theorem afterB_letters {w : List UInt8} (h : Letters w) (hn : w ≠ []) (r : List Int) : AfterB (ints w ++ r) := by
  have hi := letters_ints h
  cases w with
  | nil => exact absurd rfl hn
  | cons b w =>
    have := hi (b.toNat : Int) (by simp [ints])
    show 0 ≤ (b.toNat : Int) ∧ (b.toNat : Int) < 128 ∧ white (b.toNat : Int) = false
    exact ⟨by omega, by omega, (letter_facts this).2.2.1⟩
theorem afterB_v (q : Bool) {w : List UInt8} (h : Letters w) (hn : w ≠ []) (r : List Int) : AfterB (ints (vL q w) ++ r) := by
  cases q
  · exact afterB_letters h hn r
  · exact ⟨by decide, by decide, by decide⟩
theorem afterW_b (b : Bool) {r : List Int} (h : AfterW r) : AfterW (ints (bL b) ++ r) := by
  cases b
  · exact h
  · exact ⟨⟨by decide, by decide, by decide, by decide⟩, fun r' e => by simp [ints, bL] at e⟩
theorem head_op {op : Nat} (h : 1 ≤ op) (r : List Int) : AfterW (ints (opL op) ++ r) ∧ AfterB (ints (opL op) ++ r) := by
  have one : ∀ (c : Int) (r : List Int), (c = 61 ∨ c = 126 ∨ c = 124 ∨ c = 94 ∨ c = 36 ∨ c = 42) → AfterW (c :: r) ∧ AfterB (c :: r) := fun c r hc => by
    refine ⟨⟨⟨by omega, by omega, ?_, by omega⟩, fun r' e => by simp at e; omega⟩, ⟨by omega, by omega, ?_⟩⟩
    · rcases hc with rfl | rfl | rfl | rfl | rfl | rfl <;> decide
    · rcases hc with rfl | rfl | rfl | rfl | rfl | rfl <;> decide
  match op, h with
  | 1, _ => exact one 61 _ (by omega)
  | 2, _ => exact one 126 _ (by omega)
  | 3, _ => exact one 124 _ (by omega)
  | 4, _ => exact one 94 _ (by omega)
  | 5, _ => exact one 36 _ (by omega)
  | n + 6, _ => exact one 42 _ (by omega)
def eL (c : Bool) : List UInt8 := if c then [93] else []
def eT (c : Bool) : List Tok := if c then [{ kind := 19 }] else []
theorem piece_e (c : Bool) : Piece (ints (eL c)) (eT c) Any := by
  cases c
  · exact Piece.nil
  · exact piece_sign (c := 93) (by omega)
theorem after_e (c : Bool) : AfterW (ints (eL c) ++ []) ∧ AfterB (ints (eL c) ++ []) := by
  cases c
  · exact ⟨⟨trivial, fun r' e => by simp [ints, eL] at e⟩, trivial⟩
  · exact ⟨⟨⟨by decide, by decide, by decide, by decide⟩, fun r' e => by simp [ints, eL] at e⟩, ⟨by decide, by decide, by decide⟩⟩
abbrev AtEnd (r : List Int) : Prop := r = []
theorem piece_m (op : Nat) (q b c : Bool) {w : List UInt8} (h : Letters w) (hn : w ≠ []) : Piece (ints (mL op q b w (eL c))) (mT op q b w (eT c)) AtEnd := by
  unfold mL mT
  have he : Piece (ints (eL c)) (eT c) AtEnd := (piece_e c).mono fun _ _ => trivial
  split
  · exact he
  · simp only [ints_append]
    refine (piece_op (by omega)).app ((piece_b b).app ((piece_v q h hn).app ((piece_b b).app he ?_) ?_) ?_) fun _ _ => trivial
    · intro r hr; rw [hr]; exact (after_e c).2
    · intro r hr; rw [hr, List.append_assoc]; exact afterW_b b (after_e c).1
    · intro r _; rw [List.append_assoc]; exact afterB_v q h hn _
theorem head_m (op : Nat) (q b c : Bool) (w : List UInt8) : AfterW (ints (mL op q b w (eL c)) ++ []) ∧ AfterB (ints (mL op q b w (eL c)) ++ []) := by
  unfold mL
  split
  · exact after_e c
  · rw [ints_append, List.append_assoc]
    exact head_op (by omega) _
theorem piece_att (op : Nat) (q b c : Bool) {n w : List UInt8} (hN : Letters n) (hn : n ≠ []) (hW : Letters w) (hw : w ≠ []) : Piece (ints (attL op q b n w (eL c))) (attT op q b n w (eT c)) AtEnd := by
  unfold attL attT
  simp only [ints_append]
  refine (piece_sign (c := 91) (by omega)).app ((piece_b b).app ((piece_letters hN hn).app ((piece_b b).app (piece_m op q b c hW hw) ?_) ?_) ?_) fun _ _ => trivial
  · intro r hr; rw [hr]; exact (head_m op q b c w).2
  · intro r hr; rw [hr, List.append_assoc]; exact afterW_b b (head_m op q b c w).1
  · intro r _; rw [List.append_assoc]; exact afterB_letters hN hn _
theorem attL_ascii (op : Nat) (q b c : Bool) {n w : List UInt8} (hN : Letters n) (hW : Letters w) : ∀ x ∈ attL op q b n w (eL c), x.toNat < 128 ∧ x.toNat ≠ 13 ∧ x.toNat ≠ 12 ∧ x.toNat ≠ 0 := by
  have hb : ∀ x ∈ bL b, x.toNat < 128 ∧ x.toNat ≠ 13 ∧ x.toNat ≠ 12 ∧ x.toNat ≠ 0 := by cases b <;> decide
  have he : ∀ x ∈ eL c, x.toNat < 128 ∧ x.toNat ≠ 13 ∧ x.toNat ≠ 12 ∧ x.toNat ≠ 0 := by cases c <;> decide
  have ho : ∀ x ∈ opL op, x.toNat < 128 ∧ x.toNat ≠ 13 ∧ x.toNat ≠ 12 ∧ x.toNat ≠ 0 := by
    match op with
    | 0 => decide
    | 1 => decide
    | 2 => decide
    | 3 => decide
    | 4 => decide
    | 5 => decide
    | k + 6 => show ∀ x ∈ ([42, 61] : List UInt8), _; decide
  have hl : ∀ v, Letters v → ∀ x ∈ v, x.toNat < 128 ∧ x.toNat ≠ 13 ∧ x.toNat ≠ 12 ∧ x.toNat ≠ 0 := fun v hv x hx => by have := hv x hx; omega
  have hv : ∀ x ∈ vL q w, x.toNat < 128 ∧ x.toNat ≠ 13 ∧ x.toNat ≠ 12 ∧ x.toNat ≠ 0 := fun x hx => by
    cases q
    · exact hl w hW x hx
    · simp [vL] at hx
      rcases hx with rfl | hx | rfl
      · decide
      · exact hl w hW x hx
      · decide
  intro x hx
  unfold attL mL at hx
  simp only [List.mem_append] at hx
  rcases hx with hx | hx | hx | hx | hx
  · simp at hx; subst hx; decide
  · exact hb x hx
  · exact hl n hN x hx
  · exact hb x hx
  · split at hx
    · exact he x hx
    · simp only [List.mem_append] at hx
      rcases hx with hx | hx | hx | hx | hx
      · exact ho x hx
      · exact hb x hx
      · exact hv x hx
      · exact hb x hx
      · exact he x hx
theorem att_tokens (op : Nat) (q b c : Bool) {n w : List UInt8} (hN : Letters n) (hn : n ≠ []) (hW : Letters w) (hw : w ≠ []) {s : ByteArray} (hs : s.data.toList = attL op q b n w (eL c)) : ofT s = attT op q b n w (eT c) := by
  unfold ofT
  rw [hs, prepare_ascii (attL_ascii op q b c hN hW)]
  exact (piece_att op q b c hN hn hW hw).tokens rfl
theorem lower_letters : ∀ {w : List UInt8}, Letters w → lower w = w
  | [], _ => rfl
  | b :: w, h => by
    have hb := h b (by simp)
    have e : Low.lowC b = b := by unfold Low.lowC; rw [if_neg (by omega)]
    have ih := lower_letters (w := w) fun x hx => h x (by simp [hx])
    unfold lower at ih ⊢
    rw [List.map_cons, e, ih]
def attS (n : List UInt8) (op : Nat) (w : List UInt8) : List Selr := [[(0, { atts := [{ name := lower n, op := op, text := if op = 0 then [] else w }] })]]
theorem att_parse {op : Nat} (ho : op ≤ 6) (q b : Bool) (n w : List UInt8) : sParse (attT op q b n w (eT true)) = (attS n op w, true) ∧ (sParse (attT op q b n w (eT false))).2 = false := by
  have h : op = 0 ∨ op = 1 ∨ op = 2 ∨ op = 3 ∨ op = 4 ∨ op = 5 ∨ op = 6 := by omega
  rcases h with rfl | rfl | rfl | rfl | rfl | rfl | rfl <;> cases q <;> cases b <;> refine ⟨?_, ?_⟩ <;> kernel_rfl
end Go.Proofs.Ytdfiegleaknleaa.Aw
