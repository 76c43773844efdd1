/- Plain laws of tokens: names, strings, signs, white. -/
import Derived.Test.YtdfiegleaknleaaXkT
import Derived.Test.YtdfiegleaknleaaXtD
namespace Go.Proofs.Ytdfiegleaknleaa.Aw
open Go Go.RowKit Go.Lib
set_option linter.unusedVariables false
set_option linter.unusedSimpArgs false
set_option linter.unusedSectionVars false
set_option maxRecDepth 10000
/-! Names. -/
def letter (c : Int) : Prop := (97 ≤ c ∧ c ≤ 122) ∨ (65 ≤ c ∧ c ≤ 90)
theorem letter_f {c : Int} (h : letter c) : nameStart c = true ∧ namePoint c = true ∧ white c = false ∧ digit c = false ∧ 0 ≤ c ∧ c < 128 ∧ c ≠ 45 ∧ c ≠ 43 ∧ c ≠ 46 ∧ c ≠ 47 ∧ c ≠ 34 ∧ c ≠ 39 ∧ c ≠ 35 ∧ c ≠ 64 ∧ c ≠ 40 ∧ c ≠ 92 ∧ c ≠ 37 := by
  unfold letter at h
  refine ⟨?_, ?_, ?_, ?_, by omega, by omega, by omega, by omega, by omega, by omega, by omega, by omega, by omega, by omega, by omega, by omega, by omega⟩
  · unfold nameStart; simp; omega
  · unfold namePoint nameStart digit; simp; omega
  · unfold white; simp; omega
  · unfold digit; simp; omega
theorem tokens_one {l : List Int} {k : Tok} (h0 : 0 ≤ see l 0) (h : tokNext l 0 = ([k], l.length)) : tokens l = [k] := tokens_of (Toks.one h0 h)
theorem tok_begin {l : List Int} {p : Nat} (hb : begins l p = true) (hn : number l p = false) (h : see l p ≠ 47 ∧ see l p ≠ 34 ∧ see l p ≠ 39 ∧ see l p ≠ 35 ∧ see l p ≠ 64) (hw : white (see l p) = false) :
    tokNext l p = if see l (nameP l p) = 40 then ([{ kind := 20, text := nameS l p }], nameP l p + 1) else ([{ kind := 1, text := nameS l p }], nameP l p) := by
  unfold tokNext
  rw [hn, hb, hw, if_neg (by omega), if_neg (by decide), if_neg (by omega), if_neg (by omega), if_neg (by decide), if_neg (by omega), if_pos rfl]
theorem ints_b8 (s : List UInt8) : (ints s).map b8 = s := by
  unfold ints
  rw [List.map_map]
  have : b8 ∘ (fun b : UInt8 => (b.toNat : Int)) = id := by
    funext b
    show UInt8.ofNat (Int.toNat (b.toNat : Int)) = b
    rw [Int.toNat_natCast]
    exact UInt8.ofNat_toNat
  rw [this, List.map_id]
theorem ints_len (s : List UInt8) : (ints s).length = s.length := by simp [ints]
theorem ints_mem {s : List UInt8} {p : Int → Prop} (h : ∀ c ∈ s, p c.toNat) : ∀ c ∈ ints s, p c := by
  intro c hc
  obtain ⟨b, hb, rfl⟩ := List.mem_map.1 hc
  exact h b hb
theorem no_num {l : List Int} {p : Nat} {c : Int} (e : see l p = c) (h : digit c = false ∧ c ≠ 43 ∧ c ≠ 45 ∧ c ≠ 46) : number l p = false := number_at e h.1 ⟨h.2.1, h.2.2.1, h.2.2.2⟩
/-- A name of letters, ahead of what ends it. -/
theorem name_letters {l r : List Int} {p : Nat} {cs : List Int} (h : l.drop p = cs ++ r) (hc : ∀ c ∈ cs, letter c) (hr : Stops r) : nameS l p = cs.map b8 ∧ nameP l p = p + cs.length :=
  name_plain h (fun c hx => ⟨(letter_f (hc c hx)).2.1, (letter_f (hc c hx)).2.2.2.2.1, (letter_f (hc c hx)).2.2.2.2.2.1⟩) hr
theorem head_letter {l r : List Int} {p : Nat} {cs : List Int} (h : l.drop p = cs ++ r) (hn : cs ≠ []) (hc : ∀ c ∈ cs, letter c) : letter (see l p) := by
  cases cs with
  | nil => exact absurd rfl hn
  | cons c cs =>
    have h1 := letter_f (hc c (by simp))
    rw [(see_cons (r := cs ++ r) h ⟨h1.2.2.2.2.1, h1.2.2.2.2.2.1⟩).1]
    exact hc c (by simp)
theorem begins_letter {l : List Int} {p : Nat} (h : letter (see l p)) : begins l p = true := by
  unfold begins
  have := letter_f h
  rw [if_neg (by omega), this.1]
  rfl
theorem names_plain {s : List Int} (hn : s ≠ []) (hc : ∀ c ∈ s, letter c) : tokens s = [{ kind := 1, text := s.map b8 }] := by
  have hd : s.drop 0 = s ++ [] := by simp
  have h1 := head_letter hd hn hc
  have h2 := letter_f h1
  obtain ⟨e1, e2⟩ := name_letters hd hc trivial
  refine tokens_one (by omega) ?_
  rw [tok_begin (begins_letter h1) (no_num rfl ⟨h2.2.2.2.1, h2.2.2.2.2.2.2.2.1, h2.2.2.2.2.2.2.1, h2.2.2.2.2.2.2.2.2.1⟩) (by omega) h2.2.2.1, e1, e2, if_neg (by rw [Nat.zero_add, see_none (Nat.le_refl _)]; decide), Nat.zero_add]
theorem names_func {s : List Int} (hn : s ≠ []) (hc : ∀ c ∈ s, letter c) : tokens (s ++ [40]) = [{ kind := 20, text := s.map b8 }] := by
  have hd : (s ++ [40]).drop 0 = s ++ [40] := rfl
  have h1 := head_letter hd hn hc
  have h2 := letter_f h1
  obtain ⟨e1, e2⟩ := name_letters hd hc (show Stops [40] from ⟨by decide, by decide, by decide, by decide⟩)
  have e3 : see (s ++ [40]) s.length = 40 := (see_cons (l := s ++ [40]) (p := s.length) (c := 40) (r := []) (by simp) (by decide)).1
  refine tokens_one (by omega) ?_
  rw [tok_begin (begins_letter h1) (no_num rfl ⟨h2.2.2.2.1, h2.2.2.2.2.2.2.2.1, h2.2.2.2.2.2.2.1, h2.2.2.2.2.2.2.2.2.1⟩) (by omega) h2.2.2.1, e1, e2, Nat.zero_add, if_pos e3]
  simp
theorem names_at {s : List Int} (hn : s ≠ []) (hc : ∀ c ∈ s, letter c) : tokens (64 :: s) = [{ kind := 2, text := s.map b8 }] := by
  obtain ⟨e0, hd, _⟩ := see_cons (l := 64 :: s) (p := 0) (c := 64) (r := s) rfl (by decide)
  have hd' : (64 :: s).drop 1 = s ++ [] := by simp
  have h1 := head_letter hd' hn hc
  obtain ⟨e1, e2⟩ := name_letters hd' hc trivial
  refine tokens_one (by omega) ?_
  unfold tokNext
  rw [e0, no_num e0 ⟨rfl, by decide⟩, show 0 + 1 = 1 from rfl, begins_letter h1, e1, e2, if_neg (by omega), if_neg (by decide), if_neg (by omega), if_neg (by omega), if_neg (by decide), if_pos ⟨rfl, rfl⟩]
  simp
  omega
theorem names_hash {s : List Int} (hn : s ≠ []) (hc : ∀ c ∈ s, letter c) : tokens (35 :: s) = [{ kind := 3, text := s.map b8 }] := by
  obtain ⟨e0, hd, _⟩ := see_cons (l := 35 :: s) (p := 0) (c := 35) (r := s) rfl (by decide)
  have hd' : (35 :: s).drop 1 = s ++ [] := by simp
  have h1 := letter_f (head_letter hd' hn hc)
  obtain ⟨e1, e2⟩ := name_letters hd' hc trivial
  refine tokens_one (by omega) ?_
  unfold tokNext
  rw [e0, show 0 + 1 = 1 from rfl, e1, e2, if_neg (by omega), if_neg (by decide), if_neg (by omega), if_pos ⟨rfl, .inl h1.2.1⟩]
  simp
  omega
theorem names_minus {s : List Int} (k : Nat) (hk : k = 1 ∨ k = 2) (hn : s ≠ []) (hc : ∀ c ∈ s, letter c) : tokens (List.replicate k 45 ++ s) = [{ kind := 1, text := (List.replicate k 45 ++ s).map b8 }] := by
  have hp : ∀ c ∈ List.replicate k (45 : Int) ++ s, namePoint c = true ∧ 0 ≤ c ∧ c < 128 := by
    intro c hx
    rcases List.mem_append.1 hx with hx | hx
    · obtain rfl := (List.mem_replicate.1 hx).2; decide
    · have := letter_f (hc c hx); exact ⟨this.2.1, this.2.2.2.2.1, this.2.2.2.2.2.1⟩
  obtain ⟨e1, e2⟩ := name_plain (l := List.replicate k (45 : Int) ++ s) (p := 0) (r := []) (cs := List.replicate k (45 : Int) ++ s) (by simp) hp trivial
  have e0 : see (List.replicate k (45 : Int) ++ s) 0 = 45 := by rcases hk with rfl | rfl <;> rfl
  have hl : letter (see (List.replicate k (45 : Int) ++ s) k) := head_letter (cs := s) (r := []) (by simp) hn hc
  have hl2 := letter_f hl
  have e3 : begins (List.replicate k (45 : Int) ++ s) 0 = true := by
    unfold begins
    rw [e0, if_pos rfl]
    rcases hk with rfl | rfl
    · rw [show 0 + 1 = 1 from rfl, hl2.1]; rfl
    · rw [show see (List.replicate 2 (45 : Int) ++ s) (0 + 1) = 45 from rfl]; rfl
  have e4 : number (List.replicate k (45 : Int) ++ s) 0 = false := by
    unfold number
    rw [e0, if_pos (.inr rfl)]
    rcases hk with rfl | rfl
    · rw [show 0 + 1 = 1 from rfl, hl2.2.2.2.1, decide_eq_false (by omega)]; rfl
    · rw [show see (List.replicate 2 (45 : Int) ++ s) (0 + 1) = 45 from rfl]; rfl
  refine tokens_one (by omega) ?_
  rw [tok_begin e3 e4 (by omega) (by rw [e0]; rfl), e1, e2, if_neg (by rw [Nat.zero_add, see_none (Nat.le_refl _)]; decide), Nat.zero_add]
theorem tokens_more {l : List Int} {k : Tok} {n : Nat} {us : List Tok} (h0 : 0 ≤ see l 0) (h : tokNext l 0 = ([k], n)) (hn : n ≤ l.length) (ht : tokens (l.drop n) = us) : tokens l = k :: us := by
  have e : l = l.take n ++ l.drop n := (List.take_append_drop n l).symm
  have hl : (l.take n).length = n := by rw [List.length_take]; omega
  have h1 : Toks (l.take n ++ l.drop n) 0 (l.take n).length [k] := by
    rw [← e, hl]
    exact Toks.one h0 h
  have := tokens_app h1
  rw [← e, ht] at this
  exact this
theorem names_dot {s : List Int} (hn : s ≠ []) (hc : ∀ c ∈ s, letter c) : tokens (46 :: s) = [{ kind := 10, c := 46 }, { kind := 1, text := s.map b8 }] := by
  obtain ⟨e0, hd, _⟩ := see_cons (l := 46 :: s) (p := 0) (c := 46) (r := s) rfl (by decide)
  have hd' : (46 :: s).drop 1 = s ++ [] := by simp
  have h1 := letter_f (head_letter hd' hn hc)
  refine tokens_more (n := 1) (by omega) ?_ (by simp) (names_plain hn hc)
  have hnum : number (46 :: s) 0 = false := by
    unfold number
    rw [e0, if_neg (by decide), show 0 + 1 = 1 from rfl, h1.2.2.2.1]
    rfl
  unfold tokNext
  rw [e0, hnum, begins_at' e0 rfl (by decide), if_neg (by omega), if_neg (by decide), if_neg (by omega), if_neg (by omega), if_neg (by decide), if_neg (by omega), if_neg (by decide), if_neg (by decide)]
/-! Strings. -/
theorem strRun_chars {l : List Int} {e : Int} : ∀ (cs r : List Int) (p : Nat) (bs : List UInt8) (f : Nat), l.drop p = cs ++ r → (∀ c ∈ cs, 32 ≤ c ∧ c ≤ 126 ∧ c ≠ 92 ∧ c ≠ e) → cs.length < f →
    ∃ g, f - cs.length = g + 1 ∧ strRun l e f p bs = strRun l e (g + 1) (p + cs.length) (bs ++ cs.map b8)
  | [], r, p, bs, f, h, _, hf => ⟨f - 1, by simp at hf ⊢; omega, by simp at hf; rw [show f - 1 + 1 = f by omega]; simp⟩
  | c :: cs, r, p, bs, f, h, hc, hf => by
    have h0 := hc c (by simp)
    obtain ⟨e1, hd, _⟩ := see_cons (r := cs ++ r) h (by omega)
    match f, hf with
    | f + 1, hf =>
      obtain ⟨g, hg1, hg2⟩ := strRun_chars (e := e) cs r (p + 1) (bs ++ putB c) f hd (fun x hx => hc x (by simp [hx])) (by simp at hf; omega)
      refine ⟨g, by simp; omega, ?_⟩
      rw [strRun, e1, if_neg (by omega), if_neg (by omega), if_neg (by omega), if_neg (by omega), hg2, putB_ascii (by omega)]
      simp
      rw [Nat.add_right_comm, Nat.add_assoc]
theorem tok_quote {l : List Int} {p : Nat} (h : see l p = 34 ∨ see l p = 39) : tokNext l p = ([strT l p], strP l p) := by
  unfold tokNext
  rw [if_neg (by omega), if_neg, if_pos h]
  rcases h with h | h <;> rw [h] <;> decide
theorem str_closed {q : Int} (hq : q = 34 ∨ q = 39) {s r : List Int} (hc : ∀ c ∈ s, 32 ≤ c ∧ c ≤ 126 ∧ c ≠ 92 ∧ c ≠ 34 ∧ c ≠ 39) : tokNext (q :: (s ++ q :: r)) 0 = ([{ kind := 4, text := s.map b8 }], s.length + 2) := by
  obtain ⟨e0, hd, _⟩ := see_cons (l := q :: (s ++ q :: r)) (p := 0) (c := q) (r := s ++ q :: r) rfl (by omega)
  rw [tok_quote (by omega)]
  obtain ⟨g, _, hg⟩ := strRun_chars (e := q) s (q :: r) 1 [] ((q :: (s ++ q :: r)).length + 1) hd (fun c hx => by have := hc c hx; omega) (by simp; omega)
  have he : see (q :: (s ++ q :: r)) (1 + s.length) = q := (see_cons (l := q :: (s ++ q :: r)) (p := 1 + s.length) (c := q) (r := r) (by rw [← List.drop_drop, show List.drop 1 (q :: (s ++ q :: r)) = s ++ q :: r from rfl]; simp) (by omega)).1
  unfold strT strP
  rw [e0, show 0 + 1 = 1 from rfl, hg, strRun, he, if_neg (by omega), if_pos rfl]
  simp
  omega
theorem str_open {q : Int} (hq : q = 34 ∨ q = 39) {s : List Int} (hc : ∀ c ∈ s, 32 ≤ c ∧ c ≤ 126 ∧ c ≠ 92 ∧ c ≠ 34 ∧ c ≠ 39) : tokens (q :: s) = [{ kind := 4, text := s.map b8 }] := by
  obtain ⟨e0, hd, _⟩ := see_cons (l := q :: s) (p := 0) (c := q) (r := s) rfl (by omega)
  refine tokens_one (by omega) ?_
  rw [tok_quote (by omega)]
  obtain ⟨g, _, hg⟩ := strRun_chars (l := q :: s) (e := q) s [] 1 [] ((q :: s).length + 1) (by simp) (fun c hx => by have := hc c hx; omega) (by simp; omega)
  have he : see (q :: s) (1 + s.length) = -1 := see_none (by simp; omega)
  unfold strT strP
  rw [e0, show 0 + 1 = 1 from rfl, hg, strRun, he, if_pos (by decide)]
  simp
  omega
theorem str_bad {q : Int} (hq : q = 34 ∨ q = 39) {s r : List Int} (hc : ∀ c ∈ s, 32 ≤ c ∧ c ≤ 126 ∧ c ≠ 92 ∧ c ≠ 34 ∧ c ≠ 39) : tokNext (q :: (s ++ 10 :: r)) 0 = ([{ kind := 5 }], s.length + 1) := by
  obtain ⟨e0, hd, _⟩ := see_cons (l := q :: (s ++ 10 :: r)) (p := 0) (c := q) (r := s ++ 10 :: r) rfl (by omega)
  rw [tok_quote (by omega)]
  obtain ⟨g, _, hg⟩ := strRun_chars (e := q) s (10 :: r) 1 [] ((q :: (s ++ 10 :: r)).length + 1) hd (fun c hx => by have := hc c hx; omega) (by simp; omega)
  have he : see (q :: (s ++ 10 :: r)) (1 + s.length) = 10 := (see_cons (l := q :: (s ++ 10 :: r)) (p := 1 + s.length) (c := 10) (r := r) (by rw [← List.drop_drop, show List.drop 1 (q :: (s ++ 10 :: r)) = s ++ 10 :: r from rfl]; simp) (by omega)).1
  unfold strT strP
  rw [e0, show 0 + 1 = 1 from rfl, hg, strRun, he, if_neg (by decide), if_neg (by omega), if_pos rfl]
  simp
  omega
theorem strs_closed {q : Int} (hq : q = 34 ∨ q = 39) {s : List Int} (hc : ∀ c ∈ s, 32 ≤ c ∧ c ≤ 126 ∧ c ≠ 92 ∧ c ≠ 34 ∧ c ≠ 39) : tokens (q :: (s ++ q :: [97])) = [{ kind := 4, text := s.map b8 }, { kind := 1, text := [97] }] := by
  obtain ⟨e0, hd, _⟩ := see_cons (l := q :: (s ++ q :: [97])) (p := 0) (c := q) (r := s ++ q :: [97]) rfl (by omega)
  refine tokens_more (by omega) (str_closed hq hc) (by simp) ?_
  have : (q :: (s ++ q :: [97])).drop (s.length + 2) = [97] := by
    rw [show s.length + 2 = 1 + (s.length + 1) by omega, ← List.drop_drop, ← List.drop_drop, show List.drop 1 (q :: (s ++ q :: [97])) = s ++ q :: [97] from rfl]
    simp
  rw [this]
  decide +kernel
theorem strs_bad {q : Int} (hq : q = 34 ∨ q = 39) {s : List Int} (hc : ∀ c ∈ s, 32 ≤ c ∧ c ≤ 126 ∧ c ≠ 92 ∧ c ≠ 34 ∧ c ≠ 39) : tokens (q :: (s ++ 10 :: [97])) = [{ kind := 5 }, { kind := 9 }, { kind := 1, text := [97] }] := by
  obtain ⟨e0, hd, _⟩ := see_cons (l := q :: (s ++ 10 :: [97])) (p := 0) (c := q) (r := s ++ 10 :: [97]) rfl (by omega)
  refine tokens_more (by omega) (str_bad hq hc) (by simp) ?_
  have : (q :: (s ++ 10 :: [97])).drop (s.length + 1) = [10, 97] := by
    rw [show s.length + 1 = 1 + s.length by omega, ← List.drop_drop, show List.drop 1 (q :: (s ++ 10 :: [97])) = s ++ 10 :: [97] from rfl]
    simp
  rw [this]
  decide +kernel
/-! Signs that stand alone. -/
def signB (c : UInt8) : Bool :=
  let t := tokens (prepare [c])
  let n : Int := c.toNat
  if 0 < sign n then decide (t = [{ kind := sign n }])
  else if 32 < n ∧ n < 127 ∧ n ≠ 34 ∧ n ≠ 39 ∧ n ≠ 95 ∧ ¬ (48 ≤ n ∧ n ≤ 57) ∧ ¬ (97 ≤ n ∧ n ≤ 122) ∧ ¬ (65 ≤ n ∧ n ≤ 90) then decide (t = [{ kind := 10, c := n }])
  else decide (t.length ≤ 1)
theorem sign_all : ∀ n : _root_.Fin 256, signB (UInt8.ofNat n.val) = true := by decide +kernel
theorem signB_true (c : UInt8) : signB c = true := by
  have := sign_all ⟨c.toNat, c.toNat_lt⟩
  rwa [UInt8.ofNat_toNat] at this
/-! White of any kind. -/
theorem prep_white : ∀ (w : List UInt8), w ≠ [] → (∀ c ∈ w, c.toNat = 32 ∨ c.toNat = 9 ∨ c.toNat = 10 ∨ c.toNat = 13 ∨ c.toNat = 12) → prep (ints w ++ [98]) = prep (ints w) ++ [98] ∧ prep (ints w) ≠ [] ∧ ∀ x ∈ prep (ints w), white x = true
  | [], h, _ => absurd rfl h
  | [c], _, hc => by
    have := hc c (by simp)
    rcases this with h | h | h | h | h <;> simp [ints, h, prep, white]
  | c :: d :: w, _, hc => by
    obtain ⟨h1, h2, h3⟩ := prep_white (d :: w) (by simp) (fun x hx => hc x (by simp [hx]))
    have e : ints (c :: d :: w) = (c.toNat : Int) :: ints (d :: w) := rfl
    have e2 : (ints (d :: w) ++ [98]).head? = (ints (d :: w)).head? := rfl
    rw [e, List.cons_append, prep, prep, e2, h1]
    have := hc c (by simp)
    split
    · exact ⟨rfl, h2, h3⟩
    split
    · refine ⟨rfl, by simp, fun x hx => ?_⟩
      rcases List.mem_cons.1 hx with rfl | hx
      · rfl
      · exact h3 x hx
    split
    · omega
    · refine ⟨rfl, by simp, fun x hx => ?_⟩
      rcases List.mem_cons.1 hx with rfl | hx
      · unfold white; simp; omega
      · exact h3 x hx
theorem law_white (w : List UInt8) (hn : w ≠ []) (hw : ∀ c ∈ w, c.toNat = 32 ∨ c.toNat = 9 ∨ c.toNat = 10 ∨ c.toNat = 13 ∨ c.toNat = 12) : tokens (prepare (97 :: (w ++ [98]))) = [{ kind := 1, text := [97] }, { kind := 9 }, { kind := 1, text := [98] }] := by
  have e : prepare (97 :: (w ++ [98])) = 97 :: (prep (ints w) ++ [98]) := by
    have ha : ∀ b ∈ (97 :: (w ++ [98]) : List UInt8), b.toNat < 128 := by
      intro b hb
      rcases List.mem_cons.1 hb with rfl | hb
      · decide
      · rcases List.mem_append.1 hb with hb | hb
        · have := hw b hb; omega
        · obtain rfl := List.mem_singleton.1 hb; decide
    unfold prepare
    rw [points_ascii ha]
    have : ints (97 :: (w ++ [98])) = 97 :: (ints w ++ [98]) := by simp [ints]
    rw [this, prep_cons (by decide), (prep_white w hn hw).1]
  obtain ⟨_, h2, h3⟩ := prep_white w hn hw
  rw [e]
  generalize hW : prep (ints w) = W at *
  cases W with
  | nil => exact absurd rfl h2
  | cons x W =>
    have hx := h3 x (by simp)
    have hx' : x = 9 ∨ x = 10 ∨ x = 32 := by simpa [white, or_assoc] using hx
    have p1 : Piece [97] [{ kind := 1, text := [97] }] AfterW := piece_word (c := 97) (cs := []) (by decide) (by decide)
    have p2 : Piece (x :: W) [{ kind := 9 }] AfterB := piece_white h3
    have p3 : Piece [98] [{ kind := 1, text := [98] }] AfterW := piece_word (c := 98) (cs := []) (by decide) (by decide)
    have := Piece.tokens (p1.app (p2.app p3 (fun r _ => ⟨by decide, by decide, by decide⟩)) (fun r _ => by
      refine ⟨⟨by omega, by omega, ?_, by omega⟩, fun r' e => ?_⟩
      · rcases hx' with rfl | rfl | rfl <;> decide
      · have := (List.cons.inj e).1; omega)) (show AfterW [] from ⟨trivial, fun _ h => by cases h⟩)
    simpa using this
end Go.Proofs.Ytdfiegleaknleaa.Aw
