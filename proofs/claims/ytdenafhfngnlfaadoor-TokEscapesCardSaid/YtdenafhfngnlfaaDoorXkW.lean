/- Plain laws of tokens: escapes. -/
import Derived.Test.YtdenafhfngnlfaaDoorXkV
namespace Go.Proofs.YtdenafhfngnlfaaDoor.Aw
open Go Go.RowKit Go.Lib
set_option linter.unusedVariables false
set_option linter.unusedSimpArgs false
set_option maxRecDepth 100000
/-! Hexadecimal digits. -/
def hexC (d : Nat) : UInt8 := if d < 10 then UInt8.ofNat (48 + d) else UInt8.ofNat (87 + d)
def hexU : Nat → Nat → List UInt8
  | 0, _ => []
  | k + 1, n => if n < 16 then [hexC n] else hexU k (n / 16) ++ [hexC (n % 16)]
def isHx (c : UInt8) : Prop := 0 ≤ hex c.toNat ∧ 0 ≤ (c.toNat : Int) ∧ (c.toNat : Int) < 128 ∧ (c.toNat : Int) ≠ 10 ∧ (c.toNat : Int) ≠ 13 ∧ (c.toNat : Int) ≠ 12 ∧ (c.toNat : Int) ≠ 0
theorem hexC_of : ∀ d : _root_.Fin 16, 0 ≤ hex (hexC d.val).toNat ∧ hex (hexC d.val).toNat = d.val ∧ (hexC d.val).toNat < 128 ∧ 48 ≤ (hexC d.val).toNat := by decide +kernel
theorem hexC_is {d : Nat} (h : d < 16) : isHx (hexC d) ∧ hex (hexC d).toNat = d := by
  have := hexC_of ⟨d, h⟩
  simp only at this
  unfold isHx
  omega
theorem hexU_is : ∀ (k n : Nat), ∀ c ∈ hexU k n, isHx c
  | 0, n, c, h => by simp [hexU] at h
  | k + 1, n, c, h => by
    unfold hexU at h
    split at h
    · rename_i h1
      obtain rfl := List.mem_singleton.1 h
      exact (hexC_is h1).1
    · rcases List.mem_append.1 h with h | h
      · exact hexU_is k _ c h
      · obtain rfl := List.mem_singleton.1 h
        exact (hexC_is (Nat.mod_lt _ (by omega))).1
theorem hexU_ne (k n : Nat) : hexU (k + 1) n ≠ [] := by
  unfold hexU
  split <;> simp
theorem hexU_len : ∀ (k n : Nat), (hexU k n).length ≤ k
  | 0, n => by simp [hexU]
  | k + 1, n => by
    unfold hexU
    split
    · simp
    · have := hexU_len k (n / 16)
      simp; omega
def hxF (m : Int) (c : UInt8) : Int := m * 16 + hex c.toNat
theorem hexU_val : ∀ (k n : Nat), n < 16 ^ (k + 1) → (hexU (k + 1) n).foldl hxF 0 = n
  | 0, n, h => by
    unfold hexU
    rw [if_pos (by simpa using h)]
    simp [hxF, (hexC_is (show n < 16 by simpa using h)).2]
  | k + 1, n, h => by
    unfold hexU
    split
    · rename_i h1
      simp [hxF, (hexC_is h1).2]
    · have h2 : n / 16 < 16 ^ (k + 1) := by
        rw [Nat.div_lt_iff_lt_mul (by omega)]
        rw [Nat.pow_succ] at h
        exact h
      rw [List.foldl_append, hexU_val k (n / 16) h2]
      simp only [List.foldl_cons, List.foldl_nil, hxF, (hexC_is (Nat.mod_lt n (show 16 > 0 by omega))).2]
      omega
theorem hexRun_digs {l : List Int} : ∀ (h : List UInt8) (r : List Int) (k p : Nat) (m : Int), l.drop p = ints h ++ r → (∀ c ∈ h, isHx c) → h.length ≤ k → (h.length = k ∨ hex (see l (p + h.length)) < 0) → hexRun l k p m = (p + h.length, h.foldl hxF m)
  | [], r, 0, p, m, _, _, _, _ => rfl
  | [], r, k + 1, p, m, hd, hc, hl, he => by
    rcases he with he | he
    · cases he
    · unfold hexRun
      rw [if_neg (by simpa using he)]
      rfl
  | c :: h, r, 0, p, m, _, _, hl, _ => by simp at hl
  | c :: h, r, k + 1, p, m, hd, hc, hl, he => by
    have h0 := hc c (by simp)
    obtain ⟨e, hd', _⟩ := see_cons (c := (c.toNat : Int)) (r := ints h ++ r) (by simpa [ints] using hd) ⟨h0.2.1, h0.2.2.1⟩
    unfold hexRun
    rw [e, if_pos h0.1, hexRun_digs h r k (p + 1) _ hd' (fun x hx => hc x (by simp [hx])) (by simpa using hl) (by
      rcases he with he | he
      · left; simpa using he
      · right; rw [List.length_cons] at he; rw [show p + 1 + h.length = p + (h.length + 1) by omega]; exact he)]
    simp [hxF]
    omega
/-- The code point of an escape. -/
def escC (n : Nat) : Int := if n = 0 ∨ n > 1114111 ∨ (55296 ≤ n ∧ n ≤ 57343) then 65533 else n
theorem escC_of (n : Nat) : (if (n : Int) = 0 ∨ right (n : Int) = false then (65533 : Int) else n) = escC n := by
  unfold escC right
  by_cases h : n = 0 ∨ n > 1114111 ∨ (55296 ≤ n ∧ n ≤ 57343)
  · rw [if_pos h, if_pos]
    by_cases h0 : n = 0
    · left; omega
    · right; simp; omega
  · rw [if_neg h, if_neg]
    intro h1
    rcases h1 with h1 | h1
    · omega
    · simp at h1; omega
/-- What may stand behind the digits: a blank, a blank and a letter, or the letter if there are six digits. -/
def escR (h : List UInt8) (r : List Int) : Prop := (∃ r', r = 32 :: r') ∨ (h.length = 6 ∧ ∃ r', r = 103 :: r')
theorem esc_of {l r : List Int} {p n : Nat} {h : List UInt8} (hn : n < 16 ^ 6) (hh : h = hexU 6 n) (hd : l.drop p = 92 :: (ints h ++ r)) (hr : escR h r) :
    see l p = 92 ∧ 0 ≤ hex (see l (p + 1)) ∧ escapedV l p = escC n ∧ escapedP l p = p + 1 + h.length + (if see l (p + 1 + h.length) = 32 then 1 else 0) := by
  obtain ⟨e0, hd1, _⟩ := see_cons hd (by omega)
  have hx := hexU_is 6 n
  rw [← hh] at hx
  have hne := hexU_ne 5 n
  rw [← hh] at hne
  have hlen := hexU_len 6 n
  rw [← hh] at hlen
  have h1 : 0 ≤ hex (see l (p + 1)) := by
    cases h with
    | nil => exact absurd rfl hne
    | cons c h' =>
      have h0 := hx c (by simp)
      rw [(see_cons (c := (c.toNat : Int)) (r := ints h' ++ r) (by simpa [ints] using hd1) ⟨h0.2.1, h0.2.2.1⟩).1]
      exact h0.1
  have hd2 : l.drop (p + 1 + h.length) = r := by
    have := congrArg (List.drop h.length) hd1
    rw [List.drop_drop] at this
    rw [this, List.drop_append_of_le_length (by rw [ints_len]; omega), List.drop_of_length_le (by rw [ints_len]; omega), List.nil_append]
  have he : h.length = 6 ∨ hex (see l (p + 1 + h.length)) < 0 := by
    rcases hr with ⟨r', rfl⟩ | ⟨h6, _⟩
    · right
      rw [(see_cons hd2 (by omega)).1]
      decide
    · exact .inl h6
  have hrun := hexRun_digs h r 6 (p + 1) 0 hd1 hx hlen he
  have hv : h.foldl hxF 0 = n := by rw [hh]; exact hexU_val 5 n hn
  rw [hv] at hrun
  refine ⟨e0, h1, ?_, ?_⟩
  · rw [escapedV_of (by omega) hrun, escC_of]
  · rw [escapedP_of (by omega) hrun]
    rcases hr with ⟨r', rfl⟩ | ⟨_, r', rfl⟩
    · rw [(see_cons hd2 (by omega)).1]; rfl
    · rw [(see_cons hd2 (by omega)).1]; rfl
/-- The text of an escape, and what it is. -/
def escT (n : Nat) (blank : Bool) : List UInt8 := 92 :: (hexU 6 n ++ ((if blank = true ∨ (hexU 6 n).length < 6 then [32] else []) ++ (if blank = true then [] else [103])))
def escW (n : Nat) (blank : Bool) : List UInt8 := putB (escC n) ++ (if blank = true then [] else [103])
theorem escT_split (n : Nat) (blank : Bool) : ∃ (r : List Int) (w : Nat), escR (hexU 6 n) (r ++ []) ∧ ints (escT n blank) = 92 :: (ints (hexU 6 n) ++ r) ∧ r = (if w = 1 then [32] else []) ++ (if blank = true then [] else [103]) ∧ w ≤ 1 ∧ (w = 0 → blank = false ∧ (hexU 6 n).length = 6) := by
  have hlen := hexU_len 6 n
  by_cases hw : blank = true ∨ (hexU 6 n).length < 6
  · refine ⟨32 :: (if blank = true then [] else [103]), 1, .inl ⟨_, rfl⟩, ?_, rfl, by omega, by omega⟩
    unfold escT
    rw [if_pos hw]
    cases blank <;> simp [ints]
  · have hb : blank = false := by cases blank <;> simp_all
    refine ⟨[103], 0, .inr ⟨by omega, _, rfl⟩, ?_, by simp [hb], by omega, fun _ => ⟨hb, by omega⟩⟩
    unfold escT
    rw [if_neg hw, hb]
    simp [ints]
theorem hex_see1 {l : List Int} {p : Nat} (h : 0 ≤ hex (see l p)) : ¬ see l p < 0 ∧ see l p ≠ 10 ∧ see l p ≠ 45 := by
  unfold hex at h
  (repeat' split at h) <;> omega
theorem esc_name (n : Nat) (hn : n < 16 ^ 6) (blank : Bool) : tokens (ints (escT n blank)) = [{ kind := 1, text := escW n blank }] := by
  obtain ⟨r, w, hr, he, hr', hw, hw0⟩ := escT_split n blank
  rw [List.append_nil] at hr
  obtain ⟨l, hl⟩ : ∃ l, l = ints (escT n blank) := ⟨_, rfl⟩
  rw [← hl] at he ⊢
  obtain ⟨e0, h1, hv, hp⟩ := esc_of (l := l) (p := 0) hn rfl he hr
  have h2 := hex_see1 h1
  have hesc : escape l 0 = true := escape_of e0 h2.1 h2.2.1
  have hd1 : l.drop (0 + 1 + (hexU 6 n).length) = r := by
    rw [he, show 0 + 1 + (hexU 6 n).length = (92 :: ints (hexU 6 n)).length by simp [ints_len]; omega, ← List.cons_append, List.drop_left]
  have hlen : l.length = 1 + (hexU 6 n).length + r.length := by rw [he]; simp [ints_len]; omega
  have hq : escapedP l 0 = 1 + (hexU 6 n).length + w ∧ l.drop (1 + (hexU 6 n).length + w) = (if blank = true then [] else [103]) := by
    have hd1' : l.drop (1 + (hexU 6 n).length) = r := by rw [← hd1, Nat.zero_add]
    have hd2 : l.drop (1 + (hexU 6 n).length + w) = r.drop w := by rw [← List.drop_drop, hd1']
    have hw' : w = 0 ∨ w = 1 := by omega
    rw [hp, hd2, hr']
    rcases hw' with rfl | rfl
    · have hb := (hw0 rfl).1
      subst hb
      rw [(see_cons (l := l) (p := 0 + 1 + (hexU 6 n).length) (c := 103) (r := []) (by rw [hd1, hr']; rfl) (by omega)).1]
      exact ⟨by simp, rfl⟩
    · rw [(see_cons (l := l) (p := 0 + 1 + (hexU 6 n).length) (c := 32) (r := (if blank = true then [] else [103])) (by rw [hd1, hr']; rfl) (by omega)).1]
      exact ⟨by simp, rfl⟩
  have hN : nameRun l (l.length + 1) 0 [] = (escW n blank, l.length) := by
    have hlw : l.length = 1 + (hexU 6 n).length + w + (if blank = true then [] else [103] : List Int).length := by
      rw [hlen, hr']
      have hw' : w = 0 ∨ w = 1 := by omega
      rcases hw' with rfl | rfl <;> simp <;> omega
    rw [nameRun, e0, if_neg (by decide), if_pos hesc, hv, hq.1]
    have := nameRun_plain (l := l) (if blank = true then [] else [103]) [] (1 + (hexU 6 n).length + w) ([] ++ putB (escC n)) l.length (by rw [hq.2, List.append_nil]) (by
      intro c hc
      cases blank
      · obtain rfl := List.mem_singleton.1 (by simpa using hc : c ∈ [(103 : Int)])
        decide
      · simp at hc) trivial (by rw [hlw]; cases blank <;> simp <;> omega)
    rw [this, List.nil_append, ← hlw]
    unfold escW
    cases blank <;> rfl
  have eS : nameS l 0 = escW n blank ∧ nameP l 0 = l.length := by unfold nameS nameP; rw [hN]; exact ⟨rfl, rfl⟩
  have hb : begins l 0 = true := by
    unfold begins
    rw [e0, if_neg (by decide), hesc]
    simp
  refine tokens_one (by omega) ?_
  rw [tok_begin hb (no_num e0 (by decide)) (by omega) (by rw [e0]; rfl), eS.1, eS.2, if_neg (by rw [see_none (Nat.le_refl _)]; decide)]
theorem esc_str (n : Nat) (hn : n < 16 ^ 6) (blank : Bool) : tokens (34 :: (ints (escT n blank) ++ [34])) = [{ kind := 4, text := escW n blank }] := by
  obtain ⟨r, w, hr, he, hr', hw, hw0⟩ := escT_split n blank
  rw [List.append_nil] at hr
  obtain ⟨l, hl⟩ : ∃ l, l = 34 :: (ints (escT n blank) ++ [34]) := ⟨_, rfl⟩
  rw [← hl]
  have hd0 : l.drop 1 = 92 :: (ints (hexU 6 n) ++ (r ++ [34])) := by rw [hl, he]; simp
  have hr2 : escR (hexU 6 n) (r ++ [34]) := by
    rcases hr with ⟨r', rfl⟩ | ⟨h6, r', rfl⟩
    · exact .inl ⟨_, rfl⟩
    · exact .inr ⟨h6, _, rfl⟩
  obtain ⟨e0, h1, hv, hp⟩ := esc_of (l := l) (p := 1) hn rfl hd0 hr2
  have h2 := hex_see1 h1
  have hd1 : l.drop (1 + 1 + (hexU 6 n).length) = r ++ [34] := by
    have := congrArg (List.drop (1 + (hexU 6 n).length)) hd0
    rw [List.drop_drop, show 1 + (1 + (hexU 6 n).length) = 1 + 1 + (hexU 6 n).length by omega] at this
    rw [this, show 1 + (hexU 6 n).length = (92 :: ints (hexU 6 n)).length by simp [ints_len]; omega, ← List.cons_append, List.drop_left]
  have hlen : l.length = 3 + (hexU 6 n).length + r.length := by rw [hl, he]; simp [ints_len]; omega
  have eq0 : see l 0 = 34 := (see_cons (l := l) (p := 0) (c := 34) (r := ints (escT n blank) ++ [34]) hl (by omega)).1
  have hq : escapedP l 1 = 2 + (hexU 6 n).length + w ∧ l.drop (2 + (hexU 6 n).length + w) = (if blank = true then [] else [103]) ++ [34] := by
    have hd1' : l.drop (2 + (hexU 6 n).length) = r ++ [34] := by rw [← hd1]
    have hd2 : l.drop (2 + (hexU 6 n).length + w) = (r ++ [34]).drop w := by rw [← List.drop_drop, hd1']
    have hw' : w = 0 ∨ w = 1 := by omega
    rw [hp, hd2, hr']
    rcases hw' with rfl | rfl
    · have hb := (hw0 rfl).1
      subst hb
      rw [(see_cons (l := l) (p := 1 + 1 + (hexU 6 n).length) (c := 103) (r := [34]) (by rw [hd1, hr']; rfl) (by omega)).1]
      exact ⟨by simp, rfl⟩
    · rw [(see_cons (l := l) (p := 1 + 1 + (hexU 6 n).length) (c := 32) (r := (if blank = true then [] else [103]) ++ [34]) (by rw [hd1, hr']; cases blank <;> rfl) (by omega)).1]
      exact ⟨by simp, by cases blank <;> rfl⟩
  have hS : strRun l 34 (l.length + 1) 1 [] = ({ kind := 4, text := escW n blank }, l.length) := by
    have hlw : l.length = 2 + (hexU 6 n).length + w + (if blank = true then [] else [103] : List Int).length + 1 := by
      rw [hlen, hr']
      have hw' : w = 0 ∨ w = 1 := by omega
      rcases hw' with rfl | rfl <;> simp <;> omega
    rw [strRun, e0, if_neg (by decide), if_neg (by decide), if_neg (by decide), if_pos rfl, if_neg h2.1, if_neg h2.2.1, hv, hq.1, hlw]
    have hq2 := hq.2
    cases blank with
    | true =>
      obtain ⟨f1, f2, _⟩ := see_cons (l := l) (p := 2 + (hexU 6 n).length + w) (c := 34) (r := []) (by rw [hq2]; rfl) (by omega)
      rw [strRun, f1, if_neg (by decide), if_pos rfl]
      simp [escW]
    | false =>
      obtain ⟨f1, f2, _⟩ := see_cons (l := l) (p := 2 + (hexU 6 n).length + w) (c := 103) (r := [34]) (by rw [hq2]; rfl) (by omega)
      obtain ⟨g1, g2, _⟩ := see_cons (l := l) (p := 2 + (hexU 6 n).length + w + 1) (c := 34) (r := []) f2 (by omega)
      rw [strRun, f1, if_neg (by decide), if_neg (by decide), if_neg (by decide), if_neg (by decide), show (2 + (hexU 6 n).length + w + (if false = true then ([] : List Int) else [103]).length) = 2 + (hexU 6 n).length + w + 1 by rfl, show 2 + (hexU 6 n).length + w + 1 = (2 + (hexU 6 n).length + w) + 1 from rfl, strRun, g1, if_neg (by decide), if_pos rfl]
      simp [escW, putB_ascii]
      decide
  have eS : strT l 0 = { kind := 4, text := escW n blank } ∧ strP l 0 = l.length := by unfold strT strP; rw [eq0]; rw [show 0 + 1 = 1 from rfl, hS]; exact ⟨rfl, rfl⟩
  refine tokens_one (by omega) ?_
  rw [tok_quote (.inl eq0), eS.1, eS.2]
theorem escT_ascii (n : Nat) (blank : Bool) : ∀ b ∈ escT n blank, b.toNat < 128 ∧ b.toNat ≠ 13 ∧ b.toNat ≠ 12 ∧ b.toNat ≠ 0 := by
  intro b hb
  unfold escT at hb
  simp only [List.mem_cons, List.mem_append] at hb
  rcases hb with rfl | hb | hb | hb
  · decide
  · have := hexU_is 6 n b hb
    unfold isHx at this
    omega
  · split at hb
    · obtain rfl := List.mem_singleton.1 hb; decide
    · simp at hb
  · split at hb
    · simp at hb
    · obtain rfl := List.mem_singleton.1 hb; decide
theorem law_esc (n : Nat) (hn : n < 16 ^ 6) (blank : Bool) : tokens (prepare (escT n blank)) = [{ kind := 1, text := escW n blank }] ∧ tokens (prepare (34 :: (escT n blank ++ [34]))) = [{ kind := 4, text := escW n blank }] := by
  constructor
  · rw [prepare_ascii (escT_ascii n blank)]
    exact esc_name n hn blank
  · rw [prepare_ascii (by
      intro b hb
      simp only [List.mem_cons, List.mem_append, List.mem_singleton, List.not_mem_nil, or_false] at hb
      rcases hb with rfl | hb | rfl
      · decide
      · exact escT_ascii n blank b hb
      · decide)]
    have : ints (34 :: (escT n blank ++ [34])) = 34 :: (ints (escT n blank) ++ [34]) := by simp [ints]
    rw [this]
    exact esc_str n hn blank
end Go.Proofs.YtdenafhfngnlfaaDoor.Aw
