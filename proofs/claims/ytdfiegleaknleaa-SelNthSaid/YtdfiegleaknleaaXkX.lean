/- What kinds of tokens a text has: what each of them holds; no white behind white. -/
import Derived.Test.YtdfiegleaknleaaXrL
namespace Go.Proofs.Ytdfiegleaknleaa.Aw
open Go Go.RowKit Go.Lib
set_option linter.unusedVariables false
set_option linter.unusedSimpArgs false
set_option maxRecDepth 100000
structure TokFit (m : Nat) (k : Tok) : Prop where
  text : k.text.length ≤ m
  lo : -2147483647 ≤ k.n
  hi : k.n ≤ 2147483647
theorem nameRun_len (l : List Int) : ∀ (f p : Nat) (bs : List UInt8), (nameRun l f p bs).1.length ≤ bs.length + 4 * f
  | 0, p, bs => by simp [nameRun]
  | f + 1, p, bs => by
    unfold nameRun
    split
    · have := nameRun_len l f (p + 1) (bs ++ putB (see l p))
      have := putB_le (see l p)
      rw [List.length_append] at *
      omega
    split
    · have := nameRun_len l f (escapedP l p) (bs ++ putB (escapedV l p))
      have := putB_le (escapedV l p)
      rw [List.length_append] at *
      omega
    · dsimp only; omega
theorem nameS_len (l : List Int) (p : Nat) : (nameS l p).length ≤ 4 * (l.length + 1) := by
  have := nameRun_len l (l.length + 1) p []
  unfold nameS
  simp at this
  omega
theorem strRun_fit (l : List Int) (e : Int) (m : Nat) : ∀ (f p : Nat) (bs : List UInt8), bs.length + 4 * f ≤ m → TokFit m (strRun l e f p bs).1
  | 0, p, bs, h => ⟨by simp [strRun], by simp [strRun], by simp [strRun]⟩
  | f + 1, p, bs, h => by
    have h1 := putB_le (see l p)
    have h2 := putB_le (escapedV l p)
    unfold strRun
    split
    · exact ⟨by dsimp only; omega, by dsimp only; omega, by dsimp only; omega⟩
    split
    · exact ⟨by dsimp only; omega, by dsimp only; omega, by dsimp only; omega⟩
    split
    · exact ⟨by simp, by dsimp only; omega, by dsimp only; omega⟩
    split
    · split
      · exact strRun_fit l e m f _ _ (by omega)
      split
      · exact strRun_fit l e m f _ _ (by omega)
      · exact strRun_fit l e m f _ _ (by rw [List.length_append]; omega)
    · exact strRun_fit l e m f _ _ (by rw [List.length_append]; omega)
theorem cap_le (n : Int) : -2147483647 ≤ cap n ∧ cap n ≤ 2147483647 := by
  unfold cap
  repeat' split
  all_goals omega
theorem numTail_le (b : Bool) (n : Int) (x : Bool) : -2147483647 ≤ (numTail b n x).1 ∧ (numTail b n x).1 ≤ 2147483647 := by
  unfold numTail
  split
  · exact ⟨by dsimp only; omega, by dsimp only; omega⟩
  · exact cap_le _
theorem numV_le (bs : List UInt8) : -2147483647 ≤ (numV bs).1 ∧ (numV bs).1 ≤ 2147483647 := by
  unfold numV
  generalize wholeRun (bs.drop (numSign bs).2) 0 0 = x
  obtain ⟨r, n, k⟩ := x
  dsimp only
  unfold numPoint
  split
  · exact numTail_le ..
  · split
    · rename_i b r' _
      generalize fracRun r' (n * 1000) 100 0 = y
      obtain ⟨r2, n2, k2⟩ := y
      exact numTail_le ..
    · exact ⟨by dsimp only; omega, by dsimp only; omega⟩
theorem numericT_fit (l : List Int) (p : Nat) : TokFit (4 * (l.length + 1)) (numericT l p) := by
  unfold numericT
  generalize numB l p = x
  obtain ⟨bs, q, w⟩ := x
  have h := numV_le bs
  dsimp only
  split
  · exact ⟨nameS_len l q, h.1, h.2⟩
  split
  · exact ⟨by simp, h.1, h.2⟩
  · exact ⟨by simp, h.1, h.2⟩
theorem tokNext_fit (l : List Int) (p : Nat) : ∀ k ∈ (tokNext l p).1, TokFit (4 * (l.length + 1)) k := by
  have plain : ∀ (kd c : Int), TokFit (4 * (l.length + 1)) { kind := kd, c := c } := fun _ _ => ⟨by simp, by simp, by simp⟩
  have named : ∀ (kd : Int) (q : Nat), TokFit (4 * (l.length + 1)) { kind := kd, text := nameS l q } := fun _ q => ⟨nameS_len l q, by simp, by simp⟩
  intro k hk
  have hC := tokC l p
  generalize tokNext l p = Y at hk hC
  cases hC
  case comment => simp at hk
  case quote => simp at hk; subst hk; exact strRun_fit l _ _ _ _ [] (by simp)
  case quote1 => simp at hk; subst hk; exact strRun_fit l _ _ _ _ [] (by simp)
  case num => simp at hk; subst hk; exact numericT_fit l p
  case hash => simp at hk; subst hk; exact named _ _
  case hashE => simp at hk; subst hk; exact named _ _
  case atk => simp at hk; subst hk; exact named _ _
  case name => simp at hk; subst hk; exact named _ _
  case name1 => simp at hk; subst hk; exact named _ _
  all_goals (simp at hk; subst hk; exact plain _ _)
theorem tokRun_fit (l : List Int) : ∀ (f p : Nat) (ts : List Tok), (∀ k ∈ ts, TokFit (4 * (l.length + 1)) k) → (∀ k ∈ tokRun l f p ts, TokFit (4 * (l.length + 1)) k) ∧ (tokRun l f p ts).length ≤ ts.length + f
  | 0, p, ts, h => ⟨h, by simp [tokRun]⟩
  | f + 1, p, ts, h => by
    unfold tokRun
    split
    · rename_i h0
      have hl := (tokNext_gt h0).2.2
      obtain ⟨h1, h2⟩ := tokRun_fit l f (tokNext l p).2 (ts ++ (tokNext l p).1) (fun k hk => by
        rcases List.mem_append.1 hk with hk | hk
        · exact h k hk
        · exact tokNext_fit l p k hk)
      refine ⟨h1, ?_⟩
      rw [List.length_append] at h2
      omega
    · exact ⟨h, by omega⟩
/-! What a token's kind names. -/
def isText (k : Int) : Prop := k = 1 ∨ k = 2 ∨ k = 3 ∨ k = 4 ∨ k = 8 ∨ k = 20
def isNum (k : Int) : Prop := k = 6 ∨ k = 7 ∨ k = 8
structure TokKind (k : Tok) : Prop where
  kind : 1 ≤ k.kind ∧ k.kind ≤ 20
  text : ¬ isText k.kind → k.text = []
  num : ¬ isNum k.kind → k.n = 0
  whole : k.kind ≠ 6 → k.whole = false
  c : k.kind ≠ 10 → k.c = 0
  some : isText k.kind → k.kind ≠ 4 → k.text ≠ []
theorem putB_ne (c : Int) : 1 ≤ (putB c).length := by
  unfold putB utfB
  (repeat' split) <;> simp
theorem nameRun_ge (l : List Int) : ∀ (f p : Nat) (bs : List UInt8), bs.length ≤ (nameRun l f p bs).1.length
  | 0, p, bs => Nat.le_refl _
  | f + 1, p, bs => by
    unfold nameRun
    split
    · have := nameRun_ge l f (p + 1) (bs ++ putB (see l p))
      rw [List.length_append] at this
      omega
    · split
      · have := nameRun_ge l f (escapedP l p) (bs ++ putB (escapedV l p))
        rw [List.length_append] at this
        omega
      · exact Nat.le_refl _
theorem name_ne {l : List Int} {p : Nat} (h : namePoint (see l p) = true ∨ escape l p = true) : nameS l p ≠ [] := by
  intro e
  have h0 : (nameS l p).length = 0 := by rw [e]; rfl
  unfold nameS at h0
  rw [nameRun] at h0
  split at h0
  · have h1 := nameRun_ge l l.length (p + 1) ([] ++ putB (see l p))
    have h2 := putB_ne (see l p)
    rw [List.nil_append] at h1 h0
    omega
  · rename_i hn
    rcases h with h | h
    · exact hn h
    · rw [if_pos h] at h0
      have h1 := nameRun_ge l l.length (escapedP l p) ([] ++ putB (escapedV l p))
      have h2 := putB_ne (escapedV l p)
      rw [List.nil_append] at h1 h0
      omega
theorem begins_ne {l : List Int} {p : Nat} (h : begins l p = true) : nameS l p ≠ [] := by
  refine name_ne ?_
  unfold begins at h
  split at h
  · rename_i e
    left
    rw [e]
    decide
  · simp only [Bool.or_eq_true] at h
    rcases h with h | h
    · left; unfold namePoint; rw [h]; rfl
    · exact .inr h
theorem strRun_kind (l : List Int) (e : Int) : ∀ (f p : Nat) (bs : List UInt8), l.length - p < f → TokKind (strRun l e f p bs).1 ∧ ((strRun l e f p bs).1.kind = 4 ∨ (strRun l e f p bs).1.kind = 5)
  | 0, p, bs, h => by omega
  | f + 1, p, bs, h => by
    have four : ∀ (b : List UInt8), TokKind { kind := 4, text := b } := fun b => ⟨by dsimp only; omega, fun h => absurd (.inr (.inr (.inr (.inl rfl)))) h, fun _ => rfl, fun _ => rfl, fun _ => rfl, fun _ h => absurd rfl h⟩
    have five : TokKind { kind := 5 } := ⟨by decide, fun _ => rfl, fun _ => rfl, fun _ => rfl, fun _ => rfl, fun h => absurd h (by unfold isText; decide)⟩
    unfold strRun
    split
    · exact ⟨four _, .inl rfl⟩
    · rename_i h0
      have hlt := see_lt (l := l) (i := p) (by omega)
      split
      · exact ⟨four _, .inl rfl⟩
      · split
        · exact ⟨five, .inr rfl⟩
        · split
          · split
            · exact strRun_kind l e f _ _ (by omega)
            · split
              · exact strRun_kind l e f _ _ (by omega)
              · rename_i h92 hn h10
                have := escapedP_le (escape_of h92 hn h10)
                exact strRun_kind l e f _ _ (by omega)
          · exact strRun_kind l e f _ _ (by omega)
theorem plain_kind (k c : Int) (h : k = 9 ∨ (11 ≤ k ∧ k ≤ 19)) : TokKind { kind := k } :=
  ⟨by dsimp only; omega, fun _ => rfl, fun _ => rfl, fun _ => rfl, fun _ => rfl, fun h' => by unfold isText at h'; dsimp only at h'; omega⟩
theorem text_kind (k : Int) (t : List UInt8) (h : k = 1 ∨ k = 2 ∨ k = 3 ∨ k = 20) (ht : t ≠ []) : TokKind { kind := k, text := t } :=
  ⟨by dsimp only; omega, fun h' => absurd (by unfold isText; dsimp only; omega) h', fun _ => rfl, fun _ => rfl, fun _ => rfl, fun _ _ => ht⟩
theorem numeric_kind (l : List Int) (p : Nat) : TokKind (numericT l p) ∧ (numericT l p).kind ≠ 9 := by
  unfold numericT
  split
  rename_i bs q w _
  split
  · rename_i hb
    exact ⟨⟨by dsimp only; omega, fun h => absurd (by unfold isText; dsimp only; omega) h, fun h => absurd (by unfold isNum; dsimp only; omega) h, fun _ => rfl, fun _ => rfl, fun _ _ => begins_ne hb⟩, by dsimp only; omega⟩
  · split
    · exact ⟨⟨by dsimp only; omega, fun _ => rfl, fun h => absurd (by unfold isNum; dsimp only; omega) h, fun _ => rfl, fun _ => rfl, fun h => absurd h (by unfold isText; dsimp only; omega)⟩, by dsimp only; omega⟩
    · exact ⟨⟨by dsimp only; omega, fun _ => rfl, fun h => absurd (by unfold isNum; dsimp only; omega) h, fun h => absurd rfl h, fun _ => rfl, fun h => absurd h (by unfold isText; dsimp only; omega)⟩, by dsimp only; omega⟩
theorem sign_bd (c : Int) : sign c = 0 ∨ (11 ≤ sign c ∧ sign c ≤ 19) := by
  unfold sign
  (repeat' split) <;> omega
theorem whiteEnd_not (l : List Int) : ∀ (f p : Nat), l.length - p < f → white (see l (whiteEnd l f p)) = false
  | 0, p, h => by omega
  | f + 1, p, h => by
    unfold whiteEnd
    split
    · rename_i hw
      have := white_see hw
      exact whiteEnd_not l f (p + 1) (by omega)
    · rename_i hw
      simpa using hw
/-- One token, where no comment begins. -/
theorem next_kind {l : List Int} {p : Nat} (h0 : 0 ≤ see l p) : ∀ k ∈ (tokNext l p).1, TokKind k ∧ (k.kind = 9 → white (see l p) = true ∧ white (see l (tokNext l p).2) = false) := by
  have hp := see_lt h0
  intro k hk
  unfold tokNext at hk ⊢
  split at hk
  · simp at hk
  rename_i hc
  rw [if_neg hc]
  split at hk
  · rename_i hw
    obtain rfl := List.mem_singleton.1 hk
    rw [if_pos hw]
    exact ⟨plain_kind 9 0 (.inl rfl), fun _ => ⟨hw, whiteEnd_not l _ _ (by omega)⟩⟩
  rename_i hw
  rw [if_neg hw]
  split at hk
  · obtain rfl := List.mem_singleton.1 hk
    have := strRun_kind l (see l p) (l.length + 1) (p + 1) [] (by omega)
    exact ⟨this.1, fun h => by unfold strT at h; omega⟩
  rename_i h1
  rw [if_neg h1]
  split at hk
  · rename_i h2
    obtain rfl := List.mem_singleton.1 hk
    exact ⟨text_kind 3 _ (by omega) (name_ne h2.2), fun h => by cases h⟩
  rename_i h2
  rw [if_neg h2]
  split at hk
  · obtain rfl := List.mem_singleton.1 hk
    exact ⟨(numeric_kind l p).1, fun h => absurd h (numeric_kind l p).2⟩
  rename_i h3
  rw [if_neg h3]
  split at hk
  · rename_i h4
    obtain rfl := List.mem_singleton.1 hk
    exact ⟨text_kind 2 _ (by omega) (begins_ne h4.2), fun h => by cases h⟩
  rename_i h4
  rw [if_neg h4]
  split at hk
  · rename_i h5
    rw [if_pos h5]
    split at hk
    · obtain rfl := List.mem_singleton.1 hk
      exact ⟨text_kind 20 _ (by omega) (begins_ne h5), fun h => by cases h⟩
    · obtain rfl := List.mem_singleton.1 hk
      exact ⟨text_kind 1 _ (by omega) (begins_ne h5), fun h => by cases h⟩
  rename_i h5
  rw [if_neg h5]
  split at hk
  · rename_i h6
    obtain rfl := List.mem_singleton.1 hk
    have := sign_bd (see l p)
    exact ⟨plain_kind _ 0 (by omega), fun h => by dsimp only at h; omega⟩
  · obtain rfl := List.mem_singleton.1 hk
    exact ⟨⟨by dsimp only; omega, fun _ => rfl, fun _ => rfl, fun _ => rfl, fun h => absurd rfl h, fun h => absurd h (by unfold isText; dsimp only; omega)⟩, fun h => by cases h⟩
/-- No white behind white. -/
def NoWW (ts : List Tok) : Prop := ∀ i a b, ts[i]? = some a → ts[i + 1]? = some b → ¬ (a.kind = 9 ∧ b.kind = 9)
theorem tokRun_kind (l : List Int) : ∀ (f p : Nat) (ts : List Tok), (∀ k ∈ ts, TokKind k) → (∀ k ∈ tokRun l f p ts, TokKind k)
  | 0, p, ts, h => h
  | f + 1, p, ts, h => by
    unfold tokRun
    split
    · rename_i h0
      refine tokRun_kind l f _ _ (fun k hk => ?_)
      rcases List.mem_append.1 hk with hk | hk
      · exact h k hk
      · exact (next_kind h0 k hk).1
    · exact h
theorem tokens_kind (l : List Int) : ∀ k ∈ tokens l, TokKind k := tokRun_kind l _ _ _ (by simp)
theorem tokRun_ww {l : List Int} (hc : ∀ q, ¬ (see l q = 47 ∧ see l (q + 1) = 42)) : ∀ (f p : Nat) (ts : List Tok), NoWW ts → (∀ a, ts.getLast? = some a → a.kind = 9 → white (see l p) = false) → NoWW (tokRun l f p ts)
  | 0, p, ts, h, _ => h
  | f + 1, p, ts, h, hl => by
    unfold tokRun
    split
    · rename_i h0
      have hk := next_kind h0
      have hn := (tokNext_gt h0).2.2
      refine tokRun_ww hc f _ _ ?_ ?_
      · intro i a b ha hb hab
        rcases Nat.lt_or_ge (i + 1) ts.length with hi | hi
        · rw [List.getElem?_append_left (by omega)] at ha hb
          exact h i a b ha hb hab
        · rw [List.getElem?_append_right hi] at hb
          have hbm := List.mem_of_getElem? hb
          have hi2 : i + 1 - ts.length = 0 := by
            have := (List.getElem?_eq_some_iff.1 hb).1
            omega
          rw [List.getElem?_append_left (by omega)] at ha
          have hw := hl a (by rw [List.getLast?_eq_getElem?, show ts.length - 1 = i by omega]; exact ha) hab.1
          have := ((hk b hbm).2 hab.2).1
          rw [hw] at this
          cases this
      · intro a ha h9
        cases hu : (tokNext l p).1 with
        | nil =>
          exfalso
          have hcm := hc p
          unfold tokNext at hu
          rw [if_neg hcm] at hu
          (repeat' split at hu) <;> simp at hu
        | cons u us =>
          rw [hu] at ha hn
          have : us = [] := by
            cases us with
            | nil => rfl
            | cons _ _ => simp at hn
          subst this
          rw [List.getLast?_concat] at ha
          cases ha
          exact ((hk _ (by rw [hu]; simp)).2 h9).2
    · exact h
theorem tokens_ww {l : List Int} (hc : ∀ q, ¬ (see l q = 47 ∧ see l (q + 1) = 42)) : NoWW (tokens l) :=
  tokRun_ww hc _ _ _ (fun i a b ha => by simp at ha) (fun a ha => by simp at ha)
end Go.Proofs.Ytdfiegleaknleaa.Aw
