/- Plain laws of tokens: comments, parts of a text, how many tokens there are. -/
import Derived.Test.YtdfiegleaknleaaXkS
import Derived.Test.YtdfiegleaknleaaXkP
namespace Go.Proofs.Ytdfiegleaknleaa.Aw
open Go Go.RowKit Go.Lib
set_option linter.unusedVariables false
set_option linter.unusedSimpArgs false
set_option linter.unusedSectionVars false
/-! Code points of a text in two parts, whose second part begins with a byte of ASCII. -/
theorem bAt_app {X Y : List UInt8} {i : Nat} (h : i < X.length) : bAt (X ++ Y) i = bAt X i := by
  unfold bAt
  rw [List.getD_eq_getElem?_getD, List.getElem?_append_left h, List.getD_eq_getElem?_getD]
theorem bAt_seam {X Y : List UInt8} {c : UInt8} (hc : c.toNat < 128) : bAt (X ++ c :: Y) X.length < 128 := by
  unfold bAt
  rw [List.getD_eq_getElem?_getD, List.getElem?_append_right (Nat.le_refl _), Nat.sub_self]
  simp
  omega
theorem bAt_conts {X Y : List UInt8} {c : UInt8} (hc : c.toNat < 128) (h1 : 1 ≤ X.length) :
    bAt (X ++ c :: Y) 0 = bAt X 0 ∧ (bAt (X ++ c :: Y) 1 = bAt X 1 ∨ bAt (X ++ c :: Y) 1 < 128 ∧ bAt X 1 < 128) ∧
    ((bAt (X ++ c :: Y) 1 < 128 ∧ bAt X 1 < 128) ∨ bAt (X ++ c :: Y) 1 = bAt X 1 ∧ (bAt (X ++ c :: Y) 2 = bAt X 2 ∨ bAt (X ++ c :: Y) 2 < 128 ∧ bAt X 2 < 128)) ∧
    ((bAt (X ++ c :: Y) 1 < 128 ∧ bAt X 1 < 128) ∨ (bAt (X ++ c :: Y) 2 < 128 ∧ bAt X 2 < 128) ∨ bAt (X ++ c :: Y) 2 = bAt X 2 ∧ (bAt (X ++ c :: Y) 3 = bAt X 3 ∨ bAt (X ++ c :: Y) 3 < 128 ∧ bAt X 3 < 128)) := by
  have hs := bAt_seam (X := X) (Y := Y) hc
  have ho := bAt_out (bs := X) (i := X.length) (Nat.le_refl _)
  rcases Nat.lt_or_ge 3 X.length with h | h
  · have e0 := bAt_app (Y := c :: Y) (X := X) (i := 0) (by omega)
    have e1 := bAt_app (Y := c :: Y) (X := X) (i := 1) (by omega)
    have e2 := bAt_app (Y := c :: Y) (X := X) (i := 2) (by omega)
    have e3 := bAt_app (Y := c :: Y) (X := X) (i := 3) (by omega)
    omega
  · have : X.length = 1 ∨ X.length = 2 ∨ X.length = 3 := by omega
    rcases this with e | e | e
    · rw [e] at hs ho
      have e0 := bAt_app (Y := c :: Y) (X := X) (i := 0) (by omega)
      omega
    · rw [e] at hs ho
      have e0 := bAt_app (Y := c :: Y) (X := X) (i := 0) (by omega)
      have e1 := bAt_app (Y := c :: Y) (X := X) (i := 1) (by omega)
      omega
    · rw [e] at hs ho
      have e0 := bAt_app (Y := c :: Y) (X := X) (i := 0) (by omega)
      have e1 := bAt_app (Y := c :: Y) (X := X) (i := 1) (by omega)
      have e2 := bAt_app (Y := c :: Y) (X := X) (i := 2) (by omega)
      omega
theorem pointV_app {X Y : List UInt8} {c : UInt8} (hc : c.toNat < 128) (h1 : 1 ≤ X.length) : pointV (X ++ c :: Y) = pointV X := by
  obtain ⟨e0, e1, e2, e3⟩ := bAt_conts (Y := Y) hc h1
  unfold pointV
  rw [pointK2, pointK3, pointK4, pointK2, pointK3, pointK4, e0]
  generalize bAt (X ++ c :: Y) 1 = y1 at *
  generalize bAt (X ++ c :: Y) 2 = y2 at *
  generalize bAt (X ++ c :: Y) 3 = y3 at *
  generalize bAt X 1 = x1 at *
  generalize bAt X 2 = x2 at *
  generalize bAt X 3 = x3 at *
  generalize bAt X 0 = x0 at *
  split
  · rfl
  split
  · rcases e1 with rfl | e1
    · rfl
    · rw [if_neg (by omega), if_neg (by omega)]
  split
  · rcases e2 with e2 | ⟨rfl, rfl | e2⟩
    · rw [if_neg (by omega), if_neg (by omega)]
    · rfl
    · rw [if_neg (by omega), if_neg (by omega)]
  split
  · rcases e1 with rfl | e1
    · rcases e2 with e2 | ⟨_, rfl | e2⟩
      · rw [if_neg (by omega), if_neg (by omega)]
      · rcases e3 with e3 | e3 | ⟨_, rfl | e3⟩
        · rw [if_neg (by omega), if_neg (by omega)]
        · rw [if_neg (by omega), if_neg (by omega)]
        · rfl
        · rw [if_neg (by omega), if_neg (by omega)]
      · rw [if_neg (by omega), if_neg (by omega)]
    · rw [if_neg (by omega), if_neg (by omega)]
  · rfl
theorem ptsRun_acc (bs : List UInt8) : ∀ (f i : Nat) (out : List Int), ptsRun bs f i out = out ++ ptsRun bs f i []
  | 0, i, out => by simp [ptsRun]
  | f + 1, i, out => by
    unfold ptsRun
    split
    · rw [ptsRun_acc bs f _ (out ++ _), ptsRun_acc bs f _ ([] ++ _)]
      simp
    · simp
theorem ptsRun_shift (X Y : List UInt8) : ∀ (f i : Nat) (out : List Int), ptsRun (X ++ Y) f (X.length + i) out = ptsRun Y f i out
  | 0, i, out => rfl
  | f + 1, i, out => by
    unfold ptsRun
    have e : (X ++ Y).drop (X.length + i) = Y.drop i := by rw [List.drop_append, List.drop_eq_nil_of_le (by omega)]; simp
    rw [e]
    by_cases h : i < Y.length
    · rw [if_pos (by simp; omega), if_pos h, Nat.add_assoc]
      exact ptsRun_shift X Y f _ _
    · rw [if_neg (by simp; omega), if_neg h]
theorem ptsRun_app {X Y : List UInt8} {c : UInt8} (hc : c.toNat < 128) (m : Nat) : ∀ (i : Nat) (f : Nat) (out : List Int), X.length - i ≤ m → i ≤ X.length → (X ++ c :: Y).length - i < f → ptsRun (X ++ c :: Y) f i out = ptsRun X (X.length - i + 1) i out ++ points (c :: Y) := by
  have done : ∀ (f : Nat) (out : List Int), (X ++ c :: Y).length - X.length < f → ptsRun (X ++ c :: Y) f X.length out = ptsRun X (X.length - X.length + 1) X.length out ++ points (c :: Y) := fun f out hf => by
    have := ptsRun_shift X (c :: Y) f 0 out
    rw [Nat.add_zero] at this
    rw [this, ptsRun_acc]
    have e : ptsRun X (X.length - X.length + 1) X.length out = out := by rw [ptsRun, if_neg (Nat.lt_irrefl _)]
    rw [e]
    exact congrArg (fun z => out ++ z) (ptsRun_fuel _ _ _ _ _ (by rw [List.length_append] at hf; omega) (by omega))
  induction m with
  | zero =>
    intro i f out hm hi hf
    obtain rfl : i = X.length := by omega
    exact done f out hf
  | succ m ih =>
    intro i f out hm hi hf
    by_cases h0 : i = X.length
    · subst h0
      exact done f out hf
    have hlt : i < X.length := by omega
    have hl : (X ++ c :: Y).length = X.length + (c :: Y).length := List.length_append
    obtain ⟨h1, h2⟩ := pointV_drop hlt
    have e : pointV ((X ++ c :: Y).drop i) = pointV (X.drop i) := by
      rw [List.drop_append_of_le_length hi]
      exact pointV_app hc (by rw [List.length_drop]; omega)
    obtain ⟨g, rfl⟩ : ∃ g, f = g + 1 := ⟨f - 1, by omega⟩
    have e2 : ptsRun X (X.length - i + 1) i out = ptsRun X (X.length - (i + (pointV (X.drop i)).2) + 1) (i + (pointV (X.drop i)).2) (out ++ [(pointV (X.drop i)).1]) := by
      rw [ptsRun, if_pos hlt]
      exact ptsRun_fuel _ _ _ _ _ (by omega) (by omega)
    rw [e2, ptsRun, if_pos (by omega), e]
    exact ih _ _ _ (by omega) h2 (by omega)
theorem points_app {X Y : List UInt8} {c : UInt8} (hc : c.toNat < 128) : points (X ++ c :: Y) = points X ++ points (c :: Y) := by
  have := ptsRun_app (X := X) (Y := Y) hc X.length 0 ((X ++ c :: Y).length + 1) [] (by omega) (by omega) (by omega)
  exact this
theorem points_nil : points [] = [] := rfl
theorem points_cons {Y : List UInt8} {c : UInt8} (hc : c.toNat < 128) : points (c :: Y) = (c.toNat : Int) :: points Y := by
  have e : pointV (c :: Y) = ((c.toNat : Int), 1) := by
    have : bAt (c :: Y) 0 = c.toNat := rfl
    unfold pointV
    rw [this, if_pos (by omega)]
  unfold points
  rw [ptsRun, if_pos (by simp), List.drop_zero, e, ptsRun_acc]
  have := ptsRun_shift [c] Y ((c :: Y).length) 0 []
  show _ = [_] ++ _
  congr 1
theorem prep_app : ∀ (A B : List Int) (c : Int), c ≠ 10 → prep (A ++ c :: B) = prep A ++ prep (c :: B)
  | [], B, c, h => rfl
  | x :: A, B, c, h => by
    have ih := prep_app A B c h
    have e : (x = 13 ∧ (A ++ c :: B).head? = some 10) = (x = 13 ∧ A.head? = some 10) := by
      cases A with
      | nil => simp [h]
      | cons y A => rfl
    rw [List.cons_append, prep, ih]
    conv => rhs; rw [prep]
    simp only [e]
    split
    · rfl
    split
    · rfl
    split <;> rfl
theorem prep_cons {c : Int} {B : List Int} (hc : c ≠ 13 ∧ c ≠ 12 ∧ c ≠ 0) : prep (c :: B) = c :: prep B := by
  rw [prep, if_neg (fun h => hc.1 h.1), if_neg (by omega), if_neg hc.2.2]
theorem prepare_app {X Y : List UInt8} {c : UInt8} (hc : c.toNat < 128) (h10 : c.toNat ≠ 10) : prepare (X ++ c :: Y) = prepare X ++ prepare (c :: Y) := by
  unfold prepare
  rw [points_app hc, points_cons hc, prep_app _ _ _ (by omega)]
theorem prepare_cons {Y : List UInt8} {c : UInt8} (hc : c.toNat < 128) (h : c.toNat ≠ 13 ∧ c.toNat ≠ 12 ∧ c.toNat ≠ 0) : prepare (c :: Y) = (c.toNat : Int) :: prepare Y := by
  unfold prepare
  rw [points_cons hc, prep_cons (by omega)]
/-- What is below 128 among the points is a byte of the text. -/
theorem pointV_low {bs : List UInt8} (h : (pointV bs).1 < 128) : (pointV bs).1 = bAt bs 0 := by
  unfold pointV at *
  split
  · rfl
  · rename_i h0
    rw [if_neg h0] at h
    exfalso
    revert h
    rw [pointK2, pointK3, pointK4]
    repeat' split
    all_goals (intro h; dsimp only at h; first | omega | (rename_i h2 h3; revert h2; intro h2; omega))
theorem mem_ptsRun {bs : List UInt8} {c : Int} (h : c < 128) : ∀ (f i : Nat) (out : List Int), c ∈ ptsRun bs f i out → c ∈ out ∨ ∃ b ∈ bs, (b.toNat : Int) = c
  | 0, i, out, hm => .inl hm
  | f + 1, i, out, hm => by
    unfold ptsRun at hm
    split at hm
    · rename_i hi
      rcases mem_ptsRun h f _ _ hm with h1 | h1
      · rcases List.mem_append.1 h1 with h1 | h1
        · exact .inl h1
        · have h1 : c = (pointV (bs.drop i)).1 := List.mem_singleton.1 h1
          have h2 : (pointV (bs.drop i)).1 < 128 := by rw [← h1]; exact h
          rw [h1, pointV_low h2]
          refine .inr ⟨bs[i], List.getElem_mem hi, ?_⟩
          unfold bAt
          rw [List.getD_eq_getElem?_getD, List.getElem?_drop, Nat.add_zero, List.getElem?_eq_getElem hi]
          rfl
      · exact .inr h1
    · exact .inl hm
theorem mem_prep {c : Int} : ∀ (l : List Int), c ∈ prep l → c = 10 ∨ c = 65533 ∨ c ∈ l
  | [], h => by simp [prep] at h
  | x :: r, h => by
    have ih := mem_prep (c := c) r
    unfold prep at h
    simp only [List.mem_cons]
    split at h
    · rcases ih h with h | h | h <;> simp [h]
    split at h
    · rcases List.mem_cons.1 h with h | h
      · exact .inl h
      · rcases ih h with h | h | h <;> simp [h]
    split at h
    · rcases List.mem_cons.1 h with h | h
      · exact .inr (.inl h)
      · rcases ih h with h | h | h <;> simp [h]
    · rcases List.mem_cons.1 h with h | h
      · exact .inr (.inr (.inl h))
      · rcases ih h with h | h | h <;> simp [h]
theorem mem_prepare {bs : List UInt8} {c : Int} (h : c ∈ prepare bs) (hc : c < 128) (h10 : c ≠ 10) : ∃ b ∈ bs, (b.toNat : Int) = c := by
  rcases mem_prep _ h with h | h | h
  · exact absurd h h10
  · omega
  · rcases mem_ptsRun hc _ _ _ h with h | h
    · simp at h
    · exact h
/-- There are no more tokens than code points. -/
theorem tokRun_len (l : List Int) : ∀ (f p : Nat) (ts : List Tok), ts.length ≤ p → ts.length ≤ l.length → (tokRun l f p ts).length ≤ l.length
  | 0, p, ts, h, h2 => h2
  | f + 1, p, ts, h, h2 => by
    unfold tokRun
    split
    · rename_i hs
      have h3 := tokNext_gt hs
      have := see_lt hs
      refine tokRun_len l f _ _ ?_ ?_ <;> rw [List.length_append] <;> omega
    · exact h2
theorem tokens_len (l : List Int) : (tokens l).length ≤ l.length := tokRun_len l _ _ _ (Nat.le_refl _) (Nat.zero_le _)
/-! Comments. -/
theorem comment_run {l : List Int} (B r : List Int) : ∀ (m p f : Nat), B.length = m → l.drop p = B ++ r → (∀ c ∈ B, c ≠ 42) → (r = [] ∨ ∃ r', r = 42 :: 47 :: r') → m < f → commentEnd l f p = p + m := by
  induction B generalizing l with
  | nil =>
    intro m p f hm hd _ hr hf
    subst hm
    match f, hf with
    | f + 1, _ =>
      unfold commentEnd
      rcases hr with rfl | ⟨r', rfl⟩
      · rw [if_neg (fun h => by rw [see_end hd] at h; omega)]; rfl
      · obtain ⟨e1, e2, _⟩ := see_cons hd (by decide)
        obtain ⟨e3, _, _⟩ := see_cons e2 (by decide)
        rw [if_neg (fun h => by rw [e1, e3] at h; rcases h.2 with h | h <;> exact h rfl)]
        rfl
  | cons c B ih =>
    intro m p f hm hd hB hr hf
    subst hm
    have hp : p < l.length := by
      rcases Nat.lt_or_ge p l.length with h | h
      · exact h
      · rw [List.drop_eq_nil_of_le h] at hd; simp at hd
    have hg : l[p] = c ∧ l.drop (p + 1) = B ++ r := by
      rw [List.drop_eq_getElem_cons hp, List.cons_append] at hd
      exact List.cons.inj hd
    have hs : 0 ≤ see l p ∧ see l p ≠ 42 := by
      have h1 := hB c (by simp)
      unfold see
      rw [List.getElem?_eq_getElem hp, hg.1]
      dsimp only
      split
      · exact ⟨(right_le (by assumption)).1, h1⟩
      · decide
    match f, hf with
    | f + 1, hf =>
      unfold commentEnd
      rw [if_pos ⟨hs.1, .inl hs.2⟩, ih B.length (p + 1) f rfl hg.2 (fun x hx => hB x (by simp [hx])) hr (by simp at hf; omega)]
      simp
      omega
/-- A comment is nothing. -/
theorem comment_toks {l B r : List Int} (hl : l = 47 :: 42 :: (B ++ r)) (hB : ∀ c ∈ B, c ≠ 42) (hr : r = [] ∨ ∃ r', r = 42 :: 47 :: r') : tokNext l 0 = ([], 2 + B.length + 2) := by
  subst hl
  obtain ⟨e1, e2, _⟩ := see_cons (l := 47 :: 42 :: (B ++ r)) (p := 0) (c := 47) (r := 42 :: (B ++ r)) rfl (by decide)
  obtain ⟨e3, e4, _⟩ := see_cons e2 (by decide)
  unfold tokNext
  rw [if_pos ⟨e1, e3⟩]
  have := comment_run (l := 47 :: 42 :: (B ++ r)) B r B.length 2 ((47 :: 42 :: (B ++ r)).length + 1) rfl rfl hB hr (by simp; omega)
  rw [show 0 + 2 = 2 from rfl, this]
theorem tokens_open {B : List Int} (hB : ∀ c ∈ B, c ≠ 42) : tokens (47 :: 42 :: B) = [] := by
  have h := comment_toks (l := 47 :: 42 :: B) (B := B) (r := []) (by simp) hB (.inl rfl)
  obtain ⟨e1, _, _⟩ := see_cons (l := 47 :: 42 :: B) (p := 0) (c := 47) (r := 42 :: B) rfl (by decide)
  unfold tokens
  rw [tokRun, if_pos (by rw [e1]; decide), h]
  rw [show (47 :: 42 :: B).length = (B.length + 1) + 1 from rfl, tokRun, see_none (by simp), if_neg (by decide)]
  rfl
theorem tokens_closed {B R : List Int} (hB : ∀ c ∈ B, c ≠ 42) : tokens (47 :: 42 :: (B ++ 42 :: 47 :: R)) = tokens R := by
  have h := comment_toks (l := 47 :: 42 :: (B ++ 42 :: 47 :: R)) (B := B) (r := 42 :: 47 :: R) rfl hB (.inr ⟨R, rfl⟩)
  obtain ⟨e1, _, _⟩ := see_cons (l := 47 :: 42 :: (B ++ 42 :: 47 :: R)) (p := 0) (c := 47) (r := 42 :: (B ++ 42 :: 47 :: R)) rfl (by decide)
  have hx : 47 :: 42 :: (B ++ 42 :: 47 :: R) = (47 :: 42 :: (B ++ [42, 47])) ++ R := by simp
  have ht : Toks ((47 :: 42 :: (B ++ [42, 47])) ++ R) 0 (47 :: 42 :: (B ++ [42, 47])).length [] := by
    rw [← hx]
    refine Toks.one (by rw [e1]; decide) (h.trans ?_)
    rw [show (47 :: 42 :: (B ++ [42, 47])).length = 2 + B.length + 2 by simp; omega]
  rw [hx, tokens_app ht]
  rfl
/-- White, then something else. -/
theorem tokens_white {R : List Int} (hR : ∀ c r, R = c :: r → c ≠ 9 ∧ c ≠ 10 ∧ c ≠ 32) : tokens (32 :: R) = { kind := 9 } :: tokens R := by
  obtain ⟨e1, e2, _⟩ := see_cons (l := 32 :: R) (p := 0) (c := 32) (r := R) rfl (by decide)
  have hw : white (see (32 :: R) 1) = false := by
    match R with
    | [] => rw [see_none (by simp)]; rfl
    | c :: r =>
      have := hR c r rfl
      unfold see
      simp only [List.getElem?_cons_succ, List.getElem?_cons_zero]
      split
      · unfold white; simp; omega
      · rfl
  have hn : tokNext (32 :: R) 0 = ([{ kind := 9 }], 1) := by
    unfold tokNext
    rw [if_neg (fun h => by rw [e1] at h; omega), if_pos (by rw [e1]; rfl)]
    congr 1
    unfold whiteEnd
    rw [if_pos (by rw [e1]; rfl)]
    unfold whiteEnd
    cases hl : (32 :: R).length with
    | zero => simp at hl
    | succ n => simp only; rw [if_neg (by rw [hw]; decide)]
  have ht : Toks ([32] ++ R) 0 [32].length [{ kind := 9 }] := Toks.one (by show 0 ≤ see (32 :: R) 0; rw [e1]; decide) hn
  exact tokens_app ht
theorem tokens_semi {R : List Int} : tokens (59 :: R) = { kind := 12 } :: tokens R := by
  obtain ⟨e1, e2, _⟩ := see_cons (l := 59 :: R) (p := 0) (c := 59) (r := R) rfl (by decide)
  have hn : tokNext (59 :: R) 0 = ([{ kind := 12 }], 1) := by
    unfold tokNext
    rw [e1, if_neg (fun h => by omega), if_neg (by decide), if_neg (by decide), if_neg (fun h => by omega), if_neg (by rw [number_at e1 rfl (by decide)]; decide), if_neg (fun h => by omega), if_neg (by rw [begins_at' e1 rfl (by decide)]; decide), if_pos (by decide)]
    rfl
  have ht : Toks ([59] ++ R) 0 [59].length [{ kind := 12 }] := Toks.one (by show 0 ≤ see (59 :: R) 0; rw [e1]; decide) hn
  exact tokens_app ht
/-! The laws of comments and of parts. -/
theorem law_rest (b : List UInt8) (hb : ∀ c ∈ b, c.toNat ≠ 42 ∧ c.toNat ≠ 47) : tokens (prepare ([47, 42] ++ b ++ [42, 47])) = [] := by
  have e : prepare ([47, 42] ++ b ++ [42, 47]) = 47 :: 42 :: (prepare b ++ 42 :: 47 :: []) := by
    rw [List.append_assoc]
    show prepare (47 :: 42 :: (b ++ 42 :: [47])) = _
    rw [prepare_cons (by decide) (by decide), prepare_cons (by decide) (by decide), prepare_app (by decide) (by decide), prepare_cons (by decide) (by decide), prepare_cons (by decide) (by decide)]
    rfl
  rw [e, tokens_closed]
  · rfl
  · intro c hc e
    subst e
    obtain ⟨x, hx, e⟩ := mem_prepare hc (by decide) (by decide)
    have := hb x hx
    omega
theorem seamA {a : List UInt8} (ha : ∀ c ∈ a, c.toNat ≠ 92 ∧ c.toNat ≠ 34 ∧ c.toNat ≠ 39 ∧ c.toNat ≠ 47) : ∀ c ∈ prepare a, c ≠ 92 ∧ c ≠ 34 ∧ c ≠ 39 ∧ c ≠ 47 := by
  intro c hc
  refine ⟨?_, ?_, ?_, ?_⟩ <;> (intro e; subst e; obtain ⟨x, hx, e⟩ := mem_prepare hc (by decide) (by decide); have := ha x hx; omega)
theorem notStar {b : List UInt8} (hb : ∀ c ∈ b, c.toNat ≠ 42 ∧ c.toNat ≠ 47) : ∀ c ∈ prepare b, c ≠ 42 := by
  intro c hc e
  subst e
  obtain ⟨x, hx, e⟩ := mem_prepare hc (by decide) (by decide)
  have := hb x hx
  omega
theorem law_open (a b : List UInt8) (ha : ∀ c ∈ a, c.toNat ≠ 92 ∧ c.toNat ≠ 34 ∧ c.toNat ≠ 39 ∧ c.toNat ≠ 47) (hb : ∀ c ∈ b, c.toNat ≠ 42 ∧ c.toNat ≠ 47) : tokens (prepare (a ++ [47, 42] ++ b)) = tokens (prepare a) := by
  have e : prepare (a ++ [47, 42] ++ b) = prepare a ++ 47 :: 42 :: prepare b := by
    rw [List.append_assoc]
    show prepare (a ++ 47 :: 42 :: b) = _
    rw [prepare_app (by decide) (by decide), prepare_cons (by decide) (by decide), prepare_cons (by decide) (by decide)]
    rfl
  rw [e, tokens_seam (seamA ha) (.inr ⟨_, _, rfl, .inl rfl⟩), tokens_open (notStar hb), List.append_nil]
theorem law_all (a b : List UInt8) (ha : ∀ c ∈ a, c.toNat ≠ 92 ∧ c.toNat ≠ 34 ∧ c.toNat ≠ 39 ∧ c.toNat ≠ 47) (hb : ∀ c ∈ b, c.toNat ≠ 42 ∧ c.toNat ≠ 47) : tokens (prepare (a ++ [47, 42] ++ b ++ [42, 47, 32])) = tokens (prepare a) ++ [{ kind := 9 }] := by
  have e : prepare (a ++ [47, 42] ++ b ++ [42, 47, 32]) = prepare a ++ 47 :: 42 :: (prepare b ++ 42 :: 47 :: [32]) := by
    rw [List.append_assoc, List.append_assoc]
    show prepare (a ++ 47 :: 42 :: (b ++ 42 :: [47, 32])) = _
    rw [prepare_app (by decide) (by decide), prepare_cons (by decide) (by decide), prepare_cons (by decide) (by decide), prepare_app (by decide) (by decide), prepare_cons (by decide) (by decide), prepare_cons (by decide) (by decide), prepare_cons (by decide) (by decide)]
    rfl
  rw [e, tokens_seam (seamA ha) (.inr ⟨_, _, rfl, .inl rfl⟩), tokens_closed (notStar hb), tokens_white (by simp)]
  rfl
theorem law_semi (a : List UInt8) (ha : ∀ c ∈ a, c.toNat ≠ 92 ∧ c.toNat ≠ 34 ∧ c.toNat ≠ 39 ∧ c.toNat ≠ 47) : tokens (prepare (a ++ [59])) = tokens (prepare a) ++ [{ kind := 12 }] := by
  have e : prepare (a ++ [59]) = prepare a ++ 59 :: [] := by
    rw [prepare_app (by decide) (by decide), prepare_cons (by decide) (by decide)]
    rfl
  rw [e, tokens_seam (seamA ha) (.inr ⟨_, _, rfl, .inr rfl⟩), tokens_semi]
  rfl
theorem prepare_head {b : List UInt8} (hb : ∀ x r, b = x :: r → x.toNat ≠ 10 ∧ x.toNat ≠ 13 ∧ x.toNat ≠ 12 ∧ x.toNat ≠ 9 ∧ x.toNat ≠ 32) : ∀ c r, prepare b = c :: r → c ≠ 9 ∧ c ≠ 10 ∧ c ≠ 32 := by
  intro c r h
  cases b with
  | nil => rw [show prepare [] = [] from rfl] at h; cases h
  | cons x q =>
    have hx := hb x q rfl
    by_cases h0 : x.toNat < 128
    · have : prepare (x :: q) = (if x.toNat = 0 then 65533 else (x.toNat : Int)) :: prepare q := by
        unfold prepare
        rw [points_cons h0, prep, if_neg (by omega), if_neg (by omega)]
        split <;> split <;> first | rfl | omega
      rw [this] at h
      cases h
      split <;> omega
    · have hv : 128 ≤ (pointV (x :: q)).1 := by
        rcases Int.lt_or_le (pointV (x :: q)).1 128 with h1 | h1
        · have := pointV_low h1
          have e : bAt (x :: q) 0 = x.toNat := rfl
          omega
        · exact h1
      have : ∃ r', points (x :: q) = (pointV (x :: q)).1 :: r' := by
        refine ⟨ptsRun (x :: q) (x :: q).length (0 + (pointV (x :: q)).2) [], ?_⟩
        unfold points
        rw [ptsRun, if_pos (c := 0 < (x :: q).length) (by simp), List.drop_zero, ptsRun_acc, List.nil_append, List.singleton_append]
      obtain ⟨r', e⟩ := this
      unfold prepare at h
      rw [e, prep_cons (by omega)] at h
      have := (List.cons.inj h).1
      omega
theorem law_parts (a b : List UInt8) (ha : ∀ c ∈ a, c.toNat ≠ 92 ∧ c.toNat ≠ 34 ∧ c.toNat ≠ 39 ∧ c.toNat ≠ 47) (hb : ∀ x r, b = x :: r → x.toNat ≠ 10 ∧ x.toNat ≠ 13 ∧ x.toNat ≠ 12 ∧ x.toNat ≠ 9 ∧ x.toNat ≠ 32) :
    tokens (prepare (a ++ [59, 32] ++ b)) = tokens (prepare (a ++ [59])) ++ [{ kind := 9 }] ++ tokens (prepare b) := by
  have e : prepare (a ++ [59, 32] ++ b) = prepare a ++ 59 :: 32 :: prepare b := by
    rw [List.append_assoc]
    show prepare (a ++ 59 :: 32 :: b) = _
    rw [prepare_app (by decide) (by decide), prepare_cons (by decide) (by decide), prepare_cons (by decide) (by decide)]
    rfl
  rw [e, law_semi a ha, tokens_seam (seamA ha) (.inr ⟨_, _, rfl, .inr rfl⟩), tokens_semi, tokens_white (prepare_head hb)]
  simp
end Go.Proofs.Ytdfiegleaknleaa.Aw
