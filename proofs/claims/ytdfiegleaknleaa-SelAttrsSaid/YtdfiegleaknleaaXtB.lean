/- SelDeep: the text, its tokens, and how they are read. -/
import Derived.Test.YtdfiegleaknleaaXtA
namespace Go.Proofs.Ytdfiegleaknleaa.Aw
open Go Go.RowKit Go.Lib
set_option linter.unusedVariables false
set_option linter.unusedSimpArgs false
def wL (b : Bool) : List UInt8 := if b then [58, 105, 115, 40, 32] else [58, 110, 111, 116, 40]
def wB (b : Bool) : ByteArray := if b then ⟨#[58, 105, 115, 40, 32]⟩ else ⟨#[58, 110, 111, 116, 40]⟩
/-- The text, the outermost first. -/
def deepB : List Bool → ByteArray
  | [] => ⟨#[97]⟩
  | b :: bl => (wB b ++ deepB bl) ++ ⟨#[41]⟩
def deepL : List Bool → List UInt8
  | [] => [97]
  | b :: bl => wL b ++ (deepL bl ++ [41])
theorem app_toList (a b : ByteArray) : (a ++ b).data.toList = a.data.toList ++ b.data.toList := by
  rw [ByteArray.data_append]
  simp
theorem deepB_toList : ∀ bl, (deepB bl).data.toList = deepL bl
  | [] => rfl
  | b :: bl => by
    unfold deepB deepL
    rw [app_toList, app_toList, deepB_toList bl, List.append_assoc]
    cases b <;> rfl
theorem deepL_len : ∀ bl, (deepL bl).length = 1 + 6 * bl.length
  | [] => rfl
  | b :: bl => by
    have := deepL_len bl
    unfold deepL
    cases b <;> simp [wL, this] <;> omega
theorem deepB_size (bl : List Bool) : (deepB bl).size = 1 + 6 * bl.length := by
  rw [← deepL_len, ← deepB_toList]
  rfl
theorem deepL_ascii : ∀ bl, ∀ b ∈ deepL bl, b.toNat < 128 ∧ b.toNat ≠ 13 ∧ b.toNat ≠ 12 ∧ b.toNat ≠ 0
  | [], b, h => by
    simp [deepL] at h
    subst h
    decide
  | c :: bl, b, h => by
    unfold deepL at h
    simp only [List.mem_append] at h
    rcases h with h | h | h
    · have : ∀ x ∈ wL c, x.toNat < 128 ∧ x.toNat ≠ 13 ∧ x.toNat ≠ 12 ∧ x.toNat ≠ 0 := by cases c <;> decide
      exact this b h
    · exact deepL_ascii bl b h
    · simp at h
      subst h
      decide
def wT (b : Bool) : List Tok := if b then [{ kind := 11 }, { kind := 20, text := isB }, { kind := 9 }] else [{ kind := 11 }, { kind := 20, text := notB }]
def tEnd : Tok := { kind := 17 }
def tA : Tok := { kind := 1, text := [97] }
def deepT : List Bool → List Tok
  | [] => [tA]
  | b :: bl => wT b ++ (deepT bl ++ [tEnd])
theorem ints_append (a b : List UInt8) : ints (a ++ b) = ints a ++ ints b := by simp [ints]
theorem deepL_head (bl : List Bool) : ∃ c r, ints (deepL bl) = c :: r ∧ (c = 58 ∨ c = 97) := by
  cases bl with
  | nil => exact ⟨97, [], rfl, .inr rfl⟩
  | cons b bl => cases b <;> exact ⟨58, _, rfl, .inl rfl⟩
theorem deep_toks {l : List Int} : ∀ (bl : List Bool) (p : Nat) (r : List Int), l.drop p = ints (deepL bl) ++ r → (r = [] ∨ ∃ r', r = 41 :: r') → Toks l p (p + (deepL bl).length) (deepT bl)
  | [], p, r, h, hr => by
    have h' : l.drop p = [97] ++ r := h
    have hs : Stops r := by
      rcases hr with rfl | ⟨r', rfl⟩
      · trivial
      · exact ⟨by omega, by omega, by decide, by omega⟩
    have ht := tok_name (c := 97) (cs := []) h' (by omega) (fun x hx => by simp at hx; subst hx; exact ⟨by decide, by omega, by omega⟩) hs
    obtain ⟨e, hd, _⟩ := see_cons (c := 97) (r := r) h' (by omega)
    have h40 : see l (p + 1) ≠ 40 := by
      rcases hr with rfl | ⟨r', rfl⟩
      · rw [see_end hd]; omega
      · rw [(see_cons hd (by omega)).1]; omega
    rw [if_neg (show ¬ see l (p + ([97] : List Int).length) = 40 from h40)] at ht
    exact Toks.one (by rw [e]; omega) ht
  | b :: bl, p, r, h, hr => by
    have hL : ints (deepL (b :: bl)) = ints (wL b) ++ (ints (deepL bl) ++ 41 :: []) := by
      show ints (wL b ++ (deepL bl ++ [41])) = _
      rw [ints_append, ints_append]
      rfl
    rw [hL, List.append_assoc, List.append_assoc] at h
    obtain ⟨hc, hr0, hh, hh2⟩ := deepL_head bl
    have hlen := deepL_len bl
    have key : ∀ (cs : List Int) (m : Nat), l.drop p = 58 :: (cs ++ 40 :: (l.drop (p + m))) → cs.length + 2 = m → (∃ c0 c1, cs = c0 :: c1 ∧ 97 ≤ c0 ∧ c0 ≤ 122) → (∀ x ∈ cs, namePoint x = true ∧ 0 ≤ x ∧ x < 128) → Toks l p (p + m) [{ kind := 11 }, { kind := 20, text := cs.map b8 }] := by
      intro cs m h1 hm hcs hx
      obtain ⟨c0, c1, rfl, hc0⟩ := hcs
      obtain ⟨e0, hd0, _⟩ := see_cons h1 (by omega)
      have t1 := Toks.one (by rw [e0]; omega) (tok_sign h1 (.inl rfl))
      have hs : Stops (40 :: l.drop (p + m)) := ⟨by omega, by omega, by decide, by omega⟩
      have t2 := tok_name hd0 hc0 hx hs
      obtain ⟨e1, _, _⟩ := see_cons (c := c0) (by simpa using hd0) (by omega)
      have h40 : see l (p + 1 + (c0 :: c1).length) = 40 := by
        have : l.drop (p + 1 + (c0 :: c1).length) = 40 :: l.drop (p + m) := by
          rw [← List.drop_drop, hd0]
          simp
        exact (see_cons this (by omega)).1
      rw [if_pos h40] at t2
      have t3 := Toks.one (by rw [e1]; omega) t2
      have := t1.trans t3
      rw [show p + 1 + (c0 :: c1).length + 1 = p + m by simp at hm ⊢; omega] at this
      exact this
    have rest : ∀ p', l.drop p' = ints (deepL bl) ++ (41 :: r) → Toks l p' (p' + (deepL bl).length + 1) (deepT bl ++ [tEnd]) := by
      intro p' hp'
      have t1 := deep_toks bl p' (41 :: r) hp' (.inr ⟨r, rfl⟩)
      have hd : l.drop (p' + (deepL bl).length) = 41 :: r := by
        rw [← List.drop_drop, hp']
        have : (ints (deepL bl)).length = (deepL bl).length := by simp [ints]
        rw [← this]
        simp
      exact t1.trans (Toks.one (by rw [(see_cons hd (by omega)).1]; omega) (tok_sign hd (.inr (.inl rfl))))
    cases b with
    | false =>
      have h5 : l.drop (p + 5) = ints (deepL bl) ++ (41 :: r) := by
        rw [← List.drop_drop, h]
        rfl
      have t1 := key [110, 111, 116] 5 (by rw [h5, h]; rfl) rfl ⟨110, [111, 116], rfl, by omega⟩ (by decide)
      have := t1.trans (rest (p + 5) h5)
      rw [show p + 5 + (deepL bl).length + 1 = p + (deepL (false :: bl)).length by rw [deepL_len, deepL_len]; simp; omega] at this
      exact this
    | true =>
      have h4 : l.drop (p + 4) = 32 :: (ints (deepL bl) ++ (41 :: r)) := by
        rw [← List.drop_drop, h]
        rfl
      have t1 := key [105, 115] 4 (by rw [h4, h]; rfl) rfl ⟨105, [115], rfl, by omega⟩ (by decide)
      obtain ⟨e, hd, _⟩ := see_cons h4 (by omega)
      have h4' : l.drop (p + 4) = 32 :: (hc :: (hr0 ++ 41 :: r)) := by rw [h4, hh]; rfl
      have t2 := Toks.one (by rw [e]; omega) (tok_blank h4' (by rcases hh2 with rfl | rfl <;> exact ⟨by omega, by omega, by decide⟩))
      have := (t1.trans t2).trans (rest (p + 4 + 1) hd)
      rw [show p + 4 + 1 + (deepL bl).length + 1 = p + (deepL (true :: bl)).length by rw [deepL_len, deepL_len]; simp; omega] at this
      exact this
theorem deep_tokens (bl : List Bool) : ofT (deepB bl) = deepT bl := by
  unfold ofT
  rw [deepB_toList, prepare_ascii (deepL_ascii bl)]
  have hl : (ints (deepL bl)).length = (deepL bl).length := by simp [ints]
  refine tokens_of ?_
  have := deep_toks (l := ints (deepL bl)) bl 0 [] (by simp) (.inl rfl)
  rw [hl]
  simpa using this
/-! How they are read. -/
theorem tk_cons {t : List Tok} {i : Nat} {k : Tok} {r : List Tok} (h : t.drop i = k :: r) : tk t i = k ∧ t.drop (i + 1) = r ∧ i < t.length := by
  have h1 : t[i]? = some k := by
    have := congrArg (·[0]?) h
    simpa using this
  refine ⟨by unfold tk; rw [h1], ?_, (List.getElem?_eq_some_iff.1 h1).1⟩
  have := congrArg List.tail h
  simpa [List.tail_drop] using this
theorem tk_none {t : List Tok} {i : Nat} (h : t.drop i = []) : tk t i = {} ∧ t.length ≤ i := by
  have h1 : t.length ≤ i := by simpa using h
  exact ⟨by unfold tk; rw [List.getElem?_eq_none h1], h1⟩
/-- What may stand behind a selector here. -/
def Behind (q : Int) (r : List Tok) : Prop := (r = [] ∧ q = 0) ∨ (∃ r', r = tEnd :: r' ∧ 0 < q)
theorem behind_at {t : List Tok} {q : Int} {r : List Tok} {j : Nat} (hb : Behind q r) (h : t.drop j = r) : (∀ b nest c, sSimple b nest t j c = (c, false, true, j)) ∧ sComb t j q = (0, true, j) ∧ (tk t j).kind ≠ 13 := by
  have hk : ((tk t j).kind = 0 ∧ t.length ≤ j) ∨ ((tk t j).kind = 17 ∧ 0 < q) := by
    rcases hb with ⟨rfl, _⟩ | ⟨r', rfl, hq⟩
    · have := tk_none h; exact .inl ⟨by rw [this.1], this.2⟩
    · have := tk_cons h; exact .inr ⟨by rw [this.1]; rfl, hq⟩
  have nD : ∀ c, isD t j c = false := fun c => by
    simp only [isD, Bool.and_eq_false_imp, decide_eq_true_eq]
    omega
  refine ⟨fun b nest c => ?_, ?_, by omega⟩
  · unfold sSimple
    rw [if_neg (by omega), if_neg (by simp [nD]), if_neg (by omega), if_neg (by omega)]
  · have hw : ws t j = j := ws_self (by omega)
    have hp : pcomb t j = 0 := by simp [pcomb, nD]
    have he : sEnds t j q = true := by
      simp only [sEnds, Bool.or_eq_true, Bool.and_eq_true, decide_eq_true_eq]
      omega
    unfold sComb
    rw [hw, hp, if_neg (by omega), if_pos he]
/-- A list of one compound. -/
theorem one_list {b : Bool} {nest : SNest} {t : List Tok} {q : Int} {i j f : Nat} {c : Cmp} (hw : ws t i = i) (hc : sCmp b nest t i = (c, true, j)) (hm : sComb t j q = (0, true, j)) (h13 : (tk t j).kind ≠ 13) : sListRun b nest t q (f + 1) i [] = ([[(0, c)]], true, j) := by
  have hs : sSel b nest t q i = ([(0, c)], true, j) := by
    unfold sSel
    rw [sSelRun, hc]
    simp only [hm]
    rfl
  rw [sListRun, hw, hs]
  simp only [Bool.true_eq_false, if_false]
  rw [if_neg h13]
  rfl
def deepS : List Bool → List Selr
  | [] => [[(0, { tag := [97] })]]
  | b :: bl => [[(0, { pss := [{ kind := if b then 8 else 7, list := (deepS bl).map selRow }] })]]
theorem nest_white {t : List Tok} {k : Nat} {q : Int} {i : Nat} (h : (tk t i).kind = 9) (h1 : (tk t (i + 1)).kind ≠ 9) : sNest t (k + 1) q i = sNest t (k + 1) q (i + 1) := by
  have hi := tk_lt (t := t) (i := i) (by omega)
  have e1 : ws t (i + 1) = i + 1 := ws_self h1
  have e0 : ws t i = i + 1 := by
    unfold ws
    rw [wsTo, if_pos h]
    cases hl : t.length with
    | zero => omega
    | succ m => rw [wsTo, if_neg h1]
  unfold sNest sList
  rw [sListRun, sListRun, e0, e1]
theorem deepT_head (bl : List Bool) : ∃ k r, deepT bl = k :: r ∧ k.kind ≠ 9 := by
  cases bl with
  | nil => exact ⟨tA, [], rfl, by decide⟩
  | cons b bl => cases b <;> exact ⟨{ kind := 11 }, _, rfl, by decide⟩
theorem deep_nest {t : List Tok} : ∀ (bl : List Bool) (k : Nat) (q : Int) (i : Nat) (r : List Tok), 0 ≤ q → q + k = 8 → Behind q r → t.drop i = deepT bl ++ r →
    (bl.length ≤ k → sNest t (k + 1) q i = (deepS bl, true, i + (deepT bl).length)) ∧ (k < bl.length → (sNest t (k + 1) q i).2.1 = false)
  | [], k, q, i, r, h0, h1, hb, h => by
    obtain ⟨e, hd, _⟩ := tk_cons (k := tA) (r := r) h
    obtain ⟨g1, g2, g3⟩ := behind_at hb hd
    have k1 : (tk t i).kind = 1 := by rw [e]; rfl
    have hc : ∀ b nest, sCmp b nest t i = ({ tag := [97] }, true, i + 1) := fun b nest => by
      unfold sCmp
      rw [if_pos k1, e, sCmpRun, g1]
      rfl
    refine ⟨fun _ => ?_, fun hk => by simp at hk⟩
    unfold sNest sList
    exact one_list (ws_self (by omega)) (hc _ _) g2 g3
  | b :: bl, k, q, i, r, h0, h1, hb, h => by
    have hT : deepT (b :: bl) = wT b ++ (deepT bl ++ [tEnd]) := rfl
    rw [hT, List.append_assoc, List.append_assoc] at h
    obtain ⟨kd, rd, hh, hh9⟩ := deepT_head bl
    -- the colon, the function
    have hfront : ∃ fn, tk t i = { kind := 11 } ∧ tk t (i + 1) = { kind := 20, text := fn } ∧ ((b = true ∧ fn = isB ∧ tk t (i + 2) = { kind := 9 } ∧ t.drop (i + 3) = deepT bl ++ tEnd :: r) ∨ (b = false ∧ fn = notB ∧ t.drop (i + 2) = deepT bl ++ tEnd :: r)) := by
      cases b with
      | true =>
        have h' : t.drop i = { kind := 11 } :: { kind := 20, text := isB } :: { kind := 9 } :: (deepT bl ++ tEnd :: r) := h
        obtain ⟨a1, a2, _⟩ := tk_cons h'
        obtain ⟨a3, a4, _⟩ := tk_cons a2
        obtain ⟨a5, a6, _⟩ := tk_cons a4
        exact ⟨_, a1, a3, .inl ⟨rfl, rfl, a5, a6⟩⟩
      | false =>
        have h' : t.drop i = { kind := 11 } :: { kind := 20, text := notB } :: (deepT bl ++ tEnd :: r) := h
        obtain ⟨a1, a2, _⟩ := tk_cons h'
        obtain ⟨a3, a4, _⟩ := tk_cons a2
        exact ⟨_, a1, a3, .inr ⟨rfl, rfl, a4⟩⟩
    obtain ⟨fn, e0, e1, hcase⟩ := hfront
    have low1 : lower isB = isB := by decide
    have low2 : lower notB = notB := by decide
    have k0 : (tk t i).kind = 11 := by rw [e0]
    have d0 : ∀ c, isD t i c = false := fun c => by simp [isD, k0]
    have hP : ∀ dp nest, sPseudo dp nest t (i + 1) = sNested dp nest t (if b then 8 else 7) (i + 2) := fun dp nest => by
      unfold sPseudo
      rw [e1]
      rcases hcase with ⟨rfl, rfl, _⟩ | ⟨rfl, rfl, _⟩
      · simp only [low1]
        rw [if_neg (by decide), if_neg (by decide), if_neg (by decide), if_neg (by decide), if_pos (by decide)]
        rfl
      · simp only [low2]
        rw [if_neg (by decide), if_neg (by decide), if_neg (by decide), if_pos (by decide)]
        rfl
    have hC : ∀ dp nest, sCmp dp nest t i = sCmpRun dp nest t (t.length + 2) i false {} := fun dp nest => by
      unfold sCmp sSign
      rw [if_neg (by omega), d0]
      rfl
    have hS : ∀ dp nest c, sSimple dp nest t i c = ({ c with pss := c.pss ++ [(sPseudo dp nest t (i + 1)).1] }, true, (sPseudo dp nest t (i + 1)).2) := fun dp nest c => by
      unfold sSimple
      rw [if_neg (by omega), if_neg (by simp [d0]), if_neg (by omega), if_pos k0]
    have fail : ∀ dp nest, (sPseudo dp nest t (i + 1)).2.1 = false → ∀ f, (sListRun dp nest t q (f + 1) i []).2.1 = false := fun dp nest hf f => by
      have hc : (sCmp dp nest t i).2.1 = false := by
        rw [hC, sCmpRun, hS]
        simp only [hf, if_true]
      have hs : (sSel dp nest t q i).2.1 = false := by
        unfold sSel
        rw [sSelRun, if_pos hc]
      rw [sListRun, ws_self (by omega), if_pos hs]
    cases k with
    | zero =>
      refine ⟨fun hk => by simp at hk, fun _ => ?_⟩
      have hq : q = 8 := by omega
      unfold sNest sList
      refine fail _ _ ?_ _
      rw [hP]
      unfold sNested
      rw [if_pos (by simp [hq])]
    | succ k =>
      have hq8 : decide (q = 8) = false := by simp; omega
      have hb' : Behind (q + 1) (tEnd :: r) := .inr ⟨r, rfl, by omega⟩
      -- the list one deeper
      have hn : ∃ j, t.drop j = deepT bl ++ tEnd :: r ∧ sNest t (k + 1) (q + 1) (i + 2) = sNest t (k + 1) (q + 1) j ∧ j = i + (wT b).length := by
        rcases hcase with ⟨rfl, _, a, hd⟩ | ⟨rfl, _, hd⟩
        · refine ⟨i + 3, hd, ?_, rfl⟩
          refine nest_white (by rw [a]) ?_
          rw [hh] at hd
          rw [(tk_cons hd).1]
          exact hh9
        · exact ⟨i + 2, hd, rfl, rfl⟩
      obtain ⟨j, hd, hj, hji⟩ := hn
      obtain ⟨ih1, ih2⟩ := deep_nest bl k (q + 1) j (tEnd :: r) (by omega) (by omega) hb' hd
      have hlenT : (deepT (b :: bl)).length = (wT b).length + ((deepT bl).length + 1) := by rw [hT]; simp
      have hend : t.drop (j + (deepT bl).length) = tEnd :: r := by
        rw [← List.drop_drop, hd]
        simp
      obtain ⟨e17, hd17, _⟩ := tk_cons hend
      refine ⟨fun hk => ?_, fun hk => ?_⟩
      · have hi := ih1 (by simp at hk; omega)
        obtain ⟨g1, g2, g3⟩ := behind_at hb hd17
        have hps : sPseudo (decide (q = 8)) (sNest t (k + 1) (q + 1)) t (i + 1) = ({ kind := if b then 8 else 7, list := (deepS bl).map selRow }, true, j + (deepT bl).length + 1) := by
          rw [hP, hq8]
          unfold sNested
          rw [if_neg (by simp), hj, hi]
          simp only [if_true]
          rw [sIs_of (by rw [e17]; rfl)]
        have hc : sCmp (decide (q = 8)) (sNest t (k + 1) (q + 1)) t i = ({ pss := [{ kind := if b then 8 else 7, list := (deepS bl).map selRow }] }, true, j + (deepT bl).length + 1) := by
          rw [hC, sCmpRun, hS, hps]
          simp only [Bool.true_eq_false, if_false]
          rw [sCmpRun, g1]
          rfl
        have := one_list (f := t.length) (ws_self (by omega)) hc g2 g3
        unfold sNest sList
        rw [this, hlenT, hji]
        simp [deepS]
        omega
      · have hi := ih2 (by simp at hk; omega)
        unfold sNest sList
        refine fail _ _ ?_ _
        rw [hP]
        unfold sNested
        rw [if_neg (by simp [hq8]), hj, if_neg (by simp [hi])]
theorem deep_parse (bl : List Bool) (hl : bl.length ≤ 20) : if bl.length ≤ 8 then sParse (deepT bl) = (deepS bl, true) else sParse (deepT bl) = ([], false) := by
  have hlen : ∀ bl, (deepT bl).length ≤ 1 + 4 * bl.length := by
    intro bl
    induction bl with
    | nil => simp [deepT]
    | cons b bl ih => cases b <;> simp [deepT, wT] <;> omega
  have h1 := hlen bl
  obtain ⟨g1, g2⟩ := deep_nest (t := deepT bl) bl 8 0 0 [] (by omega) (by omega) (.inl ⟨rfl, rfl⟩) (by simp)
  unfold sParse
  split
  · rename_i h
    have := g1 h
    rw [if_neg (by omega), this, if_neg (by simp)]
  · rename_i h
    have := g2 (by omega)
    rw [if_neg (by omega), if_pos (.inl this)]
end Go.Proofs.Ytdfiegleaknleaa.Aw
