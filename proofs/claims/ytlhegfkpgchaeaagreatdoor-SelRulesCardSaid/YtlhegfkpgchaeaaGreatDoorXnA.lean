/- The rules of tokens in two parts. -/
import Derived.Test.YtlhegfkpgchaeaaGreatDoorXqQ
import Derived.Test.YtlhegfkpgchaeaaGreatDoorXzG
import Derived.Test.YtlhegfkpgchaeaaGreatDoorXlC
import Derived.Test.YtlhegfkpgchaeaaGreatDoorXsB
namespace Go.Proofs.YtlhegfkpgchaeaaGreatDoor.Aw
open Go Go.RowKit Go.Lib
set_option linter.unusedVariables false
set_option linter.unusedSimpArgs false
theorem tab_ltS {w : World} (ht : tabP w) : ∀ b, tabB b → b < w.heap.size := by
 intro b hb
 rcases Nat.lt_or_ge b w.heap.size with h | h
 ·exact h
 ·exfalso
  have hn : w.heap[b]? = none := Array.getElem?_eq_none h
  obtain ⟨⟨h1, h2⟩, h3⟩ := ht
  have no : ∀ (b o : Nat) {v : Value}, w.heap[b]? = none → w.cell? ⟨b, o, none⟩ = some v → False := fun b o v hb hv => by
   unfold World.cell? at hv
   rw [hb] at hv
   cases hv
  rcases hb with hb | hb | hb
  ·subst hb; exact no _ _ hn (h1 0 (by decide))
  ·subst hb; exact no _ _ hn (h2 0 (by decide)).1
  ·subst hb
   unfold TabIs World.var? at h3
   rw [show Tryz.prog.globalNamed "internal/strconv.uint64pow10" = some 5 by kernel_rfl, Option.bind_some, hn] at h3
   cases h3
theorem globS {W : World} (ht : tabP W) : Glob (fun b => b < W.heap.size) W := ⟨fun b hb => tab_ltS ht b hb, ht⟩
theorem walkSelSheet (bs : List UInt8) (W : World) {v : Value} (hv : RepF (fun b => b < W.heap.size) W (.sl (bs.map byteRow)) v) (ht : tabP W) : Calls Tryz.prog 3 #[v] W fun e w' => e = .returned (.bool true) ∧ Below W.heap.size W w' :=
 calls_of_spec (selSheet_spec bs).2 W (globS ht) [v] (repL_cons (by unfold Rep; exact hv) repL_nil)
set_option linter.unusedSectionVars false
theorem tk_appL {T B : List Tok} {i : Nat} (h : i < T.length) : tk (T ++ B) i = tk T i := by unfold tk; rw [List.getElem?_append_left h]
theorem tk_appR {T B : List Tok} (i : Nat) : tk (T ++ B) (T.length + i) = tk B i := by unfold tk; rw [List.getElem?_append_right (by omega), Nat.add_sub_cancel_left]
theorem stepO_base {o : List Int} (b : List Int) (k : Int) (h : o ≠ []) : stepO (b ++ o) k = b ++ stepO o k := by
 obtain ⟨o', x, rfl⟩ : ∃ o' x, o = o' ++ [x] := ⟨o.dropLast, o.getLast h, (List.dropLast_concat_getLast h).symm⟩
 unfold stepO
 split
 ·simp
 ·have e1 : (b ++ (o' ++ [x])).getLast? = some x := by rw [← List.append_assoc]; simp
  have e2 : (o' ++ [x]).getLast? = some x := by simp
  rw [e1, e2]
  split
  ·rw [← List.append_assoc, List.dropLast_concat, List.dropLast_concat]
  ·rfl
theorem stepO_nil {b : List Int} {k : Int} (h : stepO [] k ≠ []) : stepO b k = b ++ stepO [] k := by
 unfold stepO at *
 split
 ·rfl
 ·rename_i h1
  rw [if_neg h1] at h
  simp at h
def skipE (t : List Tok) (i : Nat) : List Int := (skipRun t (t.length + 1) i []).2
theorem skipRun_end (t : List Tok) : ∀ (f i : Nat) (o : List Int), i ≤ t.length → t.length - i < f → (skipRun t f i o).2 = [] ∨ (skipRun t f i o).1 = t.length
 | 0, _, _, _, h => by omega
 | f + 1, i, o, hi, hf => by
  unfold skipRun
  split
  ·split
   ·exact .inl rfl
   ·exact skipRun_end t f (i + 1) _ (by omega) (by omega)
  ·exact .inr (by dsimp only; omega)
theorem skipRun_clos (T B : List Tok) : ∀ (f g i : Nat) (o : List Int), i < T.length → T.length - i < f → (T ++ B).length - i < g → (skipRun T f i o).2 = [] → skipRun (T ++ B) g i o = skipRun T f i o
 | 0, _, _, _, _, h, _, _ => by omega
 | _ + 1, 0, _, _, _, _, h, _ => by omega
 | f + 1, g + 1, i, o, hi, hf, hg, hc => by
  have hl : (T ++ B).length = T.length + B.length := List.length_append
  unfold skipRun at hc ⊢
  rw [if_pos hi] at hc ⊢
  rw [if_pos (by omega), tk_appL hi]
  split
  ·rfl
  ·rename_i h1
   rw [if_neg h1] at hc
   rcases Nat.lt_or_ge (i + 1) T.length with h2 | h2
   ·exact skipRun_clos T B f g (i + 1) _ h2 (by omega) (by omega) hc
   ·exfalso
    obtain ⟨f, rfl⟩ : ∃ f', f = f' + 1 := ⟨f - 1, by omega⟩
    unfold skipRun at hc
    rw [if_neg (by omega)] at hc
    exact h1 hc
theorem skipP_app {T : List Tok} (B : List Tok) {i : Nat} (hi : i < T.length) (hc : skipE T i = []) : skipP (T ++ B) i = skipP T i := by
 unfold skipP
 rw [skipRun_clos T B (T.length + 1) ((T ++ B).length + 1) i [] hi (by omega) (by omega) hc]
theorem skipE_lt {T : List Tok} {i : Nat} (hi : i < T.length) (h : skipP T i < T.length) : skipE T i = [] := by
 rcases skipRun_end T (T.length + 1) i [] (by omega) (by omega) with h1 | h1
 ·exact h1
 ·unfold skipP at h; omega
theorem findP_app {T : List Tok} (B : List Tok) {a b : Int} (m : Nat) : ∀ i, T.length - i ≤ m → findP T i a b < T.length → findP (T ++ B) i a b = findP T i a b := by
 have hl : (T ++ B).length = T.length + B.length := List.length_append
 induction m with
 | zero =>
  intro i hm h
  rw [findP_out (by omega)] at h
  omega
 | succ m ih =>
  intro i hm h
  rcases Nat.lt_or_ge i T.length with hi | hi
  ·have h1 := findP_step (t := T) (a := a) (b := b) hi
   rw [findP_step (t := T ++ B) (by omega), tk_appL hi]
   rw [findP_step hi] at h ⊢
   split
   ·rfl
   ·rename_i hk
    rw [if_neg hk] at h
    have g1 := skipP_gt hi
    rcases Nat.lt_or_ge (skipP T i) T.length with h2 | h2
    ·rw [skipP_app B hi (skipE_lt hi h2)]
     exact ih _ (by omega) h
    ·rw [findP_out h2] at h
     omega
  ·rw [findP_out hi] at h
   omega
theorem skipRun_base (T : List Tok) (b : List Int) (hb : b ≠ []) : ∀ (f i : Nat) (o : List Int), i < T.length → T.length - i < f → o ≠ [] → skipRun T f i (b ++ o) = (if (skipRun T f i o).2 = [] then skipRun T f (skipRun T f i o).1 b else ((skipRun T f i o).1, b ++ (skipRun T f i o).2))
 | 0, _, _, _, h, _ => by omega
 | f + 1, i, o, hi, hf, ho => by
  have e := stepO_base b (tk T i).kind ho
  rw [skipRun, if_pos hi, e]
  rw [if_neg (by simp [hb])]
  by_cases h1 : stepO o (tk T i).kind = []
  ·have e1 : skipRun T (f + 1) i o = (i + 1, []) := by rw [skipRun, if_pos hi, if_pos h1]
   rw [e1]
   dsimp only
   rw [if_pos rfl, h1, List.append_nil]
   exact skipRun_fuel T _ _ _ _ (by omega) (by omega)
  ·have e1 : skipRun T (f + 1) i o = skipRun T f (i + 1) (stepO o (tk T i).kind) := by rw [skipRun, if_pos hi, if_neg h1]
   rw [e1]
   rcases Nat.lt_or_ge (i + 1) T.length with h2 | h2
   ·rw [skipRun_base T b hb f (i + 1) _ h2 (by omega) h1]
    split
    ·have := skipRun_le T f (i + 1) (stepO o (tk T i).kind) (by omega)
     exact skipRun_fuel T _ _ _ _ (by omega) (by omega)
    ·rfl
   ·obtain ⟨f, rfl⟩ : ∃ f', f = f' + 1 := ⟨f - 1, by omega⟩
    ·have e2 : ∀ o, skipRun T (f + 1) (i + 1) o = (i + 1, o) := fun o => by rw [skipRun, if_neg (by omega)]
     rw [e2, e2, if_neg h1]
theorem find_close (T : List Tok) (m : Nat) : ∀ i, T.length - i ≤ m → i ≤ T.length → (skipRun T (T.length + 1) i [15]).2 = [] → findP T i 15 15 < T.length := by
 induction m with
 | zero =>
  intro i hm hi hc
  rw [skipRun, if_neg (by omega)] at hc
  cases hc
 | succ m ih =>
  intro i hm hi hc
  rcases Nat.lt_or_ge i T.length with h1 | h1
  ·rw [findP_step h1]
   by_cases hk : (tk T i).kind = 15 ∨ (tk T i).kind = 15
   ·rw [if_pos hk]; exact h1
   ·rw [if_neg hk]
    have hg := skipP_gt h1
    refine ih _ (by omega) hg.2 ?_
    by_cases h0 : stepO [] (tk T i).kind = []
    ·have e : skipP T i = i + 1 := by unfold skipP; rw [skipRun, if_pos h1, if_pos h0]
     rw [e]
     have e2 : stepO [15] (tk T i).kind = [15] := by
      unfold stepO at h0 ⊢
      split
      ·rename_i h; rw [if_pos h] at h0; simp at h0
      ·rw [if_neg (by simp; omega)]
     rw [skipRun, if_pos h1, e2, if_neg (by simp)] at hc
     rw [skipRun_fuel T (T.length + 1) T.length (i + 1) [15] (by omega) (by omega)]
     exact hc
    ·have e2 : stepO [15] (tk T i).kind = [15] ++ stepO [] (tk T i).kind := stepO_nil h0
     rw [skipRun, if_pos h1, e2, if_neg (by simp)] at hc
     have e : skipRun T (T.length + 1) i [] = skipRun T T.length (i + 1) (stepO [] (tk T i).kind) := by rw [skipRun, if_pos h1, if_neg h0]
     unfold skipP
     rw [e]
     rcases Nat.lt_or_ge (i + 1) T.length with h2 | h2
     ·rw [skipRun_base T [15] (by simp) _ _ _ h2 (by omega) h0] at hc
      split at hc
      ·have hle := skipRun_le T T.length (i + 1) (stepO [] (tk T i).kind) (by omega)
       rw [skipRun_fuel T (T.length + 1) T.length _ [15] (by omega) (by omega)]
       exact hc
      ·simp at hc
     ·exfalso
      have : T.length ≠ 0 := by omega
      obtain ⟨f, hf⟩ : ∃ f, T.length = f + 1 := ⟨T.length - 1, by omega⟩
      rw [hf, skipRun, if_neg (by omega)] at hc
      simp at hc
  ·rw [skipRun, if_neg (by omega)] at hc
   cases hc
theorem inner_app {T : List Tok} (B : List Tok) {k : Nat} (hk : k < T.length) (h14 : (tk T k).kind = 14) (hc : skipE T k = []) : innerT (T ++ B) k = innerT T k := by
 have h1 : findP T (k + 1) 15 15 < T.length := by
  refine find_close T _ _ (Nat.le_refl _) hk ?_
  have e : skipE T k = (skipRun T T.length (k + 1) [15]).2 := by
   have e0 : stepO [] (tk T k).kind = [15] := by rw [h14]; decide
   unfold skipE
   rw [skipRun, if_pos hk, e0, if_neg (by simp)]
  rw [skipRun_fuel T (T.length + 1) T.length _ _ (by omega) (by omega), ← e]
  exact hc
 unfold innerT
 rw [findP_app B _ _ (Nat.le_refl _) h1, List.take_append_of_le_length (by omega)]
theorem pre_app {T : List Tok} (B : List Tok) {i k : Nat} (hk : k ≤ T.length) : preT (T ++ B) i k = preT T i k := by
 unfold preT
 rw [List.take_append_of_le_length hk]
theorem rulesRun_acc (t : List Tok) : ∀ (f i : Nat) (out : List RawV), rulesRun t f i out = out ++ rulesRun t f i []
 | 0, i, out => by simp [rulesRun]
 | f + 1, i, out => by
  unfold rulesRun
  split
  ·split
   ·exact rulesRun_acc t f _ out
   split
   ·exact rulesRun_acc t f _ out
   split
   ·simp
   ·rw [rulesRun_acc t f _ (out ++ _), rulesRun_acc t f _ ([] ++ _)]
    simp
  ·simp
def rulesAt (t : List Tok) (i : Nat) : List RawV := rulesRun t (t.length + 1) i []
theorem rulesAt_out {t : List Tok} {i : Nat} (h : t.length ≤ i) : rulesAt t i = [] := by
 unfold rulesAt
 rw [rulesRun, if_neg (by omega)]
theorem rulesAt_step {t : List Tok} {i : Nat} (h : i < t.length) : rulesAt t i =
  if (tk t i).kind = 9 then rulesAt t (i + 1)
  else if (tk t i).kind = 2 then rulesAt t (atP t i)
  else if findP t i 14 14 = t.length then []
  else { pre := preT t i (findP t i 14 14), block := innerT t (findP t i 14 14) } :: rulesAt t (skipP t (findP t i 14 14)) := by
 unfold rulesAt
 rw [rulesRun, if_pos h]
 split
 ·exact rulesRun_fuel t _ _ _ _ (by omega) (by omega)
 split
 ·have := atP_gt h
  exact rulesRun_fuel t _ _ _ _ (by omega) (by omega)
 split
 ·rfl
 ·have g1 := findP_ge (t := t) (i := i) 14 14 (by omega)
  have g2 := findP_le t i 14 14
  have := skipP_gt (t := t) (i := findP t i 14 14) (by omega)
  rw [rulesRun_acc, rulesRun_fuel t t.length (t.length + 1) _ [] (by omega) (by omega)]
  rfl
theorem findP_kind {t : List Tok} {a b : Int} (m : Nat) : ∀ i, t.length - i ≤ m → findP t i a b < t.length → (tk t (findP t i a b)).kind = a ∨ (tk t (findP t i a b)).kind = b := by
 induction m with
 | zero =>
  intro i hm h
  rw [findP_out (by omega)] at h
  omega
 | succ m ih =>
  intro i hm h
  rcases Nat.lt_or_ge i t.length with hi | hi
  ·rw [findP_step hi] at h ⊢
   split
   ·assumption
   ·rename_i hk
    rw [if_neg hk] at h
    have := skipP_gt hi
    exact ih _ (by omega) h
  ·rw [findP_out hi] at h
   omega
section
variable (X B : List Tok)
theorem skipRun_shift : ∀ (f i : Nat) (o : List Int), skipRun (X ++ B) f (X.length + i) o = (X.length + (skipRun B f i o).1, (skipRun B f i o).2)
 | 0, i, o => rfl
 | f + 1, i, o => by
  unfold skipRun
  rw [tk_appR]
  by_cases h : i < B.length
  ·rw [if_pos (by simp; omega), if_pos h]
   split
   ·rfl
   ·exact skipRun_shift f (i + 1) _
  ·rw [if_neg (by simp; omega), if_neg h]
theorem skipP_shift (i : Nat) : skipP (X ++ B) (X.length + i) = X.length + skipP B i := by
 unfold skipP
 by_cases h : i < B.length
 ·rw [skipRun_fuel (X ++ B) ((X ++ B).length + 1) (B.length + 1) _ _ (by simp; omega) (by simp; omega), skipRun_shift]
 ·rw [skipRun, if_neg (by simp; omega), skipRun, if_neg h]
theorem findP_shift (a b : Int) (m : Nat) : ∀ i, B.length - i ≤ m → findP (X ++ B) (X.length + i) a b = X.length + findP B i a b := by
 have hl : (X ++ B).length = X.length + B.length := List.length_append
 induction m with
 | zero =>
  intro i hm
  rw [findP_out (by omega), findP_out (by omega), hl]
 | succ m ih =>
  intro i hm
  rcases Nat.lt_or_ge i B.length with hi | hi
  ·rw [findP_step (by omega), findP_step hi, tk_appR]
   split
   ·rfl
   ·have := skipP_gt hi
    rw [skipP_shift]
    exact ih _ (by omega)
  ·rw [findP_out (by omega), findP_out (by omega), hl]
theorem preT_shift (i k : Nat) : preT (X ++ B) (X.length + i) (X.length + k) = preT B i k := by
 unfold preT
 rw [List.take_append, List.drop_append, List.take_of_length_le (by omega), List.drop_eq_nil_of_le (by omega), Nat.add_sub_cancel_left, Nat.add_sub_cancel_left]
 rfl
theorem innerT_shift (k : Nat) : innerT (X ++ B) (X.length + k) = innerT B k := by
 unfold innerT
 rw [show X.length + k + 1 = X.length + (k + 1) from rfl, findP_shift X B 15 15 _ _ (Nat.le_refl _)]
 exact preT_shift X B _ _
theorem atP_shift (i : Nat) : atP (X ++ B) (X.length + i) = X.length + atP B i := by
 unfold atP
 rw [show X.length + i + 1 = X.length + (i + 1) from rfl, findP_shift X B 12 14 _ _ (Nat.le_refl _), skipP_shift]
theorem rulesAt_shift (m : Nat) : ∀ i, B.length - i ≤ m → rulesAt (X ++ B) (X.length + i) = rulesAt B i := by
 have hl : (X ++ B).length = X.length + B.length := List.length_append
 induction m with
 | zero =>
  intro i hm
  rw [rulesAt_out (by omega), rulesAt_out (by omega)]
 | succ m ih =>
  intro i hm
  rcases Nat.lt_or_ge i B.length with hi | hi
  ·have a1 := atP_gt hi
   rw [rulesAt_step (by omega), rulesAt_step hi, tk_appR, atP_shift, findP_shift X B 14 14 _ _ (Nat.le_refl _), preT_shift, innerT_shift, skipP_shift]
   split
   ·exact ih (i + 1) (by omega)
   split
   ·exact ih _ (by omega)
   ·by_cases hk : findP B i 14 14 = B.length
    ·rw [if_pos (by omega), if_pos hk]
    ·rw [if_neg (by omega), if_neg hk]
     have g1 := findP_ge (t := B) (i := i) 14 14 (by omega)
     have g2 := findP_le B i 14 14
     have := skipP_gt (t := B) (i := findP B i 14 14) (by omega)
     rw [ih _ (by omega)]
  ·rw [rulesAt_out (by omega), rulesAt_out (by omega)]
end
theorem skipRun_cross (U W : List Tok) : ∀ (f g i : Nat) (o : List Int), i ≤ U.length → U.length - i < f → (U ++ W).length - i < g → (skipRun U f i o).2 ≠ [] → skipRun (U ++ W) g i o = skipRun (U ++ W) (W.length + 1) U.length (skipRun U f i o).2
 | 0, _, _, _, _, h, _, _ => by omega
 | _ + 1, 0, _, _, _, _, h, _ => by omega
 | f + 1, g + 1, i, o, hi, hf, hg, hc => by
  have hl : (U ++ W).length = U.length + W.length := List.length_append
  rcases Nat.lt_or_ge i U.length with h1 | h1
  ·have e : skipRun U (f + 1) i o = if stepO o (tk U i).kind = [] then (i + 1, []) else skipRun U f (i + 1) (stepO o (tk U i).kind) := by rw [skipRun, if_pos h1]
   rw [e] at hc ⊢
   split at hc
   ·simp at hc
   ·rename_i h2
    rw [if_neg h2, skipRun, if_pos (by omega), tk_appL h1, if_neg h2]
    exact skipRun_cross U W f g (i + 1) _ (by omega) (by omega) (by omega) hc
  ·obtain rfl : i = U.length := by omega
   have e : skipRun U (f + 1) U.length o = (U.length, o) := by rw [skipRun, if_neg (by omega)]
   rw [e]
   exact skipRun_fuel _ _ _ _ _ (by omega) (by omega)
theorem skipP_cross {U : List Tok} (W : List Tok) {i : Nat} (hi : i < U.length) (hc : skipE U i ≠ []) : skipP (U ++ W) i = U.length + (skipRun W (W.length + 1) 0 (skipE U i)).1 := by
 unfold skipP
 rw [skipRun_cross U W (U.length + 1) ((U ++ W).length + 1) i [] (by omega) (by omega) (by omega) hc]
 exact congrArg Prod.fst (skipRun_shift U W (W.length + 1) 0 (skipE U i))
theorem skipP_open {U : List Tok} {i : Nat} (hi : i < U.length) (hc : skipE U i ≠ []) : skipP U i = U.length := by
 rcases skipRun_end U (U.length + 1) i [] (by omega) (by omega) with h1 | h1
 ·exact absurd h1 hc
 ·exact h1
theorem skipRun_closers (t : List Tok) : ∀ (f i : Nat) (o : List Int), Closers o → Closers (skipRun t f i o).2
 | 0, i, o, h => h
 | f + 1, i, o, h => by
  unfold skipRun
  split
  ·split
   ·exact fun c hc => by simp at hc
   ·exact skipRun_closers t f _ _ (h.step _)
  ·exact h
theorem skipE_closers (t : List Tok) (i : Nat) : Closers (skipE t i) := skipRun_closers t _ _ _ (fun c hc => by simp at hc)
section
variable (n : RawV → Nat)
def cntR (l : List RawV) : Nat := (l.map n).sum
end
theorem findP_far {U : List Tok} (W : List Tok) {a b : Int} (m : Nat) : ∀ i, U.length - i ≤ m → findP U i a b = U.length → U.length ≤ findP (U ++ W) i a b := by
 have hl : (U ++ W).length = U.length + W.length := List.length_append
 induction m with
 | zero =>
  intro i hm h
  rcases Nat.lt_or_ge i (U ++ W).length with hi | hi
  ·have := findP_ge (t := U ++ W) (i := i) a b (by omega)
   omega
  ·rw [findP_out hi]; omega
 | succ m ih =>
  intro i hm h
  rcases Nat.lt_or_ge i U.length with hi | hi
  ·rw [findP_step hi] at h
   rw [findP_step (by omega), tk_appL hi]
   split at h
   ·omega
   ·rename_i hk
    rw [if_neg hk]
    have hg := skipP_gt hi
    by_cases hc : skipE U i = []
    ·rw [skipP_app W hi hc]
     exact ih _ (by omega) h
    ·rw [skipP_cross W hi hc]
     rcases Nat.lt_or_ge (U.length + (skipRun W (W.length + 1) 0 (skipE U i)).1) (U ++ W).length with h2 | h2
     ·have := findP_ge (t := U ++ W) a b (Nat.le_of_lt h2)
      omega
     ·rw [findP_out h2]; omega
  ·rcases Nat.lt_or_ge i (U ++ W).length with hi | hi
   ·have := findP_ge (t := U ++ W) (i := i) a b (by omega)
    omega
   ·rw [findP_out hi]; omega
theorem skipP_far {U : List Tok} (W : List Tok) {i : Nat} (hi : i < U.length) (hc : skipE U i ≠ []) : U.length ≤ skipP (U ++ W) i := by
 rw [skipP_cross W hi hc]; omega
theorem rulesAt_none {t : List Tok} (m : Nat) : ∀ i, t.length - i ≤ m → (∀ j, i ≤ j → j < t.length → (tk t j).kind ≠ 14) → rulesAt t i = [] := by
 induction m with
 | zero => intro i hm h; exact rulesAt_out (by omega)
 | succ m ih =>
  intro i hm h
  rcases Nat.lt_or_ge i t.length with hi | hi
  ·rw [rulesAt_step hi]
   split
   ·exact ih (i + 1) (by omega) (fun j h1 h2 => h j (by omega) h2)
   split
   ·have := atP_gt hi
    exact ih _ (by omega) (fun j h1 h2 => h j (by omega) h2)
   ·rw [if_pos]
    have g1 := findP_ge (t := t) (i := i) 14 14 (by omega)
    have g2 := findP_le t i 14 14
    rcases Nat.lt_or_ge (findP t i 14 14) t.length with h3 | h3
    ·have := findP_kind _ i (Nat.le_refl _) h3
     exact absurd (this.elim id id) (h _ g1 h3)
    ·omega
  ·exact rulesAt_out hi
structure No14 (W : List Tok) : Prop where
 no : ∀ k ∈ W, k.kind ≠ 14
theorem No14.far {U W : List Tok} (h : No14 W) {i : Nat} (hi : U.length ≤ i) : rulesAt (U ++ W) i = [] := by
 refine rulesAt_none _ i (Nat.le_refl _) (fun j h1 h2 => ?_)
 obtain ⟨q, rfl⟩ : ∃ q, j = U.length + q := ⟨j - U.length, by omega⟩
 rw [tk_appR]
 have hq : q < W.length := by simp at h2; omega
 rw [tk_get (List.getElem?_eq_getElem hq)]
 exact h.no _ (List.getElem_mem hq)
theorem cnt_no14 {n : RawV → Nat} (hn : ∀ x y : RawV, x.pre = y.pre → n x = n y) {U W : List Tok} (hW : No14 W) (m : Nat) : ∀ i, U.length - i ≤ m → i ≤ U.length → cntR n (rulesAt (U ++ W) i) = cntR n (rulesAt U i) := by
 have hl : (U ++ W).length = U.length + W.length := List.length_append
 have base : ∀ i, U.length ≤ i → cntR n (rulesAt (U ++ W) i) = cntR n (rulesAt U i) := fun i hi => by rw [hW.far hi, rulesAt_out hi]
 induction m with
 | zero => intro i hm hi; exact base i (by omega)
 | succ m ih =>
  intro i hm hi
  rcases Nat.lt_or_ge i U.length with h1 | h1
  ·rw [rulesAt_step (t := U ++ W) (by omega), rulesAt_step h1, tk_appL h1]
   split
   ·exact ih (i + 1) (by omega) (by omega)
   split
   ·have hg := atP_gt h1
    rcases Nat.lt_or_ge (findP U (i + 1) 12 14) U.length with h2 | h2
    ·have e : findP (U ++ W) (i + 1) 12 14 = findP U (i + 1) 12 14 := findP_app W _ _ (Nat.le_refl _) h2
     by_cases hc : skipE U (findP U (i + 1) 12 14) = []
     ·have e2 : atP (U ++ W) i = atP U i := by unfold atP; rw [e, skipP_app W h2 hc]
      rw [e2]
      exact ih _ (by omega) hg.2
     ·have e2 : U.length ≤ atP (U ++ W) i := by unfold atP; rw [e]; exact skipP_far W h2 hc
      have e3 : atP U i = U.length := by unfold atP; exact skipP_open h2 hc
      rw [hW.far e2, e3, rulesAt_out (Nat.le_refl _)]
    ·have h3 : findP U (i + 1) 12 14 = U.length := Nat.le_antisymm (findP_le ..) h2
     have e2 : U.length ≤ atP (U ++ W) i := by
      have g1 := findP_far W _ (i + 1) (Nat.le_refl _) h3
      have g2 := skipP_le (findP_le (U ++ W) (i + 1) 12 14)
      unfold atP
      omega
     have e3 : atP U i = U.length := by unfold atP; rw [h3, skipP_out (Nat.le_refl _)]
     rw [hW.far e2, e3, rulesAt_out (Nat.le_refl _)]
   ·rcases Nat.lt_or_ge (findP U i 14 14) U.length with h2 | h2
    ·have e : findP (U ++ W) i 14 14 = findP U i 14 14 := findP_app W _ _ (Nat.le_refl _) h2
     have g1 := findP_ge (t := U) (i := i) 14 14 hi
     have g2 := skipP_gt h2
     rw [e, if_neg (by omega), if_neg (by omega), pre_app W (by omega)]
     have en : ∀ x y z, n { pre := x, block := y } = n { pre := x, block := z } := fun x y z => hn _ _ rfl
     show n _ + cntR n _ = n _ + cntR n _
     rw [en _ _ (innerT U (findP U i 14 14))]
     congr 1
     by_cases hc : skipE U (findP U i 14 14) = []
     ·rw [skipP_app W h2 hc]
      exact ih _ (by omega) g2.2
     ·rw [hW.far (skipP_far W h2 hc), skipP_open h2 hc, rulesAt_out (Nat.le_refl _)]
    ·have h3 : findP U i 14 14 = U.length := Nat.le_antisymm (findP_le ..) h2
     have g1 := findP_far W _ i (Nat.le_refl _) h3
     have g2 := findP_le (U ++ W) i 14 14
     rw [if_pos h3]
     split
     ·rfl
     ·exfalso
      rcases Nat.lt_or_ge (findP (U ++ W) i 14 14) (U ++ W).length with h4 | h4
      ·have h5 := findP_kind _ i (Nat.le_refl _) h4
       have h5 := h5.elim id id
       obtain ⟨q, hq⟩ : ∃ q, findP (U ++ W) i 14 14 = U.length + q := ⟨findP (U ++ W) i 14 14 - U.length, by omega⟩
       rw [hq, tk_appR] at h5
       have hq2 : q < W.length := by omega
       rw [tk_get (List.getElem?_eq_getElem hq2)] at h5
       exact hW.no _ (List.getElem_mem hq2) h5
      ·omega
  ·exact base i h1
def Neu (k : Int) : Prop := k ≠ 12 ∧ k ≠ 14 ∧ k ≠ 15 ∧ k ≠ 16 ∧ k ≠ 17 ∧ k ≠ 18 ∧ k ≠ 19 ∧ k ≠ 20
theorem stepO_neu {o : List Int} {k : Int} (h : Neu k) (ho : Closers o) : stepO o k = o := by
 obtain ⟨h1, h2, h3, h4, h5, h6, h7, h8⟩ := h
 have e : closeK k = 0 := by unfold closeK; rw [if_neg h2, if_neg (by omega), if_neg h6]
 unfold stepO
 rw [if_neg (by simp [e])]
 split
 ·rename_i hk
  have := ho k (List.mem_of_getLast? hk)
  omega
 ·rfl
structure Tail (V : List Tok) (a b : Tok) : Prop where
 neu : ∀ k ∈ V, Neu k.kind
 o : a.kind = 14
 c : b.kind = 15
section
variable {V : List Tok} {a b : Tok} (h : Tail V a b)
include h
theorem Tail.tkV {i : Nat} (hi : i < V.length) : Neu (tk (V ++ [a, b]) i).kind := by
 rw [tk_appL hi, tk_get (List.getElem?_eq_getElem hi)]
 exact h.neu _ (List.getElem_mem hi)
theorem Tail.tkO : (tk (V ++ [a, b]) V.length).kind = 14 := by
 have := tk_appR (T := V) (B := [a, b]) 0
 rw [Nat.add_zero] at this
 rw [this]
 exact h.o
theorem Tail.tkC : (tk (V ++ [a, b]) (V.length + 1)).kind = 15 := by
 rw [tk_appR (T := V) (B := [a, b]) 1]
 exact h.c
theorem Tail.len : (V ++ [a, b]).length = V.length + 2 := by simp
theorem Tail.skip {o : List Int} (ho : Closers o) (hne : o ≠ []) (m : Nat) : ∀ (i f : Nat), V.length - i ≤ m → i ≤ V.length → V.length + 2 - i < f → (skipRun (V ++ [a, b]) f i o).1 = V.length + 2 := by
 have hl := h.len
 induction m with
 | zero =>
  intro i f hm hi hf
  obtain rfl : i = V.length := by omega
  obtain ⟨f, rfl⟩ : ∃ g, f = g + 3 := ⟨f - 3, by omega⟩
  have e1 : stepO o 14 = o ++ [15] := rfl
  have e2 : stepO (o ++ [15]) 15 = o := by
   unfold stepO
   rw [if_neg (by decide), if_pos (by simp)]
   simp
  rw [skipRun, if_pos (by omega), h.tkO, e1, if_neg (by simp), skipRun, if_pos (by omega), h.tkC, e2, if_neg hne, skipRun, if_neg (by omega)]
 | succ m ih =>
  intro i f hm hi hf
  rcases Nat.lt_or_ge i V.length with h1 | h1
  ·obtain ⟨f, rfl⟩ : ∃ g, f = g + 1 := ⟨f - 1, by omega⟩
   rw [skipRun, if_pos (by omega), stepO_neu (h.tkV h1) ho, if_neg hne]
   exact ih (i + 1) f (by omega) (by omega) (by omega)
  ·exact ih i f (by omega) hi hf
theorem Tail.skipP1 {i : Nat} (hi : i < V.length) : skipP (V ++ [a, b]) i = i + 1 := by
 have hl := h.len
 have e : stepO [] (tk (V ++ [a, b]) i).kind = [] := stepO_neu (h.tkV hi) (fun c hc => by simp at hc)
 unfold skipP
 rw [skipRun, if_pos (by omega), e, if_pos rfl]
theorem Tail.skipO : skipP (V ++ [a, b]) V.length = V.length + 2 ∧ skipE (V ++ [a, b]) V.length = [] := by
 have hl := h.len
 have e1 : stepO [] 14 = [15] := rfl
 have e2 : stepO [15] 15 = [] := by decide
 have e : skipRun (V ++ [a, b]) ((V ++ [a, b]).length + 1) V.length [] = (V.length + 2, []) := by
  rw [hl, skipRun, if_pos (by omega), h.tkO, e1, if_neg (by simp), skipRun, if_pos (by omega), h.tkC, e2, if_pos rfl]
 unfold skipP skipE
 rw [e]
 exact ⟨rfl, rfl⟩
theorem Tail.find {p : Int} (hp : p = 12 ∨ p = 14) (m : Nat) : ∀ i, V.length - i ≤ m → i ≤ V.length → findP (V ++ [a, b]) i p 14 = V.length := by
 have hl := h.len
 induction m with
 | zero =>
  intro i hm hi
  obtain rfl : i = V.length := by omega
  rw [findP_step (by omega), if_pos (.inr h.tkO)]
 | succ m ih =>
  intro i hm hi
  rcases Nat.lt_or_ge i V.length with h1 | h1
  ·have := h.tkV h1
   rw [findP_step (by omega), if_neg (by rcases hp with rfl | rfl; exact fun e => e.elim this.1 this.2.1; exact fun e => e.elim this.2.1 this.2.1), h.skipP1 h1]
   exact ih (i + 1) (by omega) (by omega)
  ·exact ih i (by omega) hi
end
theorem cntR_cons (n : RawV → Nat) (x : RawV) (l : List RawV) : cntR n (x :: l) = n x + cntR n l := rfl
section
variable {U V : List Tok} {a b : Tok} (h : Tail V a b)
include h
theorem Tail.tlen : (U ++ (V ++ [a, b])).length = U.length + V.length + 2 := by simp; omega
theorem Tail.skipC {i : Nat} (hi : i < U.length) (hc : skipE U i ≠ []) : skipP (U ++ (V ++ [a, b])) i = U.length + V.length + 2 := by
 rw [skipP_cross _ hi hc, h.skip (skipE_closers U i) hc _ 0 _ (Nat.le_refl _) (Nat.zero_le _) (by rw [h.len]; omega)]
 omega
theorem Tail.findC {p : Int} (hp : p = 12 ∨ p = 14) (m : Nat) : ∀ i, U.length - i ≤ m → i ≤ U.length → findP U i p 14 = U.length →
  findP (U ++ (V ++ [a, b])) i p 14 = U.length + V.length ∨ findP (U ++ (V ++ [a, b])) i p 14 = U.length + V.length + 2 := by
 have hl := h.tlen (U := U)
 have last : findP (U ++ (V ++ [a, b])) U.length p 14 = U.length + V.length := by
  have := findP_shift U (V ++ [a, b]) p 14 _ 0 (Nat.le_refl _)
  rw [Nat.add_zero] at this
  rw [this, h.find hp _ 0 (Nat.le_refl _) (Nat.zero_le _)]
 induction m with
 | zero =>
  intro i hm hi hf
  obtain rfl : i = U.length := by omega
  exact .inl last
 | succ m ih =>
  intro i hm hi hf
  rcases Nat.lt_or_ge i U.length with h1 | h1
  ·rw [findP_step h1] at hf
   rw [findP_step (by omega), tk_appL h1]
   split at hf
   ·omega
   ·rename_i hk
    rw [if_neg hk]
    have hg := skipP_gt h1
    by_cases hc : skipE U i = []
    ·rw [skipP_app _ h1 hc]
     exact ih _ (by omega) hg.2 hf
    ·rw [h.skipC h1 hc]
     right
     rw [findP_out (by omega), hl]
  ·obtain rfl : i = U.length := by omega
   exact .inl last
theorem cnt_tail {n : RawV → Nat} (hn : ∀ x y : RawV, x.pre = y.pre → n x = n y) (m : Nat) : ∀ i, U.length + V.length - i ≤ m → i ≤ U.length + V.length →
  cntR n (rulesAt (U ++ (V ++ [a, b])) i) = cntR n (rulesAt U i) ∨ ∀ B, rulesAt (U ++ (V ++ [a, b]) ++ B) i = rulesAt (U ++ (V ++ [a, b])) i ++ rulesAt B 0 := by
 have hl := h.tlen (U := U)
 have hB : ∀ B, (U ++ (V ++ [a, b]) ++ B).length = U.length + V.length + 2 + B.length := fun B => by rw [List.length_append, hl]
 have htk : ∀ B i, i < U.length + V.length + 2 → tk (U ++ (V ++ [a, b]) ++ B) i = tk (U ++ (V ++ [a, b])) i := fun B i hi => tk_appL (by omega)
 have endB : ∀ B, rulesAt (U ++ (V ++ [a, b]) ++ B) (U.length + V.length + 2) = rulesAt B 0 := fun B => by
  have := rulesAt_shift (U ++ (V ++ [a, b])) B _ 0 (Nat.le_refl _)
  rw [Nat.add_zero, hl] at this
  exact this
 have hO := h.skipO
 have hOs : skipP (U ++ (V ++ [a, b])) (U.length + V.length) = U.length + V.length + 2 := by rw [skipP_shift, hO.1]; omega
 have hOe : skipE (U ++ (V ++ [a, b])) (U.length + V.length) = [] := by
  unfold skipE
  rw [skipRun_fuel _ _ ((V ++ [a, b]).length + 1) _ _ (by omega) (by rw [hl, h.len]; omega), skipRun_shift]
  exact hO.2
 have hO14 : (tk (U ++ (V ++ [a, b])) (U.length + V.length)).kind = 14 := by rw [tk_appR]; exact h.tkO
 -- a rule whose brace is the last one
 have good : ∀ i, i ≤ U.length + V.length → (tk (U ++ (V ++ [a, b])) i).kind ≠ 9 → (tk (U ++ (V ++ [a, b])) i).kind ≠ 2 → findP (U ++ (V ++ [a, b])) i 14 14 = U.length + V.length →
   ∀ B, rulesAt (U ++ (V ++ [a, b]) ++ B) i = rulesAt (U ++ (V ++ [a, b])) i ++ rulesAt B 0 := fun i hi h9 h2 hf B => by
  have e1 : findP (U ++ (V ++ [a, b]) ++ B) i 14 14 = U.length + V.length := by rw [findP_app B _ _ (Nat.le_refl _) (by omega), hf]
  rw [rulesAt_step (t := U ++ (V ++ [a, b]) ++ B) (by rw [hB]; omega), rulesAt_step (t := U ++ (V ++ [a, b])) (by omega), htk B i (by omega), if_neg h9, if_neg h2, if_neg h9, if_neg h2, e1, hf, if_neg (by rw [hB]; omega), if_neg (by omega)]
  rw [pre_app B (by omega), inner_app B (by omega) hO14 hOe, skipP_app B (by omega) hOe, hOs, endB, rulesAt_out (t := U ++ (V ++ [a, b])) (by omega)]
  rfl
 induction m with
 | zero =>
  intro i hm hi
  obtain rfl : i = U.length + V.length := by omega
  refine .inr (good _ (Nat.le_refl _) (by rw [hO14]; decide) (by rw [hO14]; decide) ?_)
  rw [findP_step (by omega), if_pos (.inl hO14)]
 | succ m ih =>
  intro i hm hi
  rcases Nat.lt_or_ge i U.length with h1 | h1
  ·-- inside the first part
   have hti : tk (U ++ (V ++ [a, b])) i = tk U i := tk_appL h1
   by_cases h9 : (tk U i).kind = 9
   ·rw [rulesAt_step (t := U ++ (V ++ [a, b])) (by omega), rulesAt_step h1, hti, if_pos h9, if_pos h9]
    rcases ih (i + 1) (by omega) (by omega) with g | g
    ·exact .inl g
    ·refine .inr fun B => ?_
     rw [rulesAt_step (by rw [hB]; omega), htk B i (by omega), hti, if_pos h9]
     exact g B
   by_cases h2 : (tk U i).kind = 2
   ·have hg := atP_gt h1
    by_cases hcl : findP U (i + 1) 12 14 < U.length ∧ skipE U (findP U (i + 1) 12 14) = []
    ·have e1 : ∀ W, atP (U ++ W) i = atP U i := fun W => by unfold atP; rw [findP_app W _ _ (Nat.le_refl _) hcl.1, skipP_app W hcl.1 hcl.2]
     rw [rulesAt_step (t := U ++ (V ++ [a, b])) (by omega), rulesAt_step h1, hti, if_neg h9, if_pos h2, if_neg h9, if_pos h2, e1]
     rcases ih (atP U i) (by omega) (by omega) with g | g
     ·exact .inl g
     ·refine .inr fun B => ?_
      rw [rulesAt_step (by rw [hB]; omega), htk B i (by omega), hti, if_neg h9, if_pos h2, List.append_assoc, e1, ← List.append_assoc]
      exact g B
    ·left
     have e3 : atP U i = U.length := by
      unfold atP
      rcases Nat.lt_or_ge (findP U (i + 1) 12 14) U.length with h3 | h3
      ·exact skipP_open h3 (fun e => hcl ⟨h3, e⟩)
      ·rw [Nat.le_antisymm (findP_le U (i + 1) 12 14) h3, skipP_out (Nat.le_refl _)]
     have e4 : atP (U ++ (V ++ [a, b])) i = U.length + V.length + 2 := by
      unfold atP
      rcases Nat.lt_or_ge (findP U (i + 1) 12 14) U.length with h3 | h3
      ·rw [findP_app _ _ _ (Nat.le_refl _) h3]
       exact h.skipC h3 (fun e => hcl ⟨h3, e⟩)
      ·rcases h.findC (.inl rfl) _ (i + 1) (Nat.le_refl _) h1 (Nat.le_antisymm (findP_le U (i + 1) 12 14) h3) with g | g
       ·rw [g, hOs]
       ·rw [g, skipP_out (by omega)]
     rw [rulesAt_step (t := U ++ (V ++ [a, b])) (by omega), rulesAt_step h1, hti, if_neg h9, if_pos h2, if_neg h9, if_pos h2, e3, e4, rulesAt_out (by omega), rulesAt_out (Nat.le_refl _)]
   ·rcases Nat.lt_or_ge (findP U i 14 14) U.length with h3 | h3
    ·have e1 : ∀ W, findP (U ++ W) i 14 14 = findP U i 14 14 := fun W => findP_app W _ _ (Nat.le_refl _) h3
     have g1 := findP_ge (t := U) (i := i) 14 14 (by omega)
     have g2 := skipP_gt h3
     have hk14 : (tk U (findP U i 14 14)).kind = 14 := (findP_kind _ i (Nat.le_refl _) h3).elim id id
     have en : ∀ x y z, n { pre := x, block := y } = n { pre := x, block := z } := fun x y z => hn _ _ rfl
     by_cases hc : skipE U (findP U i 14 14) = []
     ·have e2 : ∀ W, skipP (U ++ W) (findP U i 14 14) = skipP U (findP U i 14 14) := fun W => skipP_app W h3 hc
      have e3 : ∀ W, innerT (U ++ W) (findP U i 14 14) = innerT U (findP U i 14 14) := fun W => inner_app W h3 hk14 hc
      have e4 : ∀ W, preT (U ++ W) i (findP U i 14 14) = preT U i (findP U i 14 14) := fun W => pre_app W (by omega)
      rw [rulesAt_step (t := U ++ (V ++ [a, b])) (by omega), rulesAt_step h1, hti, if_neg h9, if_neg h2, if_neg h9, if_neg h2, e1, if_neg (by omega), if_neg (by omega), e2, e3, e4]
      rcases ih (skipP U (findP U i 14 14)) (by omega) (by omega) with g | g
      ·left
       show n _ + cntR n _ = n _ + cntR n _
       rw [g]
      ·refine .inr fun B => ?_
       rw [rulesAt_step (by rw [hB]; omega), htk B i (by omega), hti, if_neg h9, if_neg h2]
       rw [List.append_assoc, e1, e2, e3, e4, ← List.append_assoc, if_neg (by rw [hB]; omega), g B]
       rfl
     ·left
      rw [rulesAt_step (t := U ++ (V ++ [a, b])) (by omega), rulesAt_step h1, hti, if_neg h9, if_neg h2, if_neg h9, if_neg h2, e1, if_neg (by omega), if_neg (by omega)]
      rw [h.skipC h3 hc, skipP_open h3 hc, rulesAt_out (by omega), rulesAt_out (Nat.le_refl _), pre_app _ (by omega)]
      rw [cntR_cons, cntR_cons, en _ _ (innerT U (findP U i 14 14))]
    ·have h4 : findP U i 14 14 = U.length := Nat.le_antisymm (findP_le ..) h3
     rcases h.findC (.inr rfl) _ i (Nat.le_refl _) (by omega) h4 with g | g
     ·exact .inr (good i hi (by rw [hti]; exact h9) (by rw [hti]; exact h2) g)
     ·left
      rw [rulesAt_step (t := U ++ (V ++ [a, b])) (by omega), rulesAt_step h1, hti, if_neg h9, if_neg h2, if_neg h9, if_neg h2, if_pos (by omega), if_pos h4]
  ·-- among what is behind
   obtain ⟨q, rfl⟩ : ∃ q, i = U.length + q := ⟨i - U.length, by omega⟩
   rcases Nat.lt_or_ge q V.length with hq | hq
   ·have hti : tk (U ++ (V ++ [a, b])) (U.length + q) = tk (V ++ [a, b]) q := tk_appR q
    by_cases h9 : (tk (V ++ [a, b]) q).kind = 9
    ·rw [rulesAt_step (t := U ++ (V ++ [a, b])) (by omega), hti, if_pos h9, rulesAt_out h1]
     have hu : rulesAt U (U.length + q + 1) = [] := rulesAt_out (by omega)
     rcases ih (U.length + q + 1) (by omega) (by omega) with g | g
     ·rw [hu] at g
      exact .inl g
     ·refine .inr fun B => ?_
      rw [rulesAt_step (by rw [hB]; omega), htk B _ (by omega), hti, if_pos h9]
      exact g B
    have hf : ∀ p, p = 12 ∨ p = 14 → ∀ r, r ≤ V.length → findP (U ++ (V ++ [a, b])) (U.length + r) p 14 = U.length + V.length := fun p hp r hr => by
     rw [findP_shift U (V ++ [a, b]) p 14 _ r (Nat.le_refl _), h.find hp _ r (Nat.le_refl _) hr]
    by_cases h2 : (tk (V ++ [a, b]) q).kind = 2
    ·left
     have e4 : atP (U ++ (V ++ [a, b])) (U.length + q) = U.length + V.length + 2 := by
      unfold atP
      rw [show U.length + q + 1 = U.length + (q + 1) from rfl, hf 12 (.inl rfl) (q + 1) (by omega), hOs]
     rw [rulesAt_step (t := U ++ (V ++ [a, b])) (by omega), hti, if_neg h9, if_pos h2, e4, rulesAt_out (by omega), rulesAt_out h1]
    ·exact .inr (good _ hi (by rw [hti]; exact h9) (by rw [hti]; exact h2) (hf 14 (.inr rfl) q (by omega)))
   ·obtain rfl : q = V.length := by omega
    refine .inr (good _ hi (by rw [hO14]; decide) (by rw [hO14]; decide) ?_)
    rw [findP_step (by omega), if_pos (.inl hO14)]
end
theorem rules_parts {n : RawV → Nat} (hn : ∀ x y : RawV, x.pre = y.pre → n x = n y) {U V W : List Tok} {a b : Tok} (h : Tail V a b) (hW : No14 W)
  (hc : cntR n (rulesV (U ++ (V ++ [a, b]))) ≠ cntR n (rulesV (U ++ W))) (B : List Tok) : rulesV (U ++ (V ++ [a, b]) ++ B) = rulesV (U ++ (V ++ [a, b])) ++ rulesV B := by
 rcases cnt_tail h (U := U) hn _ 0 (Nat.le_refl _) (Nat.zero_le _) with g | g
 ·exact absurd (g.trans (cnt_no14 hn hW _ 0 (Nat.le_refl _) (Nat.zero_le _)).symm) hc
 ·exact g B
end Go.Proofs.YtlhegfkpgchaeaaGreatDoor.Aw
