/- Plain laws of tokens: numbers. -/
import Derived.Test.YtdfiegleaknleaaXkU
import Derived.Test.YtdfiegleaknleaaXkN
import Derived.Lib.AppendIntMem
namespace Go.Proofs.Ytdfiegleaknleaa.Aw
open Go Go.RowKit Go.Lib
set_option linter.unusedVariables false
set_option linter.unusedSimpArgs false
set_option linter.unusedSectionVars false
set_option maxRecDepth 10000
/-! Numbers. -/
def dgI (c : Int) : Prop := 48 ≤ c ∧ c ≤ 57
/-- What does not go on with a row of digits. -/
def NoDig (r : List Int) : Prop := match r with | [] => True | c :: _ => 0 ≤ c ∧ c < 128 ∧ ¬ dgI c
/-- What does not go on with a number. -/
def NoNum (r : List Int) : Prop := match r with | [] => True | c :: r => 0 ≤ c ∧ c < 128 ∧ ¬ dgI c ∧ (c = 46 → NoDig r)
theorem NoNum.dig {r : List Int} (h : NoNum r) : NoDig r := by
  cases r with
  | nil => trivial
  | cons c r => exact ⟨h.1, h.2.1, h.2.2.1⟩
theorem see_noDig {l r : List Int} {p : Nat} (h : l.drop p = r) (hr : NoDig r) : digit (see l p) = false := by
  cases r with
  | nil => rw [see_end h]; rfl
  | cons c r =>
    rw [(see_cons h ⟨hr.1, hr.2.1⟩).1]
    have := hr.2.2
    unfold dgI at this
    unfold digit
    simp
    omega
theorem digRun_digs {l : List Int} : ∀ (cs r : List Int) (p : Nat) (bs : List UInt8) (f : Nat), l.drop p = cs ++ r → (∀ c ∈ cs, dgI c) → NoDig r → cs.length < f → digRun l f p bs = (bs ++ cs.map b8, p + cs.length)
  | _, _, _, _, 0, _, _, _, hf => by omega
  | [], r, p, bs, f + 1, h, _, hr, _ => by
    rw [digRun, see_noDig h hr, if_neg (by decide)]
    simp
  | c :: cs, r, p, bs, f + 1, h, hc, hr, hf => by
    have h0 := hc c (by simp)
    unfold dgI at h0
    obtain ⟨e1, hd, _⟩ := see_cons (r := cs ++ r) h (by omega)
    rw [digRun, e1, if_pos (by unfold digit; simp; omega), putB_ascii (by omega), digRun_digs cs r (p + 1) _ f hd (fun x hx => hc x (by simp [hx])) hr (by simp at hf; omega)]
    simp
    omega
theorem drop_len {l a r : List Int} {p : Nat} (h : l.drop p = a ++ r) (hn : a ≠ []) : a.length < l.length + 1 ∧ l.drop (p + a.length) = r := by
  constructor
  · have := congrArg List.length h
    simp at this
    omega
  · rw [← List.drop_drop, h]
    simp
/-- A sign, or none. -/
def sgT (neg : Bool) : List Int := if neg then [45] else []
theorem numSgn_of {l D r : List Int} {p : Nat} {neg : Bool} (h : l.drop p = sgT neg ++ (D ++ r)) (hD : ∀ c ∈ D, dgI c) (hn : D ≠ []) : numSgn l p = ((sgT neg).map b8, p + (sgT neg).length) ∧ number l p = true ∧ (see l p = 45 ∨ dgI (see l p)) := by
  have hd : ∀ q, l.drop q = D ++ r → dgI (see l q) ∧ digit (see l q) = true := fun q hq => by
    cases D with
    | nil => exact absurd rfl hn
    | cons c D =>
      have h0 := hD c (by simp)
      unfold dgI at h0
      rw [(see_cons (r := D ++ r) hq (by omega)).1]
      exact ⟨hD c (by simp), by unfold digit; simp; omega⟩
  unfold numSgn number
  cases neg with
  | false =>
    obtain ⟨h1, h2⟩ := hd p h
    unfold dgI at h1
    rw [if_neg (by omega), if_neg (by omega), h2]
    exact ⟨rfl, rfl, .inr h1⟩
  | true =>
    obtain ⟨e1, e2, _⟩ := see_cons (c := 45) (r := D ++ r) h (by decide)
    obtain ⟨h1, h2⟩ := hd (p + 1) e2
    rw [e1, if_pos (.inr rfl), if_pos (.inr rfl), h2]
    exact ⟨rfl, rfl, .inl rfl⟩
theorem numB_whole {l D r : List Int} {p : Nat} {neg : Bool} (h : l.drop p = sgT neg ++ (D ++ r)) (hD : ∀ c ∈ D, dgI c) (hn : D ≠ []) (hr : NoNum r) : numB l p = ((sgT neg ++ D).map b8, p + (sgT neg ++ D).length, true) := by
  have hs := (numSgn_of h hD hn).1
  have h2 : l.drop (p + (sgT neg).length) = D ++ r := by rw [← List.drop_drop, h]; simp
  obtain ⟨hl, h3⟩ := drop_len h2 hn
  have hi : numInt l p = ((sgT neg ++ D).map b8, p + (sgT neg ++ D).length) := by
    unfold numInt
    rw [hs, digRun_digs D r _ _ _ h2 hD hr.dig hl]
    simp
    omega
  unfold numB
  rw [hi, if_neg]
  rintro ⟨h4, h5⟩
  dsimp only at h4 h5
  rw [List.length_append, ← Nat.add_assoc] at h4 h5
  cases r with
  | nil => rw [see_end h3] at h4; omega
  | cons c r =>
    obtain ⟨e1, e2, _⟩ := see_cons h3 ⟨hr.1, hr.2.1⟩
    rw [e1] at h4
    rw [see_noDig e2 (hr.2.2.2 h4)] at h5
    cases h5
theorem numB_frac {l D F r : List Int} {p : Nat} {neg : Bool} (h : l.drop p = sgT neg ++ (D ++ 46 :: (F ++ r))) (hD : ∀ c ∈ D, dgI c) (hn : D ≠ []) (hF : ∀ c ∈ F, dgI c) (hm : F ≠ []) (hr : NoDig r) :
    numB l p = ((sgT neg ++ D ++ 46 :: F).map b8, p + (sgT neg ++ D ++ 46 :: F).length, false) := by
  have hs := (numSgn_of h hD hn).1
  have h2 : l.drop (p + (sgT neg).length) = D ++ 46 :: (F ++ r) := by rw [← List.drop_drop, h]; simp
  obtain ⟨hl, h3⟩ := drop_len h2 hn
  have hi : numInt l p = ((sgT neg ++ D).map b8, p + (sgT neg ++ D).length) := by
    unfold numInt
    rw [hs, digRun_digs D _ _ _ _ h2 hD ⟨by decide, by decide, by unfold dgI; omega⟩ hl]
    simp
    omega
  obtain ⟨e1, e2, _⟩ := see_cons h3 (by decide)
  have e3 : digit (see l (p + (sgT neg).length + D.length + 1)) = true := by
    cases F with
    | nil => exact absurd rfl hm
    | cons c F =>
      have h0 := hF c (by simp)
      unfold dgI at h0
      rw [(see_cons (r := F ++ r) e2 (by omega)).1]
      unfold digit; simp; omega
  obtain ⟨hl2, _⟩ := drop_len e2 hm
  unfold numB
  rw [hi]
  dsimp only
  rw [show p + (sgT neg ++ D).length = p + (sgT neg).length + D.length by simp; omega, if_pos ⟨e1, e3⟩, digRun_digs F r _ _ _ e2 hF hr hl2]
  refine Prod.ext ?_ (Prod.ext ?_ rfl)
  · simp [b8]
  · simp
    omega
theorem tok_num {l : List Int} {p : Nat} (hn : number l p = true) (h : see l p = 45 ∨ dgI (see l p)) : tokNext l p = ([numericT l p], numericP l p) := by
  unfold dgI at h
  unfold tokNext
  rw [if_neg (by omega), if_neg (by unfold white; simp; omega), if_neg (by omega), if_neg (by omega), if_pos hn]
theorem dec_small {u : Nat} (h : u < 10) : Lib.decDigits u = [UInt8.ofNat (48 + u)] := by rw [Lib.decDigits, dif_pos h]
theorem dec_big {u : Nat} (h : ¬ u < 10) : Lib.decDigits u = Lib.decDigits (u / 10) ++ [UInt8.ofNat (48 + u % 10)] := by rw [Lib.decDigits, dif_neg h]
theorem dg_of (d : Nat) (h : d < 10) : dgB (UInt8.ofNat (48 + d)) = true ∧ dvB (UInt8.ofNat (48 + d)) = d := by
  have e : (UInt8.ofNat (48 + d)).toNat = 48 + d := by simp [UInt8.toNat_ofNat]; omega
  constructor
  · unfold dgB digit; rw [e]; simp; omega
  · unfold dvB; rw [e]; omega
theorem dec_all (u : Nat) : (Lib.decDigits u).all dgB = true := by
  induction u using Nat.strongRecOn with
  | _ u ih =>
    by_cases h : u < 10
    · rw [dec_small h]; simp only [List.all_cons, List.all_nil, (dg_of u h).1, Bool.and_true]
    · rw [dec_big h, List.all_append, ih (u / 10) (by omega)]; simp only [List.all_cons, List.all_nil, (dg_of (u % 10) (by omega)).1, Bool.and_true]
theorem dec_ne (u : Nat) : Lib.decDigits u ≠ [] := by
  by_cases h : u < 10
  · rw [dec_small h]; simp
  · rw [dec_big h]; simp
theorem foldF_snoc (l : List UInt8) (c : UInt8) : foldF (l ++ [c]) = stepF (foldF l) c := by simp [foldF, List.foldl_append]
theorem dec_fold (u : Nat) : u < 1000000000000 → foldF (Lib.decDigits u) = u := by
  induction u using Nat.strongRecOn with
  | _ u ih =>
    intro hu
    by_cases h : u < 10
    · rw [dec_small h]
      show stepF 0 _ = _
      unfold stepF; rw [(dg_of u h).2, if_neg (by omega)]; omega
    · rw [dec_big h, foldF_snoc, ih (u / 10) (by omega) (by omega)]
      unfold stepF; rw [(dg_of (u % 10) (by omega)).2, if_neg (by omega)]; omega
theorem dec_tail (x : Nat) (h : x < 1000) : (Lib.decDigits (1000 + x)).drop 1 = [UInt8.ofNat (48 + x / 100), UInt8.ofNat (48 + x / 10 % 10), UInt8.ofNat (48 + x % 10)] := by
  rw [dec_big (by omega), show (1000 + x) / 10 = 100 + x / 10 by omega, dec_big (by omega), show (100 + x / 10) / 10 = 10 + x / 100 by omega, dec_big (by omega), show (10 + x / 100) / 10 = 1 by omega, dec_small (by omega),
    show (10 + x / 100) % 10 = x / 100 by omega, show (100 + x / 10) % 10 = x / 10 % 10 by omega, show (1000 + x) % 10 = x % 10 by omega]
  rfl
theorem frac_three (w x : Nat) (hx : x < 1000) : fracL (w : Int) [UInt8.ofNat (48 + x / 100), UInt8.ofNat (48 + x / 10 % 10), UInt8.ofNat (48 + x % 10)] = (w : Int) * 1000 + x := by
  have a0 := (dg_of (x / 100) (by omega)).2
  have a1 := (dg_of (x / 10 % 10) (by omega)).2
  have a2 := (dg_of (x % 10) (by omega)).2
  simp only [fracL, dL, List.getElem?_cons_zero, List.getElem?_cons_succ]
  rw [a0, a1, a2]
  omega
/-- The text of a number: a sign, whole digits, three behind the point. -/
def sgB (neg : Bool) : List UInt8 := if neg then [45] else []
def frT (x : Nat) : List UInt8 := if 0 < x then 46 :: (Lib.decDigits (1000 + x)).drop 1 else []
def numT (neg : Bool) (w x : Nat) : List UInt8 := sgB neg ++ (Lib.decDigits w ++ frT x)
def numN (neg : Bool) (w x : Nat) : Int := if neg then -((w * 1000 + x : Nat) : Int) else ((w * 1000 + x : Nat) : Int)
theorem numT_val (neg : Bool) (w x : Nat) (hw : w ≤ 2000000) (hx : x ≤ 999) : numV (numT neg w x) = (numN neg w x, true) := by
  rw [numV_numL]
  have hall := dec_all w
  have hbody : ∀ b, numBody b (splitDot (Lib.decDigits w ++ frT x)).1 (splitDot (Lib.decDigits w ++ frT x)).2 = (numN b w x, true) := fun b => by
    rw [splitDot_run _ _ hall]
    have hne : (Lib.decDigits w).isEmpty = false := by
      cases h : Lib.decDigits w with
      | nil => exact absurd h (dec_ne w)
      | cons _ _ => rfl
    have hf := dec_fold w (by omega)
    unfold frT
    by_cases h0 : 0 < x
    · rw [if_pos h0, dec_tail x (by omega)]
      have e1 := (dg_of (x / 100) (by omega)).1
      have e2 := (dg_of (x / 10 % 10) (by omega)).1
      have e3 := (dg_of (x % 10) (by omega)).1
      simp only [splitDot, show ((46 : UInt8).toNat = 46) from rfl, if_true, numBody, List.append_nil, hall, List.all_cons, List.all_nil, e1, e2, e3, Bool.and_true, Bool.true_and, List.isEmpty_cons, Bool.not_false, hf, frac_three w x (by omega)]
      refine Prod.ext ?_ rfl
      unfold sgnN numN cap
      cases b <;> simp <;> omega
    · rw [if_neg h0]
      simp only [splitDot, numBody, List.append_nil, hall, hne, Bool.not_false, Bool.and_true, if_true, hf]
      refine Prod.ext ?_ rfl
      unfold sgnN numN cap fracL dL
      cases b <;> simp <;> omega
  unfold numT sgB
  cases neg with
  | true => exact hbody true
  | false =>
    have : numSign (Lib.decDigits w ++ frT x) = (false, 0) := by
      cases h : Lib.decDigits w with
      | nil => exact absurd h (dec_ne w)
      | cons c r =>
        rw [h] at hall
        simp only [List.all_cons, Bool.and_eq_true] at hall
        have := dgB_le hall.1
        unfold numSign
        simp only [List.cons_append]
        rw [if_neg (by omega), if_neg (by omega)]
    show numL (Lib.decDigits w ++ frT x) = _
    unfold numL
    rw [this]
    exact hbody false
theorem ints_app (a b : List UInt8) : ints (a ++ b) = ints a ++ ints b := by simp [ints]
theorem dig_ints {s : List UInt8} (h : s.all dgB = true) : ∀ c ∈ ints s, dgI c := by
  intro c hc
  obtain ⟨b, hb, rfl⟩ := List.mem_map.1 hc
  exact dgB_le (List.all_eq_true.1 h b hb)
theorem numT_B {l r : List Int} (neg : Bool) (w x : Nat) (hx : x ≤ 999) (h : l = ints (numT neg w x) ++ r) (hr : NoNum r) :
    numB l 0 = (numT neg w x, (numT neg w x).length, decide (x = 0)) ∧ number l 0 = true ∧ (see l 0 = 45 ∨ dgI (see l 0)) ∧ l.drop (numT neg w x).length = r ∧ 0 ≤ see l 0 := by
  have hsg : ints (sgB neg) = sgT neg := by cases neg <;> rfl
  have hD := dig_ints (dec_all w)
  have hn : ints (Lib.decDigits w) ≠ [] := by intro e; exact dec_ne w (by simpa [ints] using e)
  have hdrop : l.drop (numT neg w x).length = r := by rw [h, ← ints_len]; simp
  have hpos : ∀ v : Int, v = 45 ∨ dgI v → 0 ≤ v := fun v hv => by unfold dgI at hv; omega
  by_cases h0 : 0 < x
  · have eF : (Lib.decDigits (1000 + x)).drop 1 = _ := dec_tail x (by omega)
    have hF : ∀ c ∈ ints ((Lib.decDigits (1000 + x)).drop 1), dgI c := by
      refine dig_ints ?_
      rw [eF]
      simp only [List.all_cons, List.all_nil, (dg_of (x / 100) (by omega)).1, (dg_of (x / 10 % 10) (by omega)).1, (dg_of (x % 10) (by omega)).1, Bool.and_true]
    have hm : ints ((Lib.decDigits (1000 + x)).drop 1) ≠ [] := by rw [eF]; simp [ints]
    have hd : l.drop 0 = sgT neg ++ (ints (Lib.decDigits w) ++ 46 :: (ints ((Lib.decDigits (1000 + x)).drop 1) ++ r)) := by
      rw [List.drop_zero, h]
      unfold numT frT
      rw [if_pos h0, ints_app, ints_app, hsg]
      simp [ints]
    have h1 := numB_frac hd hD hn hF hm hr.dig
    obtain ⟨_, h2, h3⟩ := numSgn_of hd hD hn
    have eT : sgT neg ++ ints (Lib.decDigits w) ++ 46 :: ints ((Lib.decDigits (1000 + x)).drop 1) = ints (numT neg w x) := by
      unfold numT frT
      rw [if_pos h0, ints_app, ints_app, hsg]
      simp [ints]
    rw [eT, ints_b8, ints_len, Nat.zero_add] at h1
    rw [h1, decide_eq_false (by omega)]
    exact ⟨rfl, h2, h3, hdrop, hpos _ h3⟩
  · have hd : l.drop 0 = sgT neg ++ (ints (Lib.decDigits w) ++ r) := by
      rw [List.drop_zero, h]
      unfold numT frT
      rw [if_neg h0, ints_app, ints_app, hsg]
      simp [ints]
    have h1 := numB_whole hd hD hn hr
    obtain ⟨_, h2, h3⟩ := numSgn_of hd hD hn
    have eT : sgT neg ++ ints (Lib.decDigits w) = ints (numT neg w x) := by
      unfold numT frT
      rw [if_neg h0, ints_app, ints_app, hsg]
      simp [ints]
    rw [eT, ints_b8, ints_len, Nat.zero_add] at h1
    rw [h1, decide_eq_true (by omega)]
    exact ⟨rfl, h2, h3, hdrop, hpos _ h3⟩
section
variable (neg : Bool) (w x : Nat) (hw : w ≤ 2000000) (hx : x ≤ 999)
include hw hx
theorem num_plain {l r us} (h : l = ints (numT neg w x) ++ r) (hr : NoNum r) (hb : begins l (numT neg w x).length = false) (h37 : see l (numT neg w x).length ≠ 37) (hus : tokens r = us) : tokens l = { kind := 6, n := numN neg w x, whole := decide (x = 0) } :: us := by
  obtain ⟨h1, h2, h3, h4, h5⟩ := numT_B neg w x hx h hr
  refine tokens_more (n := (numT neg w x).length) h5 ?_ (by rw [h]; simp [ints]) (by rw [h4]; exact hus)
  rw [tok_num h2 h3]
  unfold numericT numericP
  rw [h1]
  dsimp only
  rw [hb, if_neg Bool.false_ne_true, if_neg Bool.false_ne_true, if_neg h37, if_neg h37, numT_val neg w x hw hx]
theorem law_num0 : tokens (ints (numT neg w x)) = [{ kind := 6, n := numN neg w x, whole := decide (x = 0) }] := by
  have hs : see (ints (numT neg w x)) (numT neg w x).length = -1 := see_none (by rw [ints_len]; omega)
  refine num_plain neg w x hw hx (r := []) (by simp) trivial ?_ (by rw [hs]; decide) rfl
  unfold begins nameStart
  rw [hs, if_neg (by decide), escape, hs]
  rfl
theorem law_num1 : tokens (ints (numT neg w x) ++ [37]) = [{ kind := 7, n := numN neg w x }] := by
  obtain ⟨h1, h2, h3, h4, h5⟩ := numT_B neg w x hx (l := ints (numT neg w x) ++ [37]) rfl (show NoNum [37] from ⟨by decide, by decide, by unfold dgI; omega, fun e => by omega⟩)
  obtain ⟨e1, _, _⟩ := see_cons h4 (by decide)
  refine tokens_one h5 ?_
  rw [tok_num h2 h3]
  unfold numericT numericP
  rw [h1]
  dsimp only
  rw [begins_at' e1 rfl (by decide), if_neg Bool.false_ne_true, if_neg Bool.false_ne_true, if_pos e1, if_pos e1, numT_val neg w x hw hx]
  simp [ints]
theorem num_dim {s : List Int} (hn : s ≠ []) (hc : ∀ c ∈ s, letter c) : tokens (ints (numT neg w x) ++ s) = [{ kind := 8, n := numN neg w x, text := s.map b8 }] := by
  have hr : NoNum s := by
    cases s with
    | nil => trivial
    | cons c s =>
      have := letter_f (hc c (by simp))
      have h2 := hc c (by simp)
      unfold letter at h2
      exact ⟨this.2.2.2.2.1, this.2.2.2.2.2.1, by unfold dgI; omega, fun e => by omega⟩
  obtain ⟨h1, h2, h3, h4, h5⟩ := numT_B neg w x hx (l := ints (numT neg w x) ++ s) rfl hr
  have h6 : (ints (numT neg w x) ++ s).drop (numT neg w x).length = s ++ [] := by rw [h4]; simp
  have h7 := begins_letter (head_letter h6 hn hc)
  obtain ⟨h8, h9⟩ := name_letters h6 hc trivial
  refine tokens_one h5 ?_
  rw [tok_num h2 h3]
  unfold numericT numericP
  rw [h1]
  dsimp only
  rw [h7, if_pos rfl, if_pos rfl, h8, h9, numT_val neg w x hw hx]
  simp [ints]
theorem law_num3 : tokens (ints (numT neg w x) ++ [32, 112, 120]) = [{ kind := 6, n := numN neg w x, whole := decide (x = 0) }, { kind := 9 }, { kind := 1, text := [112, 120] }] := by
  have hr : NoNum [32, 112, 120] := ⟨by decide, by decide, by unfold dgI; omega, fun e => by omega⟩
  obtain ⟨e1, _, _⟩ := see_cons (numT_B neg w x hx (l := ints (numT neg w x) ++ [32, 112, 120]) rfl hr).2.2.2.1 (by decide)
  exact num_plain neg w x hw hx rfl hr (begins_at' e1 rfl (by decide)) (by rw [e1]; decide) (by decide +kernel)
theorem law_num4 : tokens (ints (numT neg w x) ++ [46]) = [{ kind := 6, n := numN neg w x, whole := decide (x = 0) }, { kind := 10, c := 46 }] := by
  have hr : NoNum [46] := ⟨by decide, by decide, by unfold dgI; omega, fun _ => trivial⟩
  obtain ⟨e1, _, _⟩ := see_cons (numT_B neg w x hx (l := ints (numT neg w x) ++ [46]) rfl hr).2.2.2.1 (by decide)
  exact num_plain neg w x hw hx rfl hr (begins_at' e1 rfl (by decide)) (by rw [e1]; decide) (by decide +kernel)
theorem law_num5 : tokens (ints (numT neg w x) ++ [45]) = [{ kind := 6, n := numN neg w x, whole := decide (x = 0) }, { kind := 10, c := 45 }] := by
  have hr : NoNum [45] := ⟨by decide, by decide, by unfold dgI; omega, fun e => by omega⟩
  obtain ⟨e1, e2, _⟩ := see_cons (numT_B neg w x hx (l := ints (numT neg w x) ++ [45]) rfl hr).2.2.2.1 (by decide)
  refine num_plain neg w x hw hx rfl hr ?_ (by rw [e1]; decide) (by decide +kernel)
  unfold begins escape
  rw [e1, if_pos rfl, see_end e2]
  rfl
theorem law_num6 : tokens (ints (numT neg w x) ++ [43, 49]) = [{ kind := 6, n := numN neg w x, whole := decide (x = 0) }, { kind := 6, n := 1000, whole := true }] := by
  have hr : NoNum [43, 49] := ⟨by decide, by decide, by unfold dgI; omega, fun e => by omega⟩
  obtain ⟨e1, _, _⟩ := see_cons (numT_B neg w x hx (l := ints (numT neg w x) ++ [43, 49]) rfl hr).2.2.2.1 (by decide)
  exact num_plain neg w x hw hx rfl hr (begins_at' e1 rfl (by decide)) (by rw [e1]; decide) (by decide +kernel)
end
end Go.Proofs.Ytdfiegleaknleaa.Aw
