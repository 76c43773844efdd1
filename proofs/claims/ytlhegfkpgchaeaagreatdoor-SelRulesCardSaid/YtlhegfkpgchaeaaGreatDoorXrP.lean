/- The picker's compounds, selectors, lists, as plain functions; how far they go. -/
import Derived.Test.YtlhegfkpgchaeaaGreatDoorXrL
import Derived.Test.YtlhegfkpgchaeaaGreatDoorLower
namespace Go.Proofs.YtlhegfkpgchaeaaGreatDoor.Aw
open Go Go.RowKit Go.Lib
set_option linter.unusedVariables false
set_option linter.unusedSimpArgs false
set_option maxRecDepth 100000
theorem loop_eq (b : ByteArray) : ∀ (k i : Nat) (r : List UInt8), b.size - i = k → ByteArray.toList.loop b i r = r.reverse ++ b.data.toList.drop i
 | 0, i, r, h => by
  unfold ByteArray.toList.loop
  rw [if_neg (by omega)]
  have : b.data.toList.drop i = [] := by rw [List.drop_eq_nil_iff]; show b.size ≤ i; omega
  rw [this, List.append_nil]
 | k + 1, i, r, h => by
  unfold ByteArray.toList.loop
  have hi : i < b.size := by omega
  rw [if_pos hi, loop_eq b k (i + 1) _ (by omega)]
  have hl : i < b.data.toList.length := hi
  rw [List.drop_eq_getElem_cons hl, List.reverse_cons, List.append_assoc]
  congr 1
  simp only [List.cons_append, List.nil_append]
  congr 1
  unfold ByteArray.get!
  simp [getElem!_pos, hi]
theorem mk_toList (s : List UInt8) : (⟨s.toArray⟩ : ByteArray).toList = s := by
 unfold ByteArray.toList
 rw [loop_eq _ _ 0 [] rfl]
 rfl
theorem Case.strI {x y : List UInt8} {A B : Prop} (a : x = y → A) (b : ¬ x = y → B) : Case ((⟨x.toArray⟩ : ByteArray).toList == (⟨y.toArray⟩ : ByteArray).toList) A B := by
 rw [mk_toList, mk_toList]
 exact Case.mk (fun h => a (by simpa using h)) (fun h => b (by simpa using h))
theorem Case.strT {x y : List UInt8} {A B : Prop} (h : x = y) (a : A) : Case ((⟨x.toArray⟩ : ByteArray).toList == (⟨y.toArray⟩ : ByteArray).toList) A B := Case.strI (fun _ => a) (fun h' => absurd h h')
theorem Case.strF {x y : List UInt8} {A B : Prop} (h : ¬ x = y) (b : B) : Case ((⟨x.toArray⟩ : ByteArray).toList == (⟨y.toArray⟩ : ByteArray).toList) A B := Case.strI (fun h' => absurd h' h) (fun _ => b)
theorem pure_of_calls {g : FuncId} {x y : Value} (hf : FnOk P g) (hy : y.oneCell' = true) (h : ∀ w, Calls P g #[x] w fun e w' => e = .returned y ∧ Below w.heap.size w w') : Pure g [.f (.v x)] (.f (.v y)) :=
 ⟨trivial, hf, fun c w vs hC hr => by
  unfold RepL at hr
  obtain ⟨v, vs', rfl, h1, h2⟩ := hr
  unfold RepL at h2
  subst h2
  have e := rep_v h1
  subst e
  refine (h w).mono ?_
  rintro e w' ⟨rfl, hb⟩
  obtain ⟨hC', hk⟩ := hC.grow hb
  exact ⟨.f (.v y), y, [], c, ⟨rfl, rfl⟩, rfl, rfl, hC', rep_of y hy⟩⟩
def lower (s : List UInt8) : List UInt8 := s.map Low.lowC
theorem repL_vals {c : Cx} {w : World} : ∀ (xs vs : List Value), RepL c w (xs.map fun x => .f (.v x)) vs → vs = xs
 | [], vs, h => by unfold RepL at h; simpa using h
 | x :: xs, vs, h => by
  simp only [List.map_cons] at h
  unfold RepL at h
  obtain ⟨v, vs', rfl, h1, h2⟩ := h
  rw [rep_v h1, repL_vals xs vs' h2]
theorem pure_of_callsL {g : FuncId} {xs : List Value} {d : D} {y : Value} (hf : FnOk P g) (hs : scalD d) (hy : ∀ c w, Rep c w d y) (h : ∀ w, tabP w → Calls P g xs.toArray w fun e w' => e = .returned y ∧ Below w.heap.size w w') : Pure g (xs.map fun x => .f (.v x)) d :=
 ⟨hs, hf, fun c w vs hC hr => by
  have e := repL_vals xs vs hr
  subst e
  refine (h w hC.glob.tab).mono ?_
  rintro e w' ⟨rfl, hb⟩
  obtain ⟨hC', hk⟩ := hC.grow hb
  exact ⟨d, y, [], c, ⟨rfl, rfl⟩, rfl, rfl, hC', hy _ _⟩⟩
theorem lower_spec (s : List UInt8) (hl : s.length < 1000000000) : Pure 90 [.str ⟨s.toArray⟩] (.str ⟨(lower s).toArray⟩) :=
 pure_of_calls ⟨_, Tryz.func90, by rfl, rfl⟩ rfl fun w => by
  have := Low.lowerR ⟨s.toArray⟩ w (by show s.length ≤ _; omega)
  exact this
theorem lowerP_spec (s : List UInt8) (hl : s.length < 1000000000) : Pure 72 [.str ⟨s.toArray⟩] (.str ⟨(lower s).toArray⟩) :=
 pure_of_calls ⟨_, Tryz.func72, by rfl, rfl⟩ rfl fun w => by
  have := Low.lower ⟨s.toArray⟩ w (by show s.length ≤ _; omega)
  exact this
abbrev fs (s : List UInt8) : F := .v (.string ⟨s.toArray⟩)
abbrev fi (n : Int) : F := .v (.int .i64 n)
def strs (l : List (List UInt8)) : List (List F) := l.map fun s => [fs s]
theorem strs_length (l : List (List UInt8)) : (strs l).length = l.length := by simp [strs]
theorem strs_row {l : List (List UInt8)} : ∀ e ∈ strs l, e.length = 1 := by simp [strs]
theorem strs_get {l : List (List UInt8)} {i : Nat} {s : List UInt8} (h : l[i]? = some s) : (strs l)[i]? = some [fs s] := by simp [strs, h]
def wordRun (s : List UInt8) : List (List UInt8) → Nat → Nat × Bool
 | [], _ => (0, false)
 | x :: r, k => if x = s then (k, true) else wordRun s r (k + 1)
def wordV (s : List UInt8) (l : List (List UInt8)) : Nat × Bool := wordRun s l 0
structure WordI (s : List UInt8) (l : List (List UInt8)) (i : Nat) : Prop where
 le : i ≤ l.length
 run : wordRun s (l.drop i) i = wordV s l
theorem drop_cons' {α : Type} {l : List α} {i : Nat} {c : α} (h : l[i]? = some c) : l.drop i = c :: l.drop (i + 1) := by
 obtain ⟨h1, h2⟩ := List.getElem?_eq_some_iff.1 h
 rw [List.drop_eq_getElem_cons h1, h2]
theorem Fin.ib {x : Int} {b : Bool} {q : Nat × Bool} {H : Hp} {n n0 : Nat} (e1 : x = q.1) (e2 : b = q.2) : Fin (.tup [int x, bool b]) H n 0 n0 (fun d H => H = [] ∧ d = .tup [int q.1, bool q.2]) := by
 subst e1 e2
 exact Fin.scal ⟨trivial, trivial, trivial⟩ ⟨rfl, rfl⟩
theorem word_spec (s : List UInt8) (l : List (List UInt8)) (hl : l.length < 1000000000) : Pure 89 [.str ⟨s.toArray⟩, .f (.sl (strs l))] (.tup [int (wordV s l).1, bool (wordV s l).2]) := by
 have hlen := strs_length l
 refine ⟨⟨trivial, trivial, trivial⟩, spec_mk tab_ok Tryz.func89 (by rfl) rfl ?_⟩
 conv => whnf
 refine step_loop tab_ok (fun i : Nat => padK [.str ⟨s.toArray⟩, .f (.sl (strs l)), .junk, .junk, .junk, .junk, int i] 20) (fun _ => []) 0 (WordI s l) (fun i => l.length - i) 0 ⟨by simp, rfl⟩ (fun _ => rfl) ?_ ?_
 ·
  repeat' first | exact trivial | exact rfl | apply And.intro
 ·rintro i ⟨h1, h2⟩
  conv => whnf
  refine Case.dec (fun h0 => ?_) (fun h0 => ?_)
  ·obtain ⟨x, hx⟩ : ∃ x, l[i]? = some x := ⟨_, List.getElem?_eq_getElem (by omega)⟩
   rw [drop_cons' hx, wordRun] at h2
   conv => whnf
   repeat' ((first | refine Owes.mk strs_row ?_ | refine Elem.mk i _ rfl (strs_get hx) ?_ | refine Case.strI (fun _ => ?_) (fun _ => ?_) | refine Num.id (by omega) (by omega) ?_); conv => whnf)
   ·rw [if_pos (by assumption)] at h2
    refine Fin.ib ?_ ?_ <;> rw [← h2]
   ·rw [if_neg (by assumption)] at h2
    refine ⟨i + 1, ⟨by omega, h2⟩, by omega, ?_⟩
    repeat' first | exact trivial | exact rfl | apply And.intro
  ·rw [show l.drop i = [] by rw [List.drop_eq_nil_iff]; omega, wordRun] at h2
   conv => whnf
   refine Fin.ib ?_ ?_ <;> rw [← h2] <;> rfl
abbrev toksF (t : List Tok) : List (List F) := t.map tokRow
theorem toksF_row {t : List Tok} : ∀ e ∈ toksF t, e.length = 5 := by simp [tokRow]
theorem toksF_get {t : List Tok} {i : Nat} {k : Tok} (h : t[i]? = some k) : (toksF t)[i]? = some (tokRow k) := by simp [h]
def tk (t : List Tok) (i : Nat) : Tok := match t[i]? with
 | none => {}
 | some k => k
theorem Tok.scal (k : Tok) : scalD k.d := ⟨trivial, trivial, trivial, trivial, trivial, trivial⟩
theorem Fin.agg {cs ds : Cells} {H : Hp} {n n0 : Nat} (hs : scalL cs) (e : cs = ds) : Fin (.agg cs) H n 0 n0 (fun d H => H = [] ∧ d = .agg ds) := by
 subst e
 exact Fin.scal hs ⟨rfl, rfl⟩
abbrev pip (t : List Tok) (a : Nat) (b : Bool) (deep : Int) : D := .ip [.sl (toksF t), .v (.int .i64 a), .v (.bool b), .v (.int .i64 deep)]
abbrev pkr (t : List Tok) (a : Nat) (b : Bool) (deep : Int) : Cells := [.f (.sl (toksF t)), int a, bool b, int deep]
theorem psee_spec (t : List Tok) (ht : t.length < 1000000000) (a k : Nat) (b : Bool) (deep : Int) (ha : a < 2000000000) (hk : k < 1000) : Pure 86 [pip t a b deep, int k] (tk t (a + k)).d := by
 have hlen : (toksF t).length = t.length := by simp
 refine ⟨Tok.scal _, spec_mk tab_ok Tryz.func86 (by rfl) rfl ?_⟩
 conv => whnf
 refine step_kinds 2 (by decide +kernel) ?_
 conv => whnf
 repeat' first | (refine Num.id (by omega) (by omega) ?_; conv => whnf) | (refine Case.dec (fun _ => ?_) (fun _ => ?_) <;> conv => whnf)
 ·have e : tk t (a + k) = {} := by unfold tk; rw [List.getElem?_eq_none (by omega)]
  rw [e]
  exact Fin.agg (Tok.scal {}) rfl
 ·obtain ⟨c, hc⟩ : ∃ c, t[a + k]? = some c := ⟨_, List.getElem?_eq_getElem (by omega)⟩
  have e : tk t (a + k) = c := by unfold tk; rw [hc]
  rw [e]
  repeat' ((first | (refine step_kinds 2 ?hk ?_; (case hk => decide +kernel)) | refine Owes.mk toksF_row ?_ | refine Elem.mk (a + k) _ (by omega) (toksF_get hc) ?_ | refine Num.id (by omega) (by omega) ?_); conv => whnf)
  exact Fin.agg (Tok.scal c) rfl
theorem psee_at (t : List Tok) (ht : t.length < 1000000000) (a : Nat) (b : Bool) (deep : Int) (ha : a < 2000000000) (k : Int) (i : Nat) (hi : (a : Int) + k = i) (h0 : 0 ≤ k) (hk : k < 1000) : Pure 86 [pip t a b deep, int k] (tk t i).d := by
 obtain ⟨m, rfl⟩ : ∃ m : Nat, k = m := ⟨k.toNat, by omega⟩
 have : i = a + m := by omega
 subst this
 exact psee_spec t ht a m b deep ha (by omega)
theorem tk_lt {t : List Tok} {i : Nat} (h : (tk t i).kind ≠ 0) : i < t.length := by
 rcases Nat.lt_or_ge i t.length with h1 | h1
 ·exact h1
 ·exfalso; apply h; unfold tk; rw [List.getElem?_eq_none h1]
def isD (t : List Tok) (i : Nat) (c : Int) : Bool := decide ((tk t i).kind = 10) && decide ((tk t i).c = c)
theorem isD_lt {t : List Tok} {i : Nat} {c : Int} (h : isD t i c = true) : i < t.length := by
 simp only [isD, Bool.and_eq_true, decide_eq_true_eq] at h
 exact tk_lt (by omega)
theorem pdelim_at (t : List Tok) (ht : t.length < 1000000000) (a : Nat) (b : Bool) (deep : Int) (ha : a < 2000000000) (k c : Int) (i : Nat) (hi : (a : Int) + k = i) (h0 : 0 ≤ k) (hk : k < 1000) : Pure 133 [pip t a b deep, int k, int c] (bool (isD t i c)) := by
 refine .mk trivial (spec_mk tab_ok Tryz.func133 (by rfl) rfl ?_)
 conv => whnf
 repeat' first | ((first | refine Case.decT (by assumption) ?_ | refine Case.decF (by assumption) ?_ | refine (psee_at t ht a b deep ha k i hi h0 hk).call ⟨rfl, rfl, rfl⟩ ?_); conv => whnf) | (refine Case.dec (fun _ => ?_) (fun _ => ?_) <;> conv => whnf)
 all_goals (refine Fin.isB ?_; rw [Bool.eq_iff_iff]; simp only [isD, Bool.and_eq_true, Bool.or_eq_true, Bool.not_eq_true', decide_eq_true_eq, decide_eq_false_iff_not, beq_iff_eq, beq_eq_false_iff_ne, bne_iff_ne, ne_eq, Bool.false_eq_true, reduceCtorEq, iff_true, true_iff, iff_false, false_iff, not_true_eq_false, not_false_eq_true] at *; try omega)
def pcomb (t : List Tok) (i : Nat) : Int := if isD t i 62 then 2 else if isD t i 43 then 3 else if isD t i 126 then 4 else 0
theorem pcomb_spec (t : List Tok) (ht : t.length < 1000000000) (a : Nat) (b : Bool) (deep : Int) (ha : a < 2000000000) : Pure 116 [pip t a b deep] (int (pcomb t a)) := by
 refine .mk trivial (spec_mk tab_ok Tryz.func116 (by rfl) rfl ?_)
 conv => whnf
 repeat' first | (refine (pdelim_at t ht a b deep ha _ _ a (by omega) (by omega) (by omega)).call ⟨rfl, rfl, rfl, rfl⟩ ?_; conv => whnf) | (refine Case.mk (fun _ => ?_) (fun _ => ?_) <;> conv => whnf)
 all_goals (refine Fin.isI ?_; simp [pcomb, *])
theorem pover_spec (t : List Tok) (ht : t.length < 1000000000) (a : Nat) (b : Bool) (deep : Int) (ha : a < 2000000000) : Pure 87 [pip t a b deep] (bool (decide (t.length ≤ a))) := by
 have hlen : (toksF t).length = t.length := by simp
 refine .mk trivial (spec_mk tab_ok Tryz.func87 (by rfl) rfl ?_)
 conv => whnf
 repeat' (refine step_kinds 2 ?hk ?_; (case hk => decide +kernel); conv => whnf)
 all_goals (refine Fin.isB ?_; rw [hlen]; simp)
def pends (t : List Tok) (i : Nat) : Bool := decide (t.length ≤ i) || decide ((tk t i).kind = 13) || decide ((tk t i).kind = 17)
theorem pends_spec (t : List Tok) (ht : t.length < 1000000000) (a : Nat) (b : Bool) (deep : Int) (ha : a < 2000000000) : Pure 117 [pip t a b deep] (bool (pends t a)) := by
 refine .mk trivial (spec_mk tab_ok Tryz.func117 (by rfl) rfl ?_)
 conv => whnf
 repeat' first | ((first | refine Case.yes ?_ | refine Case.decT (by assumption) ?_ | refine Case.decF (by assumption) ?_ | refine (psee_at t ht a b deep ha _ a (by omega) (by omega) (by omega)).call ⟨rfl, rfl, rfl⟩ ?_ | refine (pover_spec t ht a b deep ha).call ⟨rfl, rfl⟩ ?_); conv => whnf) | (refine Case.dec (fun _ => ?_) (fun _ => ?_) <;> conv => whnf)
 all_goals (refine Fin.isB ?_; rw [Bool.eq_iff_iff]; simp only [pends, Bool.and_eq_true, Bool.or_eq_true, Bool.not_eq_true', decide_eq_true_eq, decide_eq_false_iff_not, beq_iff_eq, beq_eq_false_iff_ne, bne_iff_ne, ne_eq, Bool.false_eq_true, reduceCtorEq, iff_true, true_iff, iff_false, false_iff, not_true_eq_false, not_false_eq_true] at *; try omega)
mutual
def clsD : D → Prop
 | .f _ => True
 | .nil => True
 | .junk => True
 | .agg cs => clsL cs
 | .tup cs => clsL cs
 | _ => False
def clsL : List D → Prop
 | [] => True
 | d :: ds => clsD d ∧ clsL ds
end
mutual
theorem into_cls (n0 n h : Nat) : ∀ d : D, clsD d → intoD n0 n h d d
 | .f (.v x), _ => by unfold intoD; rfl
 | .f (.sl _), _ => by unfold intoD; rfl
 | .nil, _ => by unfold intoD; rfl
 | .junk, _ => by unfold intoD; trivial
 | .agg cs, hs => by unfold clsD at hs; unfold intoD; exact intos_cls n0 n h cs hs
 | .tup cs, hs => by unfold clsD at hs; unfold intoD; exact intos_cls n0 n h cs hs
 | .own _ _ _ _, hs => hs.elim
 | .optr _ _ _ _ _ _, hs => hs.elim
 | .ptr _ _, hs => hs.elim
 | .ip _, hs => hs.elim
 | .fn _ _, hs => hs.elim
 | .yl _ _ _ _ _, hs => hs.elim
theorem intos_cls (n0 n h : Nat) : ∀ ds : List D, clsL ds → intoL n0 n h ds ds
 | [], _ => by unfold intoL; rfl
 | d :: ds, hs => by unfold clsL at hs; unfold intoL; exact ⟨into_cls n0 n h d hs.1, intos_cls n0 n h ds hs.2⟩
end
mutual
theorem ren_cls (ρ σ : List Nat) : ∀ d : D, clsD d → d.ren ρ σ = d
 | .f _, _ => by simp [D.ren]
 | .nil, _ => by simp [D.ren]
 | .junk, _ => by simp [D.ren]
 | .agg cs, hs => by unfold clsD at hs; simp [D.ren, renL_cls ρ σ cs hs]
 | .tup cs, hs => by unfold clsD at hs; simp [D.ren, renL_cls ρ σ cs hs]
 | .own _ _ _ _, hs => hs.elim
 | .optr _ _ _ _ _ _, hs => hs.elim
 | .ptr _ _, hs => hs.elim
 | .ip _, hs => hs.elim
 | .fn _ _, hs => hs.elim
 | .yl _ _ _ _ _, hs => hs.elim
theorem renL_cls (ρ σ : List Nat) : ∀ ds : List D, clsL ds → renL ρ σ ds = ds
 | [], _ => rfl
 | d :: ds, hs => by unfold clsL at hs; simp [renL, ren_cls ρ σ d hs.1, renL_cls ρ σ ds hs.2]
end
theorem Fin.pk {d : D} {t : List Tok} {p : Int} {b b' : Bool} {q q' : Int} {more : Hp} {n : Nat} {R : D → Hp → Prop} (a : Nat) (hs : clsD d) (hp : p = a) (hb : b = b') (hq : q = q') (hR : R d [some (pkr t a b' q')]) : Fin d (some [.f (.sl (toksF t)), int p, bool b, int q] :: more) n 1 0 R := by
 subst hp hb hq
 exact Fin.mk d [some (pkr t a b q)] hR rfl ⟨by unfold intoL; exact ⟨into_cls _ _ _ d hs, by unfold intoL; rfl⟩, ⟨rfl, rfl, rfl, rfl, rfl⟩, by unfold intoH; cases more <;> trivial⟩
def PMeth (g : FuncId) (t : List Tok) (a : Nat) (b : Bool) (q : Int) (V : D) (p : Nat) (b' : Bool) : Prop := clsD V ∧ Spec P g [.ptr 0 0] [some (pkr t a b q)] 0 (fun d H => d = V ∧ H = [some (pkr t p b' q)])
theorem PMeth.call {g : FuncId} {t : List Tok} {a p : Nat} {b b' : Bool} {q : Int} {V : D} {E : List D} {H : Hp} {n : Nat} {K : KD} (h : PMeth g t a b q V p b') (k : K V E (some (pkr t p b' q) :: H) n) : Call P g [.ptr 0 0] E (some (pkr t a b q) :: H) n K := by
 refine call_gen («as» := [.ptr 0 0]) [0] [] h.2 (by simp) (by simp) (by simp) (by simp) ?_ ?_ ?_
 ·unfold fitH fitH; exact ⟨⟨rfl, ⟨trivial, trivial, trivial, trivial, trivial⟩⟩, trivial⟩
 ·exact ⟨Nat.zero_lt_one, trivial⟩
 ·rintro d Hs' ⟨rfl, rfl⟩ _
  rw [ren_cls _ _ _ h.1, killsL_nil, killsH_nil]
  exact k
def wsTo (t : List Tok) : Nat → Nat → Nat
 | 0, i => i
 | f + 1, i => if (tk t i).kind = 9 then wsTo t f (i + 1) else i
def ws (t : List Tok) (i : Nat) : Nat := wsTo t (t.length + 1) i
theorem wsTo_fuel (t : List Tok) : ∀ (f g i : Nat), t.length - i < f → t.length - i < g → wsTo t f i = wsTo t g i
 | 0, _, _, h, _ => by omega
 | f + 1, 0, _, _, h => by omega
 | f + 1, g + 1, i, h1, h2 => by
  unfold wsTo
  split
  ·rename_i h
   have := tk_lt (t := t) (i := i) (by omega)
   exact wsTo_fuel t f g _ (by omega) (by omega)
  ·rfl
theorem wsTo_le (t : List Tok) : ∀ (f i : Nat), i ≤ wsTo t f i ∧ (wsTo t f i = i ∨ wsTo t f i ≤ t.length)
 | 0, i => ⟨Nat.le_refl _, .inl rfl⟩
 | f + 1, i => by
  unfold wsTo
  split
  ·rename_i h
   have := tk_lt (t := t) (i := i) (by omega)
   have := wsTo_le t f (i + 1)
   omega
  ·exact ⟨Nat.le_refl _, .inl rfl⟩
theorem ws_le (t : List Tok) (i : Nat) : i ≤ ws t i ∧ (ws t i = i ∨ ws t i ≤ t.length) := wsTo_le t _ i
structure WsI (t : List Tok) (a i : Nat) : Prop where
 ge : a ≤ i
 le : i = a ∨ i ≤ t.length
 run : ∀ f, t.length - i < f → wsTo t f i = ws t a
theorem pwhite_spec (t : List Tok) (ht : t.length < 1000000000) (a : Nat) (b : Bool) (q : Int) (ha : a < 1900000000) : PMeth 84 t a b q (bool (decide (a < ws t a))) (ws t a) b := by
 refine ⟨trivial, spec_mk tab_ok Tryz.func84 (by rfl) rfl ?_⟩
 conv => whnf
 repeat' first
  | (refine Case.not ?_; conv => whnf)
  | (refine Case.yes ?_; conv => whnf)
  | (refine Case.no ?_; conv => whnf)
  | (refine Case.isTrue (by assumption) ?_; conv => whnf)
  | (refine Case.isFalse (by assumption) ?_; conv => whnf)
  | (refine Case.decT (by assumption) ?_; conv => whnf)
  | (refine Case.decF (by assumption) ?_; conv => whnf)
  | (refine Case.decT (by omega) ?_; conv => whnf)
  | (refine Case.decF (by omega) ?_; conv => whnf)
  | (refine Case.beqT (by omega) ?_; conv => whnf)
  | (refine Case.beqF (by omega) ?_; conv => whnf)
  | (refine Case.strT (by assumption) ?_; conv => whnf)
  | (refine Case.strF (by assumption) ?_; conv => whnf)
  | (refine Case.strF (by simp only [*]; decide) ?_; conv => whnf)
  | (refine step_kinds 2 ?hk ?_; (case hk => decide +kernel); conv => whnf)
  | (refine step_kinds 3 ?hk ?_; (case hk => decide +kernel); conv => whnf)
  | (refine Num.id (by omega) (by omega) ?_; conv => whnf)
  | (refine Case.strI (fun _ => ?_) (fun _ => ?_) <;> conv => whnf)
  | (refine Both.mk ?_ ?_ <;> conv => whnf)
  | (refine Case.dec (fun _ => ?_) (fun _ => ?_) <;> conv => whnf)
  | (refine Case.beqI (fun _ => ?_) (fun _ => ?_) <;> conv => whnf)
  | (refine Case.mk (fun _ => ?_) (fun _ => ?_) <;> conv => whnf)
  | (refine Way.fst ?_; conv => whnf)
 refine step_loop tab_ok (fun i : Nat => padK [.ptr 0 0, .junk, .junk, int a] 25) (fun i => [some (pkr t i b q)]) 0 (WsI t a) (fun i => t.length - i) a ⟨by omega, by omega, fun f hf => wsTo_fuel t _ _ _ hf (by omega)⟩ (fun _ => rfl) ?_ ?_
 ·
  repeat' first | exact trivial | exact rfl | exact (by decide : 0 < 1) | apply And.intro
 ·rintro i ⟨h1, h2, h3⟩
  have e := h3 (t.length - i + 1) (by omega)
  rw [wsTo] at e
  conv => whnf
  repeat' first | ((first | refine (psee_at t ht i b q (by omega) _ i (by omega) (by omega) (by omega)).call ⟨⟨rfl, rfl, rfl, rfl, trivial⟩, rfl, rfl⟩ ?_ | refine Num.id (by omega) (by omega) ?_); conv => whnf) | (refine Case.dec (fun _ => ?_) (fun _ => ?_) <;> conv => whnf)
  ·have := tk_lt (t := t) (i := i) (by omega)
   refine ⟨i + 1, ⟨by omega, by omega, fun f hf => by rw [← h3 (f + 1) (by omega), wsTo, if_pos (by assumption)]⟩, by omega, ?_⟩
   repeat' first | exact trivial | exact rfl | exact (by decide : 0 < 1) | apply And.intro
  ·rw [if_neg (by assumption)] at e
   subst e
   refine Fin.pk _ trivial rfl rfl rfl ⟨?_, rfl⟩
   simp
structure Att where
 name : List UInt8 := []
 op : Int := 0
 text : List UInt8 := []
deriving DecidableEq
abbrev Att.cells (a : Att) : Cells := [.str ⟨a.name.toArray⟩, int a.op, .str ⟨a.text.toArray⟩]
abbrev Att.d (a : Att) : D := .agg a.cells
def Att.row (a : Att) : List F := [fs a.name, fi a.op, fs a.text]
structure Psd where
 kind : Int := 0
 a : Int := 0
 b : Int := 0
 list : List (List F) := []
abbrev Psd.cells (p : Psd) : Cells := [int p.kind, int p.a, int p.b, .f (.sl p.list)]
abbrev Psd.d (p : Psd) : D := .agg p.cells
def Psd.row (p : Psd) : List F := [fi p.kind, fi p.a, fi p.b, .sl p.list]
def opIx (c : Int) : Int := if c = 126 then 2 else if c = 124 then 3 else if c = 94 then 4 else if c = 36 then 5 else if c = 42 then 6 else 0
def rOp (t : List Tok) (i : Nat) : Int × Nat :=
 if isD t i 61 then (1, i + 1) else if (tk t i).kind = 10 ∧ isD t (i + 1) 61 = true then (opIx (tk t i).c, i + 2) else (0, i)
def rAttr (t : List Tok) (i : Nat) : Att × Nat × Bool :=
 if (tk t (ws t i)).kind ≠ 1 then ({ name := lower (tk t (ws t i)).text }, ws t i, true) else
 if (tk t (ws t (ws t i + 1))).kind = 19 then ({ name := lower (tk t (ws t i)).text }, ws t (ws t i + 1) + 1, false) else
 if (rOp t (ws t (ws t i + 1))).1 = 0 then ({ name := lower (tk t (ws t i)).text }, (rOp t (ws t (ws t i + 1))).2, true) else
 if (tk t (ws t (rOp t (ws t (ws t i + 1))).2)).kind ≠ 1 ∧ (tk t (ws t (rOp t (ws t (ws t i + 1))).2)).kind ≠ 4 then
  ({ name := lower (tk t (ws t i)).text, op := (rOp t (ws t (ws t i + 1))).1, text := (tk t (ws t (rOp t (ws t (ws t i + 1))).2)).text }, ws t (rOp t (ws t (ws t i + 1))).2, true) else
 ({ name := lower (tk t (ws t i)).text, op := (rOp t (ws t (ws t i + 1))).1, text := (tk t (ws t (rOp t (ws t (ws t i + 1))).2)).text }, ws t (ws t (rOp t (ws t (ws t i + 1))).2 + 1) + 1, decide ((tk t (ws t (ws t (rOp t (ws t (ws t i + 1))).2 + 1))).kind ≠ 19))
def opTo (c : Int) (i : Nat) : Int := if 1 ≤ i ∧ c = 126 then 2 else if 2 ≤ i ∧ c = 124 then 3 else if 3 ≤ i ∧ c = 94 then 4 else if 4 ≤ i ∧ c = 36 then 5 else if 5 ≤ i ∧ c = 42 then 6 else 0
def opsL : List Int := [126, 124, 94, 36, 42]
set_option maxHeartbeats 2000000 in
theorem rattr_spec (t : List Tok) (ht : t.length < 100000000) (hx : ∀ i, (tk t i).text.length < 1000000000) (a : Nat) (q : Int) (ha : a ≤ t.length) : PMeth 134 t a false q (rAttr t a).1.d (rAttr t a).2.1 (rAttr t a).2.2 := by
 refine ⟨⟨trivial, trivial, trivial, trivial⟩, spec_mk tab_ok Tryz.func134 (by rfl) rfl ?_⟩
 unfold rAttr
 obtain ⟨k1, l1⟩ := ws_le t a
 conv => whnf
 repeat' first | ((first | refine Case.not ?_ | refine (pwhite_spec t (by omega) a false q (by omega)).call ?_ | refine (psee_at t (by omega) (ws t a) false q (by omega) _ (ws t a) (by omega) (by omega) (by omega)).call ⟨⟨rfl, rfl, rfl, rfl, trivial⟩, rfl, rfl⟩ ?_ | refine (lower_spec _ (hx _)).call ⟨rfl, rfl⟩ ?_ | refine Num.id (by omega) (by omega) ?_); conv => whnf) | (refine Case.dec (fun _ => ?_) (fun _ => ?_) <;> conv => whnf)
 ·have hl1 := tk_lt (t := t) (i := ws t a) (by omega)
  rw [if_neg (by simpa using ‹_›)]
  generalize ws t a = i1 at *
  have k2 := ws_le t (i1 + 1)
  repeat' first | ((first | refine Case.yes ?_ | refine Case.no ?_ | refine Case.decT (by assumption) ?_ | refine Case.decF (by assumption) ?_ | refine (pwhite_spec t (by omega) (i1 + 1) false q (by omega)).call ?_ | refine (psee_at t (by omega) (ws t (i1 + 1)) false q (by omega) _ (ws t (i1 + 1)) (by omega) (by omega) (by omega)).call ⟨⟨rfl, rfl, rfl, rfl, trivial⟩, rfl, rfl⟩ ?_ | refine (pdelim_at t (by omega) (ws t (i1 + 1)) false q (by omega) _ _ (ws t (i1 + 1) + 1) (by omega) (by omega) (by omega)).call ⟨⟨rfl, rfl, rfl, rfl, trivial⟩, rfl, rfl, rfl⟩ ?_ | refine Num.id (by omega) (by omega) ?_); conv => whnf) | (refine Case.dec (fun _ => ?_) (fun _ => ?_) <;> conv => whnf) | (refine Case.mk (fun _ => ?_) (fun _ => ?_) <;> conv => whnf)
  ·rw [if_pos (by assumption)]
   exact Fin.pk _ ⟨trivial, trivial, trivial, trivial⟩ rfl rfl rfl ⟨rfl, rfl⟩
  ·have hop : rOp t (ws t (i1 + 1)) = (1, ws t (i1 + 1) + 1) := by unfold rOp isD; rw [if_pos (by simp [*])]
   have hi2 := tk_lt (t := t) (i := ws t (i1 + 1)) (by omega)
   rw [if_neg (by omega), hop]
   dsimp only
   have k4 := ws_le t (ws t (i1 + 1) + 1)
   have k5 := ws_le t (ws t (ws t (i1 + 1) + 1) + 1)
   repeat' first | ((first | refine Case.not ?_ | refine Case.no ?_ | refine Case.decT (by assumption) ?_ | refine Case.decF (by assumption) ?_ | refine (pwhite_spec t (by omega) (ws t (i1 + 1) + 1) false q (by omega)).call ?_ | refine (psee_at t (by omega) (ws t (ws t (i1 + 1) + 1)) false q (by omega) _ (ws t (ws t (i1 + 1) + 1)) (by omega) (by omega) (by omega)).call ⟨⟨rfl, rfl, rfl, rfl, trivial⟩, rfl, rfl⟩ ?_ | refine (pwhite_spec t (by omega) (ws t (ws t (i1 + 1) + 1) + 1) false q (by omega)).call ?_ | refine (psee_at t (by omega) (ws t (ws t (ws t (i1 + 1) + 1) + 1)) false q (by omega) _ (ws t (ws t (ws t (i1 + 1) + 1) + 1)) (by omega) (by omega) (by omega)).call ⟨⟨rfl, rfl, rfl, rfl, trivial⟩, rfl, rfl⟩ ?_ | refine Num.id (by omega) (by omega) ?_); conv => whnf) | (refine Case.dec (fun _ => ?_) (fun _ => ?_) <;> conv => whnf)
   all_goals repeat first | rw [if_pos (by omega)] | rw [if_neg (by omega)]
   all_goals exact Fin.pk _ ⟨trivial, trivial, trivial, trivial⟩ rfl (by simp [*]) rfl ⟨by first | rfl | simp only [*], rfl⟩
  ·have hi2 := tk_lt (t := t) (i := ws t (i1 + 1)) (by omega)
   have hi3 := isD_lt (by assumption : isD t (ws t (i1 + 1) + 1) 61 = true)
   have hop : rOp t (ws t (i1 + 1)) = (opIx (tk t (ws t (i1 + 1))).c, ws t (i1 + 1) + 2) := by unfold rOp; rw [if_neg (by simp [isD, *]), if_pos ⟨by assumption, by assumption⟩]
   rw [if_neg (by omega), hop]
   dsimp only
   refine step_loop tab_ok (fun i : Nat => padK [.ptr 0 0, .junk, .ptr 1 0, .ptr 2 0, .ptr 3 0, .own 0 3 1 (ptsF opsL), int i] 144) (fun i => [some (pkr t (ws t (i1 + 1)) false q), some [.str ⟨#[]⟩, int 0, .str ⟨#[]⟩], some [.str ⟨(lower (tk t i1).text).toArray⟩, int (opTo (tk t (ws t (i1 + 1))).c i), .str ⟨#[]⟩], some (tk t (ws t (i1 + 1))).cells]) 1 (fun i => i ≤ 5) (fun i => 5 - i) 0 (by omega) (fun _ => rfl) ?_ ?_
   ·
    repeat' first | exact trivial | exact rfl | exact (by decide : 0 < 1) | exact Nat.le_refl _ | exact Nat.zero_lt_succ _ | (show _ < List.length _; simp; done) | apply And.intro
   ·intro i hi
    have h5 : i = 0 ∨ i = 1 ∨ i = 2 ∨ i = 3 ∨ i = 4 ∨ i = 5 := by omega
    rcases h5 with rfl | rfl | rfl | rfl | rfl | rfl
    ·conv => whnf
     repeat' first | ((first | refine Case.yes ?_ | (refine step_kinds 2 ?hk ?_; (case hk => decide +kernel)) | refine Owes.mk (by decide) ?_ | refine Elem.mk 0 _ rfl rfl ?_ | refine Num.id (by omega) (by omega) ?_); conv => whnf) | (refine Case.dec (fun _ => ?_) (fun _ => ?_) <;> conv => whnf)
     all_goals refine ⟨0 + 1, by omega, by omega, ?_⟩
     ·
      repeat' first | exact trivial | exact rfl | exact (by decide : 0 < 1) | exact Nat.le_refl _ | exact Nat.zero_lt_succ _ | (show _ < List.length _; simp; done) | apply And.intro | exact congrArg int (by unfold opTo; (repeat' split) <;> omega)
     ·
      repeat' first | exact trivial | exact rfl | exact (by decide : 0 < 1) | exact Nat.le_refl _ | exact Nat.zero_lt_succ _ | (show _ < List.length _; simp; done) | apply And.intro | exact congrArg int (by unfold opTo; (repeat' split) <;> omega)
    ·conv => whnf
     repeat' first | ((first | refine Case.yes ?_ | (refine step_kinds 2 ?hk ?_; (case hk => decide +kernel)) | refine Owes.mk (by decide) ?_ | refine Elem.mk 1 _ rfl rfl ?_ | refine Num.id (by omega) (by omega) ?_); conv => whnf) | (refine Case.dec (fun _ => ?_) (fun _ => ?_) <;> conv => whnf)
     all_goals refine ⟨1 + 1, by omega, by omega, ?_⟩
     ·
      repeat' first | exact trivial | exact rfl | exact (by decide : 0 < 1) | exact Nat.le_refl _ | exact Nat.zero_lt_succ _ | (show _ < List.length _; simp; done) | apply And.intro | exact congrArg int (by unfold opTo; (repeat' split) <;> omega)
     ·
      repeat' first | exact trivial | exact rfl | exact (by decide : 0 < 1) | exact Nat.le_refl _ | exact Nat.zero_lt_succ _ | (show _ < List.length _; simp; done) | apply And.intro | exact congrArg int (by unfold opTo; (repeat' split) <;> omega)
    ·conv => whnf
     repeat' first | ((first | refine Case.yes ?_ | (refine step_kinds 2 ?hk ?_; (case hk => decide +kernel)) | refine Owes.mk (by decide) ?_ | refine Elem.mk 2 _ rfl rfl ?_ | refine Num.id (by omega) (by omega) ?_); conv => whnf) | (refine Case.dec (fun _ => ?_) (fun _ => ?_) <;> conv => whnf)
     all_goals refine ⟨2 + 1, by omega, by omega, ?_⟩
     ·
      repeat' first | exact trivial | exact rfl | exact (by decide : 0 < 1) | exact Nat.le_refl _ | exact Nat.zero_lt_succ _ | (show _ < List.length _; simp; done) | apply And.intro | exact congrArg int (by unfold opTo; (repeat' split) <;> omega)
     ·
      repeat' first | exact trivial | exact rfl | exact (by decide : 0 < 1) | exact Nat.le_refl _ | exact Nat.zero_lt_succ _ | (show _ < List.length _; simp; done) | apply And.intro | exact congrArg int (by unfold opTo; (repeat' split) <;> omega)
    ·conv => whnf
     repeat' first | ((first | refine Case.yes ?_ | (refine step_kinds 2 ?hk ?_; (case hk => decide +kernel)) | refine Owes.mk (by decide) ?_ | refine Elem.mk 3 _ rfl rfl ?_ | refine Num.id (by omega) (by omega) ?_); conv => whnf) | (refine Case.dec (fun _ => ?_) (fun _ => ?_) <;> conv => whnf)
     all_goals refine ⟨3 + 1, by omega, by omega, ?_⟩
     ·
      repeat' first | exact trivial | exact rfl | exact (by decide : 0 < 1) | exact Nat.le_refl _ | exact Nat.zero_lt_succ _ | (show _ < List.length _; simp; done) | apply And.intro | exact congrArg int (by unfold opTo; (repeat' split) <;> omega)
     ·
      repeat' first | exact trivial | exact rfl | exact (by decide : 0 < 1) | exact Nat.le_refl _ | exact Nat.zero_lt_succ _ | (show _ < List.length _; simp; done) | apply And.intro | exact congrArg int (by unfold opTo; (repeat' split) <;> omega)
    ·conv => whnf
     repeat' first | ((first | refine Case.yes ?_ | (refine step_kinds 2 ?hk ?_; (case hk => decide +kernel)) | refine Owes.mk (by decide) ?_ | refine Elem.mk 4 _ rfl rfl ?_ | refine Num.id (by omega) (by omega) ?_); conv => whnf) | (refine Case.dec (fun _ => ?_) (fun _ => ?_) <;> conv => whnf)
     all_goals refine ⟨4 + 1, by omega, by omega, ?_⟩
     ·
      repeat' first | exact trivial | exact rfl | exact (by decide : 0 < 1) | exact Nat.le_refl _ | exact Nat.zero_lt_succ _ | (show _ < List.length _; simp; done) | apply And.intro | exact congrArg int (by unfold opTo; (repeat' split) <;> omega)
     ·
      repeat' first | exact trivial | exact rfl | exact (by decide : 0 < 1) | exact Nat.le_refl _ | exact Nat.zero_lt_succ _ | (show _ < List.length _; simp; done) | apply And.intro | exact congrArg int (by unfold opTo; (repeat' split) <;> omega)
    ·have e5 : opTo (tk t (ws t (i1 + 1))).c 5 = opIx (tk t (ws t (i1 + 1))).c := by
      unfold opTo opIx
      simp
     rw [e5]
     conv => whnf
     refine Case.decF (by simp [ptsF, opsL]) ?_
     conv => whnf
     have k4 := ws_le t (ws t (i1 + 1) + 2)
     have k5 := ws_le t (ws t (ws t (i1 + 1) + 2) + 1)
     repeat' first | ((first | refine Case.not ?_ | refine Case.no ?_ | refine Case.decT (by assumption) ?_ | refine Case.decF (by assumption) ?_ | refine (pwhite_spec t (by omega) (ws t (i1 + 1) + 2) false q (by omega)).call ?_ | refine (psee_at t (by omega) (ws t (ws t (i1 + 1) + 2)) false q (by omega) _ (ws t (ws t (i1 + 1) + 2)) (by omega) (by omega) (by omega)).call ⟨⟨rfl, rfl, rfl, rfl, trivial⟩, rfl, rfl⟩ ?_ | refine (pwhite_spec t (by omega) (ws t (ws t (i1 + 1) + 2) + 1) false q (by omega)).call ?_ | refine (psee_at t (by omega) (ws t (ws t (ws t (i1 + 1) + 2) + 1)) false q (by omega) _ (ws t (ws t (ws t (i1 + 1) + 2) + 1)) (by omega) (by omega) (by omega)).call ⟨⟨rfl, rfl, rfl, rfl, trivial⟩, rfl, rfl⟩ ?_ | refine Num.id (by omega) (by omega) ?_); conv => whnf) | (refine Case.dec (fun _ => ?_) (fun _ => ?_) <;> conv => whnf)
     all_goals repeat first | rw [if_pos (by omega)] | rw [if_neg (by omega)]
     all_goals exact Fin.pk _ ⟨trivial, trivial, trivial, trivial⟩ rfl (by simp [*]) rfl ⟨by first | rfl | simp only [*], rfl⟩
  ·have hop : rOp t (ws t (i1 + 1)) = (0, ws t (i1 + 1)) := by unfold rOp; rw [if_neg (by simp [isD, *]), if_neg (by simp [*])]
   rw [if_neg (by omega), hop]
   exact Fin.pk _ ⟨trivial, trivial, trivial, trivial⟩ rfl rfl rfl ⟨rfl, rfl⟩
  ·have hop : rOp t (ws t (i1 + 1)) = (0, ws t (i1 + 1)) := by unfold rOp; rw [if_neg (by simp [isD, *]), if_neg (by simp [*])]
   rw [if_neg (by omega), hop]
   exact Fin.pk _ ⟨trivial, trivial, trivial, trivial⟩ rfl rfl rfl ⟨rfl, rfl⟩
 ·rw [if_pos (by assumption)]
  exact Fin.pk _ ⟨trivial, trivial, trivial, trivial⟩ rfl rfl rfl ⟨rfl, rfl⟩
def oddB : List UInt8 := [111, 100, 100]
def evenB : List UInt8 := [101, 118, 101, 110]
def rNthP (k : Tok) : Psd × Bool :=
 if k.kind = 1 ∧ lower k.text = oddB then ({ kind := 6, a := 2, b := 1 }, false) else if k.kind = 1 ∧ lower k.text = evenB then ({ kind := 6, a := 2 }, false)
 else if k.kind = 6 ∧ k.whole = true then ({ kind := 6, b := k.n.tdiv 1000 }, false) else ({ kind := 6 }, true)
def rNth (t : List Tok) (i : Nat) : Psd × Nat × Bool :=
 ((rNthP (tk t (ws t i))).1, ws t (ws t i + 1) + 1, (rNthP (tk t (ws t i))).2 || decide ((tk t (ws t (ws t i + 1))).kind ≠ 17))
theorem tdiv1000 {n : Int} (h : -9223372036854775808 ≤ n ∧ n < 9223372036854775808) : -9223372036854775808 ≤ n.tdiv 1000 ∧ n.tdiv 1000 < 9223372036854775808 := by
 rcases Int.le_total 0 n with h0 | h0
 ·have := Int.tdiv_nonneg h0 (b := 1000) (by omega)
  have := Int.tdiv_le_self 1000 h0
  omega
 ·have e : n.tdiv 1000 = -((-n).tdiv 1000) := by rw [Int.neg_tdiv]; omega
  have := Int.tdiv_nonneg (a := -n) (by omega) (b := 1000) (by omega)
  have := Int.tdiv_le_self (a := -n) 1000 (by omega)
  omega
set_option maxHeartbeats 1000000 in
theorem rnth_spec (t : List Tok) (ht : t.length < 100000000) (hx : ∀ i, (tk t i).text.length < 1000000000) (hn : ∀ i, -9223372036854775808 ≤ (tk t i).n ∧ (tk t i).n < 9223372036854775808) (a : Nat) (q : Int) (ha : a ≤ t.length) : PMeth 151 t a false q (.agg [int (rNth t a).1.kind, int (rNth t a).1.a, int (rNth t a).1.b, .nil]) (rNth t a).2.1 (rNth t a).2.2 := by
 refine ⟨⟨trivial, trivial, trivial, trivial, trivial⟩, spec_mk tab_ok Tryz.func151 (by rfl) rfl ?_⟩
 have k1 := ws_le t a
 have k2 := ws_le t (ws t a + 1)
 have hn1 := hn (ws t a)
 conv => whnf
 repeat' first
  | (refine Case.not ?_; conv => whnf)
  | (refine Case.no ?_; conv => whnf)
  | (refine Case.decT (by assumption) ?_; conv => whnf)
  | (refine Case.decF (by assumption) ?_; conv => whnf)
  | (refine Case.decF (by omega) ?_; conv => whnf)
  | (refine (pwhite_spec t (by omega) a false q (by omega)).call ?_; conv => whnf)
  | (refine (psee_at t (by omega) (ws t a) false q (by omega) _ (ws t a) (by omega) (by omega) (by omega)).call ⟨⟨rfl, rfl, rfl, rfl, trivial⟩, rfl, rfl⟩ ?_; conv => whnf)
  | (refine (lower_spec _ (hx _)).call ⟨rfl, rfl⟩ ?_; conv => whnf)
  | (refine Owes.mk (by decide) ?_; conv => whnf)
  | (refine Num.id (tdiv1000 hn1).1 (tdiv1000 hn1).2 ?_; conv => whnf)
  | (refine (pwhite_spec t (by omega) (ws t a + 1) _ q (by omega)).call ?_; conv => whnf)
  | (refine (psee_at t (by omega) (ws t (ws t a + 1)) _ q (by omega) _ (ws t (ws t a + 1)) (by omega) (by omega) (by omega)).call ⟨⟨rfl, rfl, rfl, rfl, trivial⟩, rfl, rfl⟩ ?_; conv => whnf)
  | (refine Num.id (by omega) (by omega) ?_; conv => whnf)
  | (refine Case.strI (fun _ => ?_) (fun _ => ?_) <;> conv => whnf)
  | (refine Case.dec (fun _ => ?_) (fun _ => ?_) <;> conv => whnf)
  | (refine Case.mk (fun _ => ?_) (fun _ => ?_) <;> conv => whnf)
 all_goals refine Fin.pk (ws t (ws t a + 1) + 1) ⟨trivial, trivial, trivial, trivial, trivial⟩ rfl ?_ rfl ⟨?_, rfl⟩
 all_goals simp [rNth, rNthP, oddB, evenB, *] <;> (repeat' apply And.intro) <;> rfl
structure Cmp where
  tag : List UInt8 := []
  ids : List (List UInt8) := []
  cls : List (List UInt8) := []
  atts : List Att := []
  pss : List Psd := []
abbrev Cmp.fs (c : Cmp) : List F := [Aw.fs c.tag, .sl (strs c.ids), .sl (strs c.cls), .sl (c.atts.map Att.row), .sl (c.pss.map Psd.row)]
abbrev Cmp.d (c : Cmp) : D := .agg [.str ⟨c.tag.toArray⟩, .f (.sl (strs c.ids)), .f (.sl (strs c.cls)), .f (.sl (c.atts.map Att.row)), .f (.sl (c.pss.map Psd.row))]
def partRow (p : Int × Cmp) : List F := fi p.1 :: p.2.fs
abbrev Selr := List (Int × Cmp)
def selRow (s : Selr) : List F := [.sl (s.map partRow)]
def fiveW : List (List UInt8) := [[114, 111, 111, 116], [102, 105, 114, 115, 116, 45, 99, 104, 105, 108, 100], [108, 97, 115, 116, 45, 99, 104, 105, 108, 100], [111, 110, 108, 121, 45, 99, 104, 105, 108, 100], [101, 109, 112, 116, 121]]
def nthB : List UInt8 := [110, 116, 104, 45, 99, 104, 105, 108, 100]
def notB : List UInt8 := [110, 111, 116]
def isB : List UInt8 := [105, 115]
abbrev Nest := Nat → List Selr × Nat × Bool
def rPseudo (nest : Nest) (t : List Tok) (i : Nat) : Psd × Nat × Bool :=
  if (tk t i).kind = 1 then (if (wordV (lower (tk t i).text) fiveW).2 = true then ({ kind := 1 + (wordV (lower (tk t i).text) fiveW).1 }, i + 1, false) else ({}, i + 1, true))
  else if (tk t i).kind ≠ 20 then ({}, i + 1, true)
  else if lower (tk t i).text = nthB then rNth t (i + 1)
  else if lower (tk t i).text = notB then ({ kind := 7, list := (nest (i + 1)).1.map selRow }, (nest (i + 1)).2.1, (nest (i + 1)).2.2)
  else if lower (tk t i).text = isB then ({ kind := 8, list := (nest (i + 1)).1.map selRow }, (nest (i + 1)).2.1, (nest (i + 1)).2.2)
  else ({}, i + 1, true)
def rCmpRun (nest : Nest) (t : List Tok) : Nat → Nat → Nat → Cmp → Cmp × Nat × Bool
  | 0, i, n, c => (c, i, true)
  | f + 1, i, n, c =>
    if (tk t i).kind = 3 then rCmpRun nest t f (i + 1) (n + 1) { c with ids := c.ids ++ [(tk t i).text] }
    else if isD t i 46 = true ∧ (tk t (i + 1)).kind = 1 then rCmpRun nest t f (i + 2) (n + 1) { c with cls := c.cls ++ [(tk t (i + 1)).text] }
    else if (tk t i).kind = 18 then
      (if (rAttr t (i + 1)).2.2 = true then ({ c with atts := c.atts ++ [(rAttr t (i + 1)).1] }, (rAttr t (i + 1)).2.1, true)
       else rCmpRun nest t f (rAttr t (i + 1)).2.1 (n + 1) { c with atts := c.atts ++ [(rAttr t (i + 1)).1] })
    else if (tk t i).kind = 11 then
      (if (rPseudo nest t (i + 1)).2.2 = true then ({ c with pss := c.pss ++ [(rPseudo nest t (i + 1)).1] }, (rPseudo nest t (i + 1)).2.1, true)
       else rCmpRun nest t f (rPseudo nest t (i + 1)).2.1 (n + 1) { c with pss := c.pss ++ [(rPseudo nest t (i + 1)).1] })
    else (c, i, decide (n = 0))
def rCmp (nest : Nest) (t : List Tok) (i : Nat) : Cmp × Nat × Bool :=
  if (tk t i).kind = 1 then rCmpRun nest t (t.length + 1) (i + 1) 1 { tag := lower (tk t i).text }
  else if isD t i 42 = true then rCmpRun nest t (t.length + 1) (i + 1) 1 {}
  else rCmpRun nest t (t.length + 1) i 0 {}
def rSelRun (nest : Nest) (t : List Tok) : Nat → Nat → Int → Selr → Selr × Nat × Bool
  | 0, i, cb, ps => (ps, i, true)
  | f + 1, i, cb, ps =>
    if (rCmp nest t i).2.2 = true then (ps ++ [(cb, (rCmp nest t i).1)], (rCmp nest t i).2.1, true)
    else if 0 < pcomb t (ws t (rCmp nest t i).2.1) then rSelRun nest t f (ws t (ws t (rCmp nest t i).2.1 + 1)) (pcomb t (ws t (rCmp nest t i).2.1)) (ps ++ [(cb, (rCmp nest t i).1)])
    else if pends t (ws t (rCmp nest t i).2.1) = true then (ps ++ [(cb, (rCmp nest t i).1)], ws t (rCmp nest t i).2.1, false)
    else if ¬ (rCmp nest t i).2.1 < ws t (rCmp nest t i).2.1 then (ps ++ [(cb, (rCmp nest t i).1)], ws t (rCmp nest t i).2.1, true)
    else rSelRun nest t f (ws t (rCmp nest t i).2.1) 1 (ps ++ [(cb, (rCmp nest t i).1)])
def rSel (nest : Nest) (t : List Tok) (i : Nat) : Selr × Nat × Bool := rSelRun nest t (t.length + 1) i 0 []
def rListRun (nest : Nest) (t : List Tok) (q : Int) : Nat → Nat → List Selr → List Selr × Nat × Bool
  | 0, i, out => ([], i, true)
  | f + 1, i, out =>
    if (rSel nest t (ws t i)).2.2 = true then ([], (rSel nest t (ws t i)).2.1, true)
    else if (tk t (rSel nest t (ws t i)).2.1).kind = 13 then rListRun nest t q f ((rSel nest t (ws t i)).2.1 + 1) (out ++ [(rSel nest t (ws t i)).1])
    else if t.length ≤ (rSel nest t (ws t i)).2.1 ∧ q = 0 then (out ++ [(rSel nest t (ws t i)).1], (rSel nest t (ws t i)).2.1, false)
    else if (tk t (rSel nest t (ws t i)).2.1).kind = 17 ∧ 0 < q then (out ++ [(rSel nest t (ws t i)).1], (rSel nest t (ws t i)).2.1 + 1, false)
    else ([], (rSel nest t (ws t i)).2.1, true)
def rList (nest : Nest) (t : List Tok) (q : Int) (i : Nat) : List Selr × Nat × Bool := rListRun nest t q (t.length + 1) i []
def rNest (t : List Tok) : Nat → Int → Nest
  | 0, q, i => ([], i, true)
  | k + 1, q, i => rList (rNest t k (q + 1)) t q i
structure Far (t : List Tok) (i : Nat) (p : Nat) (b : Bool) : Prop where
  up : p ≤ t.length + 4
  ok : b = false → i ≤ p ∧ p ≤ t.length
theorem rOp_far {t : List Tok} {i : Nat} (hi : i ≤ t.length) : i ≤ (rOp t i).2 ∧ (rOp t i).2 ≤ t.length + 1 := by
  unfold rOp
  split
  · rename_i h
    have := isD_lt h
    exact ⟨by dsimp only; omega, by dsimp only; omega⟩
  · split
    · rename_i h
      have := isD_lt h.2
      exact ⟨by dsimp only; omega, by dsimp only; omega⟩
    · exact ⟨by dsimp only; omega, by dsimp only; omega⟩
theorem rAttr_far {t : List Tok} {i : Nat} (hi : i ≤ t.length) : Far t i (rAttr t i).2.1 (rAttr t i).2.2 := by
  unfold rAttr
  have k1 := ws_le t i
  have k2 := ws_le t (ws t i + 1)
  have k3 := fun h => rOp_far (t := t) (i := ws t (ws t i + 1)) h
  generalize rOp t (ws t (ws t i + 1)) = r at k3
  have k4 := ws_le t r.2
  have k5 := ws_le t (ws t r.2 + 1)
  split
  · exact ⟨by dsimp only; omega, by simp⟩
  · rename_i h1
    have := tk_lt (t := t) (i := ws t i) (by omega)
    split
    · rename_i h2
      have := tk_lt (t := t) (i := ws t (ws t i + 1)) (by omega)
      exact ⟨by dsimp only; omega, fun _ => by dsimp only; omega⟩
    · have k3 := k3 (by omega)
      split
      · exact ⟨by dsimp only; omega, by simp⟩
      · split
        · exact ⟨by dsimp only; omega, by simp⟩
        · rename_i h4
          have := tk_lt (t := t) (i := ws t r.2) (by omega)
          refine ⟨by dsimp only; omega, fun h => ?_⟩
          simp only [decide_eq_false_iff_not, ne_eq, Decidable.not_not] at h
          have := tk_lt (t := t) (i := ws t (ws t r.2 + 1)) (by omega)
          dsimp only
          omega
theorem rNth_far {t : List Tok} {i : Nat} (hi : i ≤ t.length) : Far t i (rNth t i).2.1 (rNth t i).2.2 := by
  unfold rNth
  have k1 := ws_le t i
  have k2 := ws_le t (ws t i + 1)
  refine ⟨by dsimp only; omega, fun h => ?_⟩
  simp only [Bool.or_eq_false_iff, decide_eq_false_iff_not, ne_eq, Decidable.not_not] at h
  have := tk_lt (t := t) (i := ws t (ws t i + 1)) (by omega)
  dsimp only
  omega
theorem rPseudo_far {nest : Nest} {t : List Tok} (hN : ∀ i, i ≤ t.length → Far t i (nest i).2.1 (nest i).2.2) {i : Nat} (hi : i ≤ t.length) : Far t i (rPseudo nest t i).2.1 (rPseudo nest t i).2.2 := by
  unfold rPseudo
  have hl : ∀ {k : Int}, k ≠ 0 → (tk t i).kind = k → i < t.length := fun hk h => tk_lt (by omega)
  split
  · rename_i h
    have := hl (by omega) h
    split
    · exact ⟨by dsimp only; omega, fun _ => by dsimp only; omega⟩
    · exact ⟨by dsimp only; omega, by simp⟩
  split
  · exact ⟨by dsimp only; omega, by simp⟩
  rename_i h
  have hlt := hl (k := 20) (by omega) (by omega)
  split
  · have := rNth_far (t := t) (i := i + 1) (by omega)
    exact ⟨this.up, fun h => by have := this.ok h; omega⟩
  split
  · have := hN (i + 1) (by omega)
    exact ⟨this.up, fun h => by have := this.ok h; dsimp only; omega⟩
  split
  · have := hN (i + 1) (by omega)
    exact ⟨this.up, fun h => by have := this.ok h; dsimp only; omega⟩
  · exact ⟨by dsimp only; omega, by simp⟩
theorem rCmpRun_far {nest : Nest} {t : List Tok} (hN : ∀ i, i ≤ t.length → Far t i (nest i).2.1 (nest i).2.2) : ∀ (f i n : Nat) (c : Cmp), i ≤ t.length → Far t i (rCmpRun nest t f i n c).2.1 (rCmpRun nest t f i n c).2.2 ∧ ((rCmpRun nest t f i n c).2.2 = false → n = 0 → i < (rCmpRun nest t f i n c).2.1)
  | 0, i, n, c, hi => ⟨⟨by unfold rCmpRun; dsimp only; omega, by simp [rCmpRun]⟩, by simp [rCmpRun]⟩
  | f + 1, i, n, c, hi => by
    have hl : ∀ {k : Int}, k ≠ 0 → (tk t i).kind = k → i < t.length := fun hk h => tk_lt (by omega)
    unfold rCmpRun
    split
    · rename_i h
      have := hl (by omega) h
      obtain ⟨g1, g2⟩ := rCmpRun_far hN f (i + 1) (n + 1) { c with ids := c.ids ++ [(tk t i).text] } (by omega)
      exact ⟨⟨g1.up, fun h => by have := g1.ok h; omega⟩, fun h _ => by have := g1.ok h; omega⟩
    split
    · rename_i h
      have := tk_lt (t := t) (i := i + 1) (by omega)
      obtain ⟨g1, g2⟩ := rCmpRun_far hN f (i + 2) (n + 1) { c with cls := c.cls ++ [(tk t (i + 1)).text] } (by omega)
      exact ⟨⟨g1.up, fun h => by have := g1.ok h; omega⟩, fun h _ => by have := g1.ok h; omega⟩
    split
    · rename_i h
      have := hl (by omega) h
      have ha := rAttr_far (t := t) (i := i + 1) (by omega)
      split
      · exact ⟨⟨ha.up, by simp⟩, by simp⟩
      · rename_i hb
        have hb := ha.ok (by simpa using hb)
        obtain ⟨g1, g2⟩ := rCmpRun_far hN f (rAttr t (i + 1)).2.1 (n + 1) { c with atts := c.atts ++ [(rAttr t (i + 1)).1] } (by omega)
        exact ⟨⟨g1.up, fun h => by have := g1.ok h; omega⟩, fun h _ => by have := g1.ok h; omega⟩
    split
    · rename_i h
      have := hl (by omega) h
      have ha := rPseudo_far hN (t := t) (i := i + 1) (by omega)
      split
      · exact ⟨⟨ha.up, by simp⟩, by simp⟩
      · rename_i hb
        have hb := ha.ok (by simpa using hb)
        obtain ⟨g1, g2⟩ := rCmpRun_far hN f (rPseudo nest t (i + 1)).2.1 (n + 1) { c with pss := c.pss ++ [(rPseudo nest t (i + 1)).1] } (by omega)
        exact ⟨⟨g1.up, fun h => by have := g1.ok h; omega⟩, fun h _ => by have := g1.ok h; omega⟩
    · refine ⟨⟨by dsimp only; omega, fun _ => by dsimp only; omega⟩, fun h hn => ?_⟩
      simp [hn] at h
theorem rCmp_far {nest : Nest} {t : List Tok} (hN : ∀ i, i ≤ t.length → Far t i (nest i).2.1 (nest i).2.2) {i : Nat} (hi : i ≤ t.length) : Far t (i + 1) (rCmp nest t i).2.1 (rCmp nest t i).2.2 := by
  unfold rCmp
  split
  · have := tk_lt (t := t) (i := i) (by omega)
    exact (rCmpRun_far hN _ _ _ _ (by omega)).1
  split
  · rename_i h
    have := isD_lt h
    exact (rCmpRun_far hN _ _ _ _ (by omega)).1
  · obtain ⟨g1, g2⟩ := rCmpRun_far hN (t.length + 1) i 0 {} hi
    exact ⟨g1.up, fun h => by have := g1.ok h; have := g2 h rfl; omega⟩
theorem pcomb_lt {t : List Tok} {i : Nat} (h : 0 < pcomb t i) : i < t.length := by
  unfold pcomb at h
  split at h
  · exact isD_lt (by assumption)
  split at h
  · exact isD_lt (by assumption)
  split at h
  · exact isD_lt (by assumption)
  · omega
theorem rSelRun_far {nest : Nest} {t : List Tok} (hN : ∀ i, i ≤ t.length → Far t i (nest i).2.1 (nest i).2.2) : ∀ (f i : Nat) (cb : Int) (ps : Selr), i ≤ t.length → Far t (i + 1) (rSelRun nest t f i cb ps).2.1 (rSelRun nest t f i cb ps).2.2
  | 0, i, cb, ps, hi => ⟨by unfold rSelRun; dsimp only; omega, by simp [rSelRun]⟩
  | f + 1, i, cb, ps, hi => by
    have hc := rCmp_far hN hi
    have k1 := ws_le t (rCmp nest t i).2.1
    have k2 := ws_le t (ws t (rCmp nest t i).2.1 + 1)
    unfold rSelRun
    split
    · exact ⟨hc.up, by simp⟩
    rename_i hb
    have hb := hc.ok (by simpa using hb)
    split
    · rename_i h
      have := pcomb_lt h
      have g := rSelRun_far hN f (ws t (ws t (rCmp nest t i).2.1 + 1)) (pcomb t (ws t (rCmp nest t i).2.1)) (ps ++ [(cb, (rCmp nest t i).1)]) (by omega)
      exact ⟨g.up, fun h => by have := g.ok h; omega⟩
    split
    · exact ⟨by dsimp only; omega, fun _ => by dsimp only; omega⟩
    split
    · exact ⟨by dsimp only; omega, by simp⟩
    · have g := rSelRun_far hN f (ws t (rCmp nest t i).2.1) 1 (ps ++ [(cb, (rCmp nest t i).1)]) (by omega)
      exact ⟨g.up, fun h => by have := g.ok h; omega⟩
theorem rListRun_far {nest : Nest} {t : List Tok} (hN : ∀ i, i ≤ t.length → Far t i (nest i).2.1 (nest i).2.2) (q : Int) : ∀ (f i : Nat) (out : List Selr), i ≤ t.length → Far t (i + 1) (rListRun nest t q f i out).2.1 (rListRun nest t q f i out).2.2
  | 0, i, out, hi => ⟨by unfold rListRun; dsimp only; omega, by simp [rListRun]⟩
  | f + 1, i, out, hi => by
    have k1 := ws_le t i
    have hc := rSelRun_far hN (t.length + 1) (ws t i) 0 [] (by omega)
    rw [← rSel] at hc
    unfold rListRun
    split
    · exact ⟨hc.up, by simp⟩
    rename_i hb
    have hb := hc.ok (by simpa using hb)
    split
    · have := tk_lt (t := t) (i := (rSel nest t (ws t i)).2.1) (by omega)
      have g := rListRun_far hN q f ((rSel nest t (ws t i)).2.1 + 1) (out ++ [(rSel nest t (ws t i)).1]) (by omega)
      exact ⟨g.up, fun h => by have := g.ok h; omega⟩
    split
    · exact ⟨by dsimp only; omega, fun _ => by dsimp only; omega⟩
    split
    · have := tk_lt (t := t) (i := (rSel nest t (ws t i)).2.1) (by omega)
      exact ⟨by dsimp only; omega, fun _ => by dsimp only; omega⟩
    · exact ⟨by dsimp only; omega, by simp⟩
theorem rNest_far (t : List Tok) : ∀ (k : Nat) (q : Int) (i : Nat), i ≤ t.length → Far t i (rNest t k q i).2.1 (rNest t k q i).2.2
  | 0, q, i, hi => ⟨by unfold rNest; dsimp only; omega, by simp [rNest]⟩
  | k + 1, q, i, hi => by
    have := rListRun_far (rNest_far t k (q + 1)) q (t.length + 1) i [] hi
    unfold rNest rList
    exact ⟨this.up, fun h => by have := this.ok h; omega⟩
end Go.Proofs.YtlhegfkpgchaeaaGreatDoor.Aw
