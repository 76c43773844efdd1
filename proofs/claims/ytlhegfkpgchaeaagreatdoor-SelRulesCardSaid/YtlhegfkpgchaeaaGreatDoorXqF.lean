/- Tokens without white at their ends. -/
import Derived.Test.YtlhegfkpgchaeaaGreatDoorXqA
import Derived.Test.YtlhegfkpgchaeaaGreatDoorAwYD
import Derived.Tactics
import Derived.WalkKit
import Derived.Test.YtlhegfkpgchaeaaGreatDoorXrC
namespace Go.Proofs.YtlhegfkpgchaeaaGreatDoor.Aw
open Go Go.RowKit Go.Lib
set_option linter.unusedVariables false
set_option linter.unusedSimpArgs false
set_option maxRecDepth 100000
theorem fnOk_things : FnOk P 59 := ⟨_, Tryz.func59, by rfl, rfl⟩
theorem ythings (vs : List Value) (w : World) (hl : vs.length = 2) (ho : ∀ v ∈ vs, v.oneCell' = true) : Calls Tryz.prog 59 vs.toArray w fun e w' => e = .returned (.func (.func 98) #[] (ptrsV w.heap.size [1, 0]).toArray) ∧ w' = boxW w vs [45, 3] := by
 match vs, hl with
 | [a, b], _ =>
  have ha := ho a (by simp)
  have hb := ho b (by simp)
  clear ho
  go_enter Tryz.func59, Tryz.ntmps59
  go_wp2
  all_goals first
   | (cases ha; done)
   | (cases hb; done)
   | (go_ret; exact ⟨rfl, rfl⟩)
def findRun (t : List Tok) (a b : Int) : Nat → Nat → Nat
 | 0, _ => t.length
 | f + 1, i => if i < t.length then (if (tk t i).kind = a ∨ (tk t i).kind = b then i else findRun t a b f (skipP t i)) else t.length
def findP (t : List Tok) (i : Nat) (a b : Int) : Nat := findRun t a b (t.length + 1) i
theorem findRun_fuel (t : List Tok) (a b : Int) : ∀ (f g i : Nat), t.length - i < f → t.length - i < g → findRun t a b f i = findRun t a b g i
 | 0, _, _, h, _ => by omega
 | f + 1, 0, _, _, h => by omega
 | f + 1, g + 1, i, h1, h2 => by
  unfold findRun
  split
  ·rename_i hi
   have := skipP_gt hi
   split
   ·rfl
   ·exact findRun_fuel t a b f g _ (by omega) (by omega)
  ·rfl
theorem findP_step {t : List Tok} {i : Nat} {a b : Int} (h : i < t.length) : findP t i a b = if (tk t i).kind = a ∨ (tk t i).kind = b then i else findP t (skipP t i) a b := by
 have := skipP_gt h
 unfold findP
 rw [findRun, if_pos h]
 split
 ·rfl
 ·exact findRun_fuel t a b _ _ _ (by omega) (by omega)
theorem findP_out {t : List Tok} {i : Nat} {a b : Int} (h : t.length ≤ i) : findP t i a b = t.length := by
 unfold findP
 rw [findRun, if_neg (by omega)]
theorem findRun_le (t : List Tok) (a b : Int) : ∀ (f i : Nat), findRun t a b f i ≤ t.length ∧ (i ≤ t.length → i ≤ findRun t a b f i)
 | 0, i => ⟨Nat.le_refl _, fun h => h⟩
 | f + 1, i => by
  unfold findRun
  split
  ·rename_i hi
   have := skipP_gt hi
   split
   ·exact ⟨by omega, fun _ => Nat.le_refl _⟩
   ·have h2 := findRun_le t a b f (skipP t i)
    exact ⟨h2.1, fun _ => by have := h2.2 (by omega); omega⟩
  ·exact ⟨Nat.le_refl _, fun h => h⟩
theorem findP_le (t : List Tok) (i : Nat) (a b : Int) : findP t i a b ≤ t.length := (findRun_le t a b _ i).1
theorem findP_ge {t : List Tok} {i : Nat} (a b : Int) (h : i ≤ t.length) : i ≤ findP t i a b := (findRun_le t a b _ i).2 h
def findH (t : List Tok) (p : Nat) (a b r : Int) : Hp := [some [.f (.sl (toksF t))], some [int a], some [int b], some [int r], some [.f (.sl (toksF t))], some [int p]]
structure CapOk6 (cap : List D) : Prop where
 ren : renL [0, 1, 2, 3, 4, 5] [] cap = cap
 ref : refL 6 0 cap
 into : intoL 0 0 6 cap cap
def FindY (lb : Nat) (ps : List Nat) (x y : Code) (cap : List D) (t : List Tok) (p : Nat) (a b : Int) : Prop := ∀ i : Nat, i < t.length →
 YSpecB P lb ps x y cap [int i, int (skipP t i)] (findH t p a b 0) 0 (fun d H => ¬ ((tk t i).kind = a ∨ (tk t i).kind = b) ∧ d = .f (.v (.bool true)) ∧ H = findH t p a b 0) (fun x H => ((tk t i).kind = a ∨ (tk t i).kind = b) ∧ x = .ret ∧ H = findH t p a b i)
theorem find_yield {lb : Nat} {ps : List Nat} {x y : Code} {cap : List D} {t : List Tok} {p : Nat} {a b : Int} (hc : CapOk6 cap) (hY : FindY lb ps x y cap t p a b) {i : Nat} (hi : i < t.length) {E : List D} {K : Option X → KD}
  (h1 : ¬ ((tk t i).kind = a ∨ (tk t i).kind = b) → K none (.f (.v (.bool true))) E (findH t p a b 0) 0)
  (h2 : (tk t i).kind = a ∨ (tk t i).kind = b → K (some .ret) (.f (.v (.bool false))) (unYL E) (findH t p a b i) 0) : YStepB P lb ps x y cap [int i, int (skipP t i)] E (findH t p a b 0) 0 K := by
 have := YSpecB.step (E := E) (H := findH t p a b 0) (n := 0) (K := K) [0, 1, 2, 3, 4, 5] [] (hY i hi) (by decide) (by simp) (by simp [findH]) (by simp) (by
  unfold findH
  unfold fitH fitH fitH fitH fitH fitH fitH
  exact ⟨⟨rfl, ⟨trivial, trivial⟩⟩, ⟨rfl, ⟨trivial, trivial⟩⟩, ⟨rfl, ⟨trivial, trivial⟩⟩, ⟨rfl, ⟨trivial, trivial⟩⟩, ⟨rfl, ⟨trivial, trivial⟩⟩, ⟨rfl, ⟨trivial, trivial⟩⟩, trivial⟩) ⟨hc.ref, ⟨trivial, trivial, trivial⟩⟩ rfl (by
  rintro d Hs' ⟨g1, rfl, rfl⟩ _
  rw [killsL_nil, killsH_nil]
  exact h1 g1) (by
  rintro x' Hs' ⟨g1, rfl, rfl⟩ _
  rw [killsL_nil, killsH_nil]
  exact h2 g1)
 rw [hc.ren] at this
 exact this
structure FindI (t : List Tok) (p : Nat) (a b : Int) (i : Nat) : Prop where
 le : i ≤ t.length
 run : findP t i a b = findP t p a b
set_option maxHeartbeats 1000000 in
theorem things1 {t : List Tok} (hl : t.length < 100000000) (p : Nat) (hp : p ≤ t.length) (a b : Int) {lb : Nat} {ps : List Nat} {x y : Code} {cap : List D} (hc : CapOk6 cap) (hY : FindY lb ps x y cap t p a b) :
  SpecB P 98 lb [.yl lb ps x y cap, .ptr 5 0, .ptr 4 0] (findH t p a b 0) 0 (fun d H => findP t p a b = t.length ∧ H = findH t p a b 0) (fun x H => x = .ret ∧ H = findH t p a b (findP t p a b)) := by
 have hlen : (toksF t).length = t.length := by simp
 refine spec_mkB tab_ok Tryz.func98 (by rfl) rfl ?_
 conv => whnf
 repeat' first
  | (refine Case.not ?_; conv => whnf)
  | (refine Case.yes ?_; conv => whnf)
  | (refine Case.no ?_; conv => whnf)
  | (refine Case.isTrue (by with_reducible assumption) ?_; conv => whnf)
  | (refine Case.isFalse (by with_reducible assumption) ?_; conv => whnf)
  | (refine Case.decT (by with_reducible assumption) ?_; conv => whnf)
  | (refine Case.decF (by with_reducible assumption) ?_; conv => whnf)
  | (refine Case.decT (by omega) ?_; conv => whnf)
  | (refine Case.decF (by omega) ?_; conv => whnf)
  | (refine Case.beqT (by omega) ?_; conv => whnf)
  | (refine Case.beqF (by omega) ?_; conv => whnf)
  | (refine Num.id (by omega) (by omega) ?_; conv => whnf)
  | (refine Case.dec (fun _ => ?_) (fun _ => ?_) <;> conv => whnf)
  | (refine Case.beqI (fun _ => ?_) (fun _ => ?_) <;> conv => whnf)
  | (refine Case.mk (fun _ => ?_) (fun _ => ?_) <;> conv => whnf)
  | (refine Way.fst ?_; conv => whnf)
 refine step_loopB tab_ok (fun i : Nat => padK [.yl lb ps x y cap, .ptr 5 0, .ptr 4 0, .junk, int i] 20) (fun _ => findH t p a b 0) 0 (FindI t p a b) (fun i => t.length - i) p ⟨hp, rfl⟩ (fun _ => rfl) ?_ ?_
 ·
  repeat' first | exact trivial | exact rfl | apply And.intro
  all_goals first | exact hc.into | (show _ < 6; decide)
 ·rintro i ⟨h1, h2⟩
  by_cases hi : i < t.length
  ·have hs := yskip_spec hl i h1
   have hg := skipP_gt hi
   have hst := findP_step (a := a) (b := b) hi
   have hY2 := fun E K h1 h2 => find_yield (E := E) (K := K) hc hY hi h1 h2
   conv => whnf
   repeat' ((first | refine Case.decT (by omega) ?_ | refine hs.call ⟨rfl, rfl, rfl⟩ ?_ | refine Owes.mk ⟨rfl, rfl⟩ ?_); conv => whnf)
   refine hY2 _ _ (fun h => ?_) (fun h => ?_)
   ·rw [if_neg h] at hst
    conv => whnf
    repeat' ((first | refine Case.not ?_ | refine Case.yes ?_); conv => whnf)
    refine ⟨rfl, skipP t i, ⟨hg.2, by rw [← h2, hst]⟩, by omega, ?_⟩
    repeat' first | exact trivial | exact rfl | apply And.intro
    all_goals first | exact hc.into | (show _ < 6; decide)
   ·rw [if_pos h] at hst
    conv => whnf
    repeat' ((first | refine Case.not ?_ | refine Case.no ?_); conv => whnf)
    refine Fin.mk (.tup []) (findH t p a b i) ⟨rfl, by rw [← h2, hst]⟩ rfl ?_
    repeat' first | exact trivial | exact rfl | apply And.intro
  ·have := findP_out (a := a) (b := b) (Nat.le_of_not_lt hi)
   conv => whnf
   repeat' (refine Case.decF (by omega) ?_; conv => whnf)
   refine Fin.mk (.tup []) (findH t p a b 0) ⟨by rw [← h2, this], rfl⟩ rfl ?_
   repeat' first | exact trivial | exact rfl | apply And.intro
set_option maxHeartbeats 2000000 in
theorem yfind_spec {t : List Tok} (hl : t.length < 100000000) (p : Nat) (hp : p ≤ t.length) (a b : Int) : Pure 27 [.f (.sl (toksF t)), int p, int a, int b] (int (findP t p a b)) := by
 have hlen : (toksF t).length = t.length := by simp
 refine ⟨trivial, ?_⟩
 refine spec_mkMB tab_ok Tryz.func27 (by rfl) rfl ?_
 conv => whnf
 repeat' first
  | (refine Case.not ?_; conv => whnf)
  | (refine Case.yes ?_; conv => whnf)
  | (refine Case.no ?_; conv => whnf)
  | (refine Case.isTrue (by with_reducible assumption) ?_; conv => whnf)
  | (refine Case.isFalse (by with_reducible assumption) ?_; conv => whnf)
  | (refine Case.decT (by with_reducible assumption) ?_; conv => whnf)
  | (refine Case.decF (by with_reducible assumption) ?_; conv => whnf)
  | (refine Case.decT (by omega) ?_; conv => whnf)
  | (refine Case.decF (by omega) ?_; conv => whnf)
  | (refine Case.beqT (by omega) ?_; conv => whnf)
  | (refine Case.beqF (by omega) ?_; conv => whnf)
  | (refine Num.id (by omega) (by omega) ?_; conv => whnf)
  | (refine Case.dec (fun _ => ?_) (fun _ => ?_) <;> conv => whnf)
  | (refine Case.beqI (fun _ => ?_) (fun _ => ?_) <;> conv => whnf)
  | (refine Case.mk (fun _ => ?_) (fun _ => ?_) <;> conv => whnf)
  | (refine Way.fst ?_; conv => whnf)
 refine boxes_call fnOk_things (as' := [.f (.sl (toksF t)), int p]) (ts := [45, 3]) (is := [1, 0]) (by rfl) (by show ∀ i ∈ [1, 0], i < 2; decide) (by rfl) ythings ?_
 conv => whnf
 repeat' first
  | (refine Case.not ?_; conv => whnf)
  | (refine Case.yes ?_; conv => whnf)
  | (refine Case.no ?_; conv => whnf)
  | (refine Case.isTrue (by with_reducible assumption) ?_; conv => whnf)
  | (refine Case.isFalse (by with_reducible assumption) ?_; conv => whnf)
  | (refine Case.decT (by with_reducible assumption) ?_; conv => whnf)
  | (refine Case.decF (by with_reducible assumption) ?_; conv => whnf)
  | (refine Case.decT (by omega) ?_; conv => whnf)
  | (refine Case.decF (by omega) ?_; conv => whnf)
  | (refine Case.beqT (by omega) ?_; conv => whnf)
  | (refine Case.beqF (by omega) ?_; conv => whnf)
  | (refine Num.id (by omega) (by omega) ?_; conv => whnf)
  | (refine Case.dec (fun _ => ?_) (fun _ => ?_) <;> conv => whnf)
  | (refine Case.beqI (fun _ => ?_) (fun _ => ?_) <;> conv => whnf)
  | (refine Case.mk (fun _ => ?_) (fun _ => ?_) <;> conv => whnf)
  | (refine Way.fst ?_; conv => whnf)
 refine RangeB.into (E' := padK [.junk, .junk, .junk, .junk, .ptr 0 0, .junk, .ptr 1 0, .ptr 2 0, .ptr 3 0, .junk, .junk, .junk, .fn 98 [.ptr 5 0, .ptr 4 0]] 34) (H' := findH t p a b 0) (n' := 0) rfl ?_ ?_
 ·
  repeat' first | exact trivial | exact rfl | exact Nat.zero_lt_succ _ | apply And.intro
  all_goals (show _ < 6; decide)
 ·refine range_mkB [0, 1, 2, 3, 4, 5] [] rfl (fun lb => things1 hl p hp a b (cap := padK [.junk, .junk, .junk, .junk, .ptr 0 0, .junk, .ptr 1 0, .ptr 2 0, .ptr 3 0, .junk, .junk, .junk, .fn 98 [.ptr 5 0, .ptr 4 0]] 34) ⟨rfl, ?_, ?_⟩ (fun i hi => yspecB_mk tab_ok rfl rfl ?_)) (fun _ => rfl) (by decide) (by simp) (by simp [findH]) (by simp) ?_ ?_ rfl rfl ?_ ?_
  ·simp [refL, refD, padK]
  ·
   repeat' first | exact trivial | exact rfl | exact Nat.zero_lt_succ _ | apply And.intro
   all_goals decide
  ·obtain ⟨k, hk⟩ : ∃ k, t[i]? = some k := ⟨_, List.getElem?_eq_getElem hi⟩
   have hkk := tk_get hk
   rw [hkk]
   conv => whnf
   refine ⟨rfl, rfl, ?_⟩
   conv => whnf
   by_cases ha : k.kind = a
   ·
    repeat' ((first | refine Case.yes ?_ | refine Case.decT (by with_reducible assumption) ?_ | (refine V3.step_autoY 2 ?hk ?_; (case hk => decide +kernel)) | refine Owes.mk toksF_row ?_ | refine Elem.mk i _ rfl (toksF_get hk) ?_); conv => whnf)
    refine ⟨rfl, Fin.mk (.f (.v (.bool false))) (findH t p a b i) ⟨.inl ha, rfl, rfl⟩ rfl ?_⟩
    repeat' first | exact trivial | exact rfl | apply And.intro
   ·by_cases hb : k.kind = b
    ·
     repeat' ((first | refine Case.decT (by with_reducible assumption) ?_ | refine Case.decF (by with_reducible assumption) ?_ | (refine V3.step_autoY 2 ?hk ?_; (case hk => decide +kernel)) | refine Owes.mk toksF_row ?_ | refine Elem.mk i _ rfl (toksF_get hk) ?_); conv => whnf)
     refine ⟨rfl, Fin.mk (.f (.v (.bool false))) (findH t p a b i) ⟨.inr hb, rfl, rfl⟩ rfl ?_⟩
     repeat' first | exact trivial | exact rfl | apply And.intro
    ·
     repeat' ((first | refine Case.decF (by with_reducible assumption) ?_ | (refine V3.step_autoY 2 ?hk ?_; (case hk => decide +kernel)) | refine Owes.mk toksF_row ?_ | refine Elem.mk i _ rfl (toksF_get hk) ?_); conv => whnf)
     refine ⟨rfl, Fin.mk (.f (.v (.bool true))) (findH t p a b 0) ⟨fun h => h.elim ha hb, rfl, rfl⟩ rfl ?_⟩
     repeat' first | exact trivial | exact rfl | apply And.intro
  ·unfold findH
   unfold fitH fitH fitH fitH fitH fitH fitH
   exact ⟨⟨rfl, ⟨trivial, trivial⟩⟩, ⟨rfl, ⟨trivial, trivial⟩⟩, ⟨rfl, ⟨trivial, trivial⟩⟩, ⟨rfl, ⟨trivial, trivial⟩⟩, ⟨rfl, ⟨trivial, trivial⟩⟩, ⟨rfl, ⟨trivial, trivial⟩⟩, trivial⟩
  ·intro lb
   simp [refL, refD, padK, findH]
  ·rintro d Hs' ⟨h1, rfl⟩ _
   refine ⟨rfl, rfl, fun D => ?_⟩
   conv => whnf
   repeat' first
    | (refine Case.not ?_; conv => whnf)
    | (refine Case.yes ?_; conv => whnf)
    | (refine Case.no ?_; conv => whnf)
    | (refine Case.isTrue (by with_reducible assumption) ?_; conv => whnf)
    | (refine Case.isFalse (by with_reducible assumption) ?_; conv => whnf)
    | (refine Case.decT (by with_reducible assumption) ?_; conv => whnf)
    | (refine Case.decF (by with_reducible assumption) ?_; conv => whnf)
    | (refine Case.decT (by omega) ?_; conv => whnf)
    | (refine Case.decF (by omega) ?_; conv => whnf)
    | (refine Case.beqT (by omega) ?_; conv => whnf)
    | (refine Case.beqF (by omega) ?_; conv => whnf)
    | (refine Num.id (by omega) (by omega) ?_; conv => whnf)
    | (refine Case.dec (fun _ => ?_) (fun _ => ?_) <;> conv => whnf)
    | (refine Case.beqI (fun _ => ?_) (fun _ => ?_) <;> conv => whnf)
    | (refine Case.mk (fun _ => ?_) (fun _ => ?_) <;> conv => whnf)
    | (refine Way.fst ?_; conv => whnf)
   refine ⟨rfl, rfl, ?_⟩
   conv => whnf
   exact Fin.isI (by rw [h1, hlen])
  ·rintro x' Hs' ⟨rfl, rfl⟩ _
   refine ⟨by simp, rfl, rfl, ?_⟩
   show _ ∧ _ ∧ _
   refine ⟨rfl, rfl, ?_⟩
   conv => whnf
   exact Fin.isI rfl
section
variable {P : Program}
theorem eqIn_nil {t e0 : TypeId} (hu : P.underlying t = some (.slice e0)) (w : World) (d : Nat) (ad : Option Addr) (l cap : Nat) : (Op.equalIn (d + 1) t (.slice ad l cap) (.slice none 0 0)).run P w = .ok ad.isNone w := by
 cases ad <;> simp [Op.equalIn, run_underlying hu]
theorem eq_nil {t e0 : TypeId} (hu : P.underlying t = some (.slice e0)) (w : World) (ad : Option Addr) (l cap : Nat) : (Op.equal t (.slice ad l cap) (.slice none 0 0)).run P w = .ok ad.isNone w := by
 unfold Op.equal
 obtain ⟨d, hd⟩ : ∃ d, Op.maxDepth = d + 1 := ⟨9999, rfl⟩
 rw [hd]
 exact eqIn_nil hu w d ad l cap
theorem sl_nil {o : Oper} {op : BinOp} {t u : TypeId} {x : Operand} {es : List (List F)} {E : List D} {H : Hp} {n : Nat} {K : KD} (ho : o.op = .binOp op t x (.const (.slice none 0 0)) u) {e0 : TypeId} (hu : P.underlying t = some (.slice e0)) (hop : op = .eql ∨ op = .neq) (hx : ev E x = .f (.sl es))
  (h : ∀ b : Bool, (b = true → es = []) → K (.f (.v (.bool (if op = .eql then b else !b)))) E H n) : OpStep P o E H n K := by
 refine OpStep.mk (opSem_pure fun B c w a hC hE hd => ?_)
 have hr := rep_ev hE x
 rw [hx] at hr
 unfold Rep RepF at hr
 have hc : a.eval (.const (.slice none 0 0)) = .slice none 0 0 := rfl
 have key : ∀ (ad : Option Addr) (l cap : Nat), a.eval x = .slice ad l cap → (ad = none → es = []) → ∃ d v, K d E H n ∧ (execOp a.eval o).run P w = .ok (.value v) w ∧ Rep c w d v := fun ad l cap e he => by
  refine ⟨_, .bool (if op = .eql then ad.isNone else !ad.isNone), h ad.isNone (fun h0 => he (by simpa using h0)), ?_, rep_of _ rfl⟩
  have hq := eq_nil hu w ad l cap
  rcases hop with rfl | rfl <;> simp [execOp, ho, e, hc, eqGuard, binOp, hq]
 rcases hr with ⟨⟨ad, e⟩, rfl⟩ | ⟨b, o', cap, e, _⟩
 ·exact key ad 0 0 e (fun _ => rfl)
 ·exact key _ _ _ e (fun h0 => by cases h0)
end
theorem yclone_toks (t : List Tok) (hl : t.length < 100000000) : Val 28 [.f (.sl (toksF t))] (.f (.sl (toksF t))) := by
  have hlen : (toksF t).length = t.length := by simp
  refine ⟨rfl, ⟨trivial, trivial⟩, rfl, spec_mk tab_ok Tryz.func28 (by rfl) rfl ?_⟩
  conv => whnf
  repeat' first
    | (refine Case.not ?_; conv => whnf)
    | (refine Case.yes ?_; conv => whnf)
    | (refine Case.no ?_; conv => whnf)
    | (refine Case.isTrue (by with_reducible assumption) ?_; conv => whnf)
    | (refine Case.isFalse (by with_reducible assumption) ?_; conv => whnf)
    | (refine Case.decT (by with_reducible assumption) ?_; conv => whnf)
    | (refine Case.decF (by with_reducible assumption) ?_; conv => whnf)
    | (refine Case.decT (by omega) ?_; conv => whnf)
    | (refine Case.decF (by omega) ?_; conv => whnf)
    | (refine Case.beqT (by omega) ?_; conv => whnf)
    | (refine Case.beqF (by omega) ?_; conv => whnf)
    | (refine Num.id (by omega) (by omega) ?_; conv => whnf)
    | (refine Case.dec (fun _ => ?_) (fun _ => ?_) <;> conv => whnf)
    | (refine Case.beqI (fun _ => ?_) (fun _ => ?_) <;> conv => whnf)
    | (refine Case.mk (fun _ => ?_) (fun _ => ?_) <;> conv => whnf)
    | (refine Way.fst ?_; conv => whnf)
  refine sl_nil rfl Tryz.underlying45 (.inl rfl) rfl (fun b hb => ?_)
  cases b with
  | true =>
    have he := hb rfl
    conv => whnf
    repeat' (refine Case.yes ?_; conv => whnf)
    refine Fin.mk (.f (.sl (toksF t))) [] ⟨rfl, rfl⟩ rfl ?_
    repeat' first | exact trivial | exact rfl | apply And.intro
    exact he
  | false =>
    conv => whnf
    repeat' ((first | refine Case.no ?_ | refine Owes.mk toksF_row ?_ | (refine Owes.mk (by simp; omega) ?_)); conv => whnf)
    refine Fin.frz 0 (Fin.mk (.f (.sl (toksF t))) [] ⟨rfl, rfl⟩ rfl ?_)
    repeat' first | exact trivial | exact rfl | apply And.intro
def atP (t : List Tok) (i : Nat) : Nat := skipP t (findP t (i + 1) 12 14)
theorem skipP_le {t : List Tok} {i : Nat} (h : i ≤ t.length) : i ≤ skipP t i ∧ skipP t i ≤ t.length := by
  rcases Nat.lt_or_ge i t.length with h1 | h1
  · have := skipP_gt h1; omega
  · rw [skipP_out h1]; omega
theorem atP_gt {t : List Tok} {i : Nat} (h : i < t.length) : i < atP t i ∧ atP t i ≤ t.length := by
  have h1 := findP_ge (t := t) (i := i + 1) 12 14 h
  have h2 := skipP_le (findP_le t (i + 1) 12 14)
  unfold atP
  omega
theorem yat_spec {t : List Tok} (hl : t.length < 100000000) (i : Nat) (hi : i < t.length) : Pure 26 [.f (.sl (toksF t)), int i] (int (atP t i)) := by
  have hlen : (toksF t).length = t.length := by simp
  have h1 := yfind_spec hl (i + 1) hi 12 14
  have h2 := yskip_spec hl (findP t (i + 1) 12 14) (findP_le t (i + 1) 12 14)
  refine .mk trivial (spec_mk tab_ok Tryz.func26 (by rfl) rfl ?_)
  conv => whnf
  repeat' ((first | refine h1.call ⟨rfl, rfl, rfl, rfl, rfl⟩ ?_ | refine h2.call ⟨rfl, rfl, rfl⟩ ?_ | refine Num.id (by omega) (by omega) ?_); conv => whnf)
  exact Fin.isI rfl
def innerT (t : List Tok) (k : Nat) : List Tok := (t.take (findP t (k + 1) 15 15)).drop (k + 1)
theorem yinner_val {t : List Tok} (hl : t.length < 100000000) (k : Nat) (hk : k < t.length) : Val 29 [.f (.sl (toksF t)), int k] (.f (.sl (toksF (innerT t k)))) := by
  have hlen : (toksF t).length = t.length := by simp
  have h1 := yfind_spec hl (k + 1) hk 15 15
  have g1 := findP_ge (t := t) (i := k + 1) 15 15 hk
  have g2 := findP_le t (k + 1) 15 15
  have hc := yclone_toks (innerT t k) (by unfold innerT; simp; omega)
  have e : ((toksF t).take (findP t (k + 1) 15 15)).drop (k + 1) = toksF (innerT t k) := by unfold innerT; show _ = List.map tokRow _; rw [List.map_drop, List.map_take]
  refine ⟨rfl, ⟨trivial, trivial, trivial⟩, rfl, spec_mk tab_ok Tryz.func29 (by rfl) rfl ?_⟩
  conv => whnf
  repeat' ((first | refine h1.call ⟨rfl, rfl, rfl, rfl, rfl⟩ ?_ | refine Owes.mk toksF_row ?_ | (refine Part.mk (k + 1) (findP t (k + 1) 15 15) rfl rfl g1 (by rw [hlen]; exact g2) ?_) | rw [e] | refine hc.call ?_ | refine Num.id (by omega) (by omega) ?_); conv => whnf)
  refine Fin.mk (.f (.sl (toksF (innerT t k)))) [] ⟨rfl, rfl⟩ rfl ?_
  repeat' first | exact trivial | exact rfl | apply And.intro
structure RawV where
  pre : List Tok := []
  block : List Tok := []
def RawV.row (r : RawV) : List F := [.sl (toksF r.pre), .sl (toksF r.block)]
abbrev rawsF (l : List RawV) : List (List F) := l.map RawV.row
theorem rawsF_row {l : List RawV} : ∀ e ∈ rawsF l, e.length = 2 := by simp [RawV.row]
def preT (t : List Tok) (i k : Nat) : List Tok := (t.take k).drop i
def rulesRun (t : List Tok) : Nat → Nat → List RawV → List RawV
  | 0, _, out => out
  | f + 1, i, out => if i < t.length then
      (if (tk t i).kind = 9 then rulesRun t f (i + 1) out
       else if (tk t i).kind = 2 then rulesRun t f (atP t i) out
       else if findP t i 14 14 = t.length then out
       else rulesRun t f (skipP t (findP t i 14 14)) (out ++ [{ pre := preT t i (findP t i 14 14), block := innerT t (findP t i 14 14) }]))
    else out
def rulesV (t : List Tok) : List RawV := rulesRun t (t.length + 1) 0 []
theorem rulesRun_fuel (t : List Tok) : ∀ (f g i : Nat) (out : List RawV), t.length - i < f → t.length - i < g → rulesRun t f i out = rulesRun t g i out
  | 0, _, _, _, h, _ => by omega
  | f + 1, 0, _, _, _, h => by omega
  | f + 1, g + 1, i, out, h1, h2 => by
    unfold rulesRun
    split
    · rename_i hi
      split
      · exact rulesRun_fuel t f g _ _ (by omega) (by omega)
      split
      · have := atP_gt hi
        exact rulesRun_fuel t f g _ _ (by omega) (by omega)
      split
      · rfl
      · rename_i hk
        have g1 := findP_ge (t := t) (i := i) 14 14 (by omega)
        have g2 := findP_le t i 14 14
        have := skipP_gt (t := t) (i := findP t i 14 14) (by omega)
        exact rulesRun_fuel t f g _ _ (by omega) (by omega)
    · rfl
structure RulesI (t : List Tok) (s : Nat × List RawV) : Prop where
  i : s.1 ≤ t.length
  o : s.2.length ≤ s.1
  run : ∀ f, t.length - s.1 < f → rulesRun t f s.1 s.2 = rulesV t
set_option maxHeartbeats 2000000 in
theorem yrules_val (t : List Tok) (hl : t.length < 100000000) : Val 13 [.f (.sl (toksF t))] (.f (.sl (rawsF (rulesV t)))) := by
  have hlen : (toksF t).length = t.length := by simp
  refine ⟨rfl, ⟨trivial, trivial⟩, rfl, spec_mk tab_ok Tryz.func13 (by rfl) rfl ?_⟩
  conv => whnf
  repeat' first
    | (refine Case.not ?_; conv => whnf)
    | (refine Case.yes ?_; conv => whnf)
    | (refine Case.no ?_; conv => whnf)
    | (refine Case.isTrue (by with_reducible assumption) ?_; conv => whnf)
    | (refine Case.isFalse (by with_reducible assumption) ?_; conv => whnf)
    | (refine Case.decT (by with_reducible assumption) ?_; conv => whnf)
    | (refine Case.decF (by with_reducible assumption) ?_; conv => whnf)
    | (refine Case.decT (by omega) ?_; conv => whnf)
    | (refine Case.decF (by omega) ?_; conv => whnf)
    | (refine Case.beqT (by omega) ?_; conv => whnf)
    | (refine Case.beqF (by omega) ?_; conv => whnf)
    | (refine Num.id (by omega) (by omega) ?_; conv => whnf)
    | (refine Case.dec (fun _ => ?_) (fun _ => ?_) <;> conv => whnf)
    | (refine Case.beqI (fun _ => ?_) (fun _ => ?_) <;> conv => whnf)
    | (refine Case.mk (fun _ => ?_) (fun _ => ?_) <;> conv => whnf)
    | (refine Way.fst ?_; conv => whnf)
  refine step_loop tab_ok (fun s : Nat × List RawV => padK [.f (.sl (toksF t)), .junk, .junk, .own 0 55 2 (rawsF s.2), int s.1] 48) (fun _ => []) 1 (RulesI t) (fun s => t.length - s.1) (0, []) ⟨by simp, by simp, fun f hf => rulesRun_fuel t _ _ _ _ hf (by omega)⟩ (fun _ => rfl) ?_ ?_
  ·
    repeat' first | exact trivial | exact rfl | exact Nat.zero_le _ | exact Nat.zero_lt_succ _ | apply And.intro
  · rintro ⟨i, out⟩ ⟨h1, h2, h3⟩
    dsimp only at h1 h2 h3 ⊢
    have l2 : (rawsF out).length = out.length := List.length_map ..
    have e0 := h3 (t.length - i + 1) (by omega)
    rw [rulesRun] at e0
    by_cases hi : i < t.length
    · obtain ⟨k, hk⟩ : ∃ k, t[i]? = some k := ⟨_, List.getElem?_eq_getElem hi⟩
      have hkk := tk_get hk
      rw [if_pos hi, hkk] at e0
      by_cases h9 : k.kind = 9
      · rw [if_pos h9] at e0
        conv => whnf
        repeat' ((first | refine Case.decT (by with_reducible assumption) ?_ | refine Case.decT (by omega) ?_ | refine Owes.mk toksF_row ?_ | refine Elem.mk i _ rfl (toksF_get hk) ?_ | refine Num.id (by omega) (by omega) ?_); conv => whnf)
        refine ⟨(i + 1, out), ⟨by dsimp only; omega, by dsimp only; omega, fun f hf => ?_⟩, by dsimp only; omega, ?_⟩
        · dsimp only at hf ⊢
          rw [← e0]
          exact rulesRun_fuel t _ _ _ _ hf (by omega)
        ·
          repeat' first | exact trivial | exact rfl | exact Nat.zero_lt_succ _ | apply And.intro
      by_cases h2k : k.kind = 2
      · rw [if_neg h9, if_pos h2k] at e0
        have ha := yat_spec hl i hi
        have hg := atP_gt hi
        conv => whnf
        repeat' ((first | refine Case.decT (by with_reducible assumption) ?_ | refine Case.decF (by with_reducible assumption) ?_ | refine Case.decT (by omega) ?_ | refine Owes.mk toksF_row ?_ | refine Elem.mk i _ rfl (toksF_get hk) ?_ | refine ha.call ⟨rfl, rfl, rfl⟩ ?_); conv => whnf)
        refine ⟨(atP t i, out), ⟨hg.2, by dsimp only; omega, fun f hf => ?_⟩, by dsimp only; omega, ?_⟩
        · dsimp only at hf ⊢
          rw [← e0]
          exact rulesRun_fuel t _ _ _ _ hf (by omega)
        ·
          repeat' first | exact trivial | exact rfl | exact Nat.zero_lt_succ _ | apply And.intro
      rw [if_neg h9, if_neg h2k] at e0
      have hf := yfind_spec hl i h1 14 14
      have g1 := findP_ge (t := t) (i := i) 14 14 h1
      have g2 := findP_le t i 14 14
      by_cases hkl : findP t i 14 14 = t.length
      · rw [if_pos hkl] at e0
        conv => whnf
        repeat' ((first | refine Case.decF (by with_reducible assumption) ?_ | refine Case.decT (by omega) ?_ | refine Owes.mk toksF_row ?_ | refine Elem.mk i _ rfl (toksF_get hk) ?_ | refine hf.call ⟨rfl, rfl, rfl, rfl, rfl⟩ ?_); conv => whnf)
        refine Fin.frz 0 (Fin.mk (.f (.sl (rawsF (rulesV t)))) [] ⟨rfl, rfl⟩ rfl ?_)
        rw [← e0]
        repeat' first | exact trivial | exact rfl | apply And.intro
      · rw [if_neg hkl] at e0
        have hkt : findP t i 14 14 < t.length := by omega
        have hs := yskip_spec hl _ g2
        have hg := skipP_gt hkt
        have hin := yinner_val hl _ hkt
        have hcl := yclone_toks (preT t i (findP t i 14 14)) (by unfold preT; simp; omega)
        have e : ((toksF t).take (findP t i 14 14)).drop i = toksF (preT t i (findP t i 14 14)) := by unfold preT; show _ = List.map tokRow _; rw [List.map_drop, List.map_take]
        conv => whnf
        repeat' ((first | refine Case.decF (by with_reducible assumption) ?_ | refine Case.decT (by omega) ?_ | refine Case.decF (by omega) ?_ | refine Owes.mk toksF_row ?_ | refine Elem.mk i _ rfl (toksF_get hk) ?_ | refine hf.call ⟨rfl, rfl, rfl, rfl, rfl⟩ ?_ | (refine Part.mk i (findP t i 14 14) rfl rfl g1 (by rw [hlen]; exact g2) ?_) | rw [e] | refine hcl.call ?_ | refine hin.call ?_ | refine hs.call ⟨rfl, rfl, rfl⟩ ?_ | (refine Owes.mk (by simp; omega) ?_)); conv => whnf)
        refine ⟨(skipP t (findP t i 14 14), out ++ [{ pre := preT t i (findP t i 14 14), block := innerT t (findP t i 14 14) }]), ⟨hg.2, by dsimp only; rw [List.length_append]; simp; omega, fun f hf => ?_⟩, by dsimp only; omega, ?_⟩
        · dsimp only at hf ⊢
          rw [← e0]
          exact rulesRun_fuel t _ _ _ _ hf (by omega)
        ·
          repeat' first | exact trivial | exact rfl | exact Nat.zero_lt_succ _ | exact congrArg (D.own _ _ _) (by simp [RawV.row]; done) | apply And.intro
    · rw [if_neg hi] at e0
      conv => whnf
      repeat' (refine Case.decF (by omega) ?_; conv => whnf)
      refine Fin.frz 0 (Fin.mk (.f (.sl (rawsF (rulesV t)))) [] ⟨rfl, rfl⟩ rfl ?_)
      rw [← e0]
      repeat' first | exact trivial | exact rfl | apply And.intro
theorem SkipI.fin {t : List Tok} {p i : Nat} {o : List Int} (h : SkipI t p (i, o)) (hi : i + 1 = t.length) : skipP t p = i + 1 := by
 by_cases hn : stepO o (tk t i).kind = []
 ·exact h.last (by omega) hn
 ·exact (h.next (by omega) hn).out (by omega)
def openRun (t : List Tok) : Nat → Nat → List Int → List Int
 | 0, _, o => o
 | f + 1, i, o => openRun t f (i + 1) (stepO o (tk t i).kind)
theorem openRun_snoc (t : List Tok) : ∀ (f i : Nat) (o : List Int), openRun t (f + 1) i o = stepO (openRun t f i o) (tk t (i + f)).kind
 | 0, i, o => rfl
 | f + 1, i, o => by
  rw [openRun, openRun_snoc t f (i + 1)]
  conv => rhs; rw [openRun]
  rw [show i + 1 + f = i + (f + 1) by omega]
set_option maxHeartbeats 2000000 in
theorem rskip_spec {t : List Tok} (hl : t.length < 100000000) (p : Nat) (hp : p ≤ t.length) : Pure 38 [.f (.sl (toksF t)), int p] (int (skipP t p)) := by
 have hlen : (toksF t).length = t.length := by simp
 refine .mk trivial (spec_mk tab_ok Tryz.func38 (by rfl) rfl ?_)
 rcases Nat.lt_or_ge p t.length with hpl | hpl
 ·conv => whnf
  repeat' ((first | refine Case.no ?_ | refine Case.decF (by omega) ?_); conv => whnf)
  refine step_loop tab_ok (fun s : Nat × List Int => padK [.f (.sl (toksF t)), int s.1, .junk, .junk, .junk, .own 0 3 1 (ptsF s.2)] 62) (fun _ => []) 1 (fun s => SkipI t p s ∧ s.1 < t.length) (fun s => t.length - s.1) (p, []) ⟨⟨⟨by simp, by simp; omega⟩, by simp, fun c hc => by simp at hc, fun f hf => skipRun_fuel t _ _ _ _ hf (by omega)⟩, hpl⟩ (fun _ => rfl) ?_ ?_
  ·
   repeat' first | exact trivial | exact rfl | exact Nat.zero_le _ | exact Nat.zero_lt_succ _ | apply And.intro
  ·rintro ⟨i, o⟩ ⟨hI, hi⟩
   have h1 := hI.i
   have h2 := hI.o
   dsimp only at h1 h2 hi ⊢
   have l2 := ptsF_length o
   obtain ⟨k, hk⟩ : ∃ k, t[i]? = some k := ⟨_, List.getElem?_eq_getElem hi⟩
   have hkk := tk_get hk
   have hn := hI.next hi
   have hla := hI.last hi
   have hfi := hI.fin
   have hcl := rclosing_spec k.kind
   rw [hkk] at hn hla
   have hcc := hI.c
   have hci := closeK_is k.kind
   clear hI
   rcases List.eq_nil_or_concat o with rfl | ⟨q, c, rfl⟩
   ·by_cases h0 : closeK k.kind = 0
    ·have e : stepO [] k.kind = [] := by unfold stepO; rw [if_neg (by simpa using h0)]; rfl
     have := hla e
     rw [h0] at hcl
     conv => whnf
     repeat' ((first | refine Case.yes ?_ | refine Case.no ?_ | refine Owes.mk toksF_row ?_ | refine Elem.mk i _ rfl (toksF_get hk) ?_ | refine hcl.call ⟨rfl, rfl⟩ ?_ | refine Num.id (by omega) (by omega) ?_); conv => whnf)
     all_goals exact Fin.isI (by omega)
    ·have e : stepO [] k.kind = [closeK k.kind] := by unfold stepO; rw [if_pos h0]; rfl
     have hn := hn (by rw [e]; simp)
     rw [e] at hn
     have l3 : (ptsF [] ++ [[F.v (.int .i64 (closeK k.kind))]]).length = 1 := rfl
     have h9 : closeK k.kind > 0 := by omega
     conv => whnf
     repeat' first | ((first | refine Case.no ?_ | refine Case.decT (by with_reducible assumption) ?_ | refine Owes.mk toksF_row ?_ | refine Elem.mk i _ rfl (toksF_get hk) ?_ | refine hcl.call ⟨rfl, rfl⟩ ?_ | (refine Owes.mk (by simp; omega) ?_) | refine Num.id (by omega) (by omega) ?_); conv => whnf) | (refine Case.dec (fun _ => ?_) (fun _ => ?_) <;> conv => whnf)
     ·exact Fin.isI (by have := hfi (by omega); omega)
     ·refine ⟨(i + 1, [closeK k.kind]), ⟨hn, by dsimp only; omega⟩, by dsimp only; omega, ?_⟩
      repeat' first | exact trivial | exact rfl | exact Nat.zero_lt_succ _ | apply And.intro
   ·simp only [List.concat_eq_append] at *
    have hc := hcc c (by simp)
    have hlq : (q ++ [c]).length = q.length + 1 := by simp
    have hcut := ptsF_cut q c
    have hget : (ptsF (q ++ [c]))[(((ptsF (q ++ [c])).length : Int) - 1).toNat]? = some [.v (.int .i64 c)] := by
     rw [l2, hlq, show (((q.length + 1 : Nat) : Int) - 1).toNat = q.length by omega]
     exact ptsF_last q c
    by_cases hkc : k.kind = c
    ·have h0 := closeK_0 (k := k.kind) (by omega)
     have e : stepO (q ++ [c]) k.kind = q := by
      unfold stepO
      rw [if_neg (by rw [h0]; simp), if_pos (by rw [hkc]; simp)]
      simp
     rw [h0] at hcl
     by_cases hq : q = []
     ·have := hla (e.trans hq)
      have hl0 : (ptsF q).length = 0 := by rw [hq]; rfl
      conv => whnf
      repeat' first
       | (refine Case.yes ?_; conv => whnf)
       | (refine Case.no ?_; conv => whnf)
       | (refine Case.decT (by with_reducible assumption) ?_; conv => whnf)
       | (refine Case.decT (by omega) ?_; conv => whnf)
       | (refine Owes.mk toksF_row ?_; conv => whnf)
       | (refine Elem.mk i _ rfl (toksF_get hk) ?_; conv => whnf)
       | (refine hcl.call ⟨rfl, rfl⟩ ?_; conv => whnf)
       | (refine Owes.mk rfl ?_; conv => whnf)
       | (refine Elem.mk q.length _ (by rw [l2, hlq]; omega) (ptsF_last q c) ?_; conv => whnf)
       | (rw [hget]; conv => whnf)
       | (refine Part.mk 0 q.length rfl (by rw [l2, hlq]; omega) (by omega) (by rw [l2, hlq]; omega) ?_; conv => whnf)
       | (rw [hcut]; conv => whnf)
       | (refine Num.id (by omega) (by omega) ?_; conv => whnf)
      all_goals exact Fin.isI (by omega)
     ·have hn := hn (by rw [e]; exact hq)
      rw [e] at hn
      have hl0 : 0 < (ptsF q).length := by rw [ptsF_length]; exact List.length_pos_iff.2 hq
      conv => whnf
      repeat' first
       | (refine Case.no ?_; conv => whnf)
       | (refine Case.decT (by with_reducible assumption) ?_; conv => whnf)
       | (refine Case.decT (by omega) ?_; conv => whnf)
       | (refine Case.decF (by omega) ?_; conv => whnf)
       | (refine Owes.mk toksF_row ?_; conv => whnf)
       | (refine Elem.mk i _ rfl (toksF_get hk) ?_; conv => whnf)
       | (refine hcl.call ⟨rfl, rfl⟩ ?_; conv => whnf)
       | (refine Owes.mk rfl ?_; conv => whnf)
       | (refine Elem.mk q.length _ (by rw [l2, hlq]; omega) (ptsF_last q c) ?_; conv => whnf)
       | (rw [hget]; conv => whnf)
       | (refine Part.mk 0 q.length rfl (by rw [l2, hlq]; omega) (by omega) (by rw [l2, hlq]; omega) ?_; conv => whnf)
       | (rw [hcut]; conv => whnf)
       | (refine Num.id (by omega) (by omega) ?_; conv => whnf)
       | (refine Case.dec (fun _ => ?_) (fun _ => ?_) <;> conv => whnf)
      ·exact Fin.isI (by have := hfi (by omega); omega)
      ·refine ⟨(i + 1, q), ⟨hn, by dsimp only; omega⟩, by dsimp only; omega, ?_⟩
       repeat' first | exact trivial | exact rfl | exact Nat.zero_lt_succ _ | apply And.intro
    ·by_cases h0 : closeK k.kind = 0
     ·have e : stepO (q ++ [c]) k.kind = q ++ [c] := by
       unfold stepO
       rw [if_neg (by simpa using h0), if_neg (by simp; omega)]
      have hn := hn (by rw [e]; simp)
      rw [e] at hn
      rw [h0] at hcl
      conv => whnf
      repeat' first | ((first | refine Case.no ?_ | refine Case.decF (by with_reducible assumption) ?_ | refine Case.decT (by omega) ?_ | refine Case.decF (by omega) ?_ | refine Owes.mk toksF_row ?_ | refine Elem.mk i _ rfl (toksF_get hk) ?_ | refine hcl.call ⟨rfl, rfl⟩ ?_ | refine Owes.mk rfl ?_ | (refine Elem.mk q.length _ (by rw [l2, hlq]; omega) (ptsF_last q c) ?_) | rw [hget] | refine Num.id (by omega) (by omega) ?_); conv => whnf) | (refine Case.dec (fun _ => ?_) (fun _ => ?_) <;> conv => whnf)
      ·exact Fin.isI (by have := hfi (by omega); omega)
      ·refine ⟨(i + 1, q ++ [c]), ⟨hn, by dsimp only; omega⟩, by dsimp only; omega, ?_⟩
       repeat' first | exact trivial | exact rfl | exact Nat.zero_lt_succ _ | apply And.intro
     ·have e : stepO (q ++ [c]) k.kind = q ++ [c] ++ [closeK k.kind] := by
       unfold stepO
       rw [if_pos h0]
      have hn := hn (by rw [e]; simp)
      rw [e] at hn
      have h9 : closeK k.kind > 0 := by omega
      have l3 : (ptsF (q ++ [c]) ++ [[F.v (.int .i64 (closeK k.kind))]]).length = q.length + 2 := by rw [List.length_append, l2, hlq]; rfl
      conv => whnf
      repeat' first | ((first | refine Case.decT (by with_reducible assumption) ?_ | refine Case.decF (by omega) ?_ | refine Owes.mk toksF_row ?_ | refine Elem.mk i _ rfl (toksF_get hk) ?_ | refine hcl.call ⟨rfl, rfl⟩ ?_ | (refine Owes.mk (by simp; omega) ?_) | refine Num.id (by omega) (by omega) ?_); conv => whnf) | (refine Case.dec (fun _ => ?_) (fun _ => ?_) <;> conv => whnf)
      ·exact Fin.isI (by have := hfi (by omega); omega)
      ·refine ⟨(i + 1, q ++ [c] ++ [closeK k.kind]), ⟨hn, by dsimp only; omega⟩, by dsimp only; omega, ?_⟩
       repeat' first | exact trivial | exact rfl | exact Nat.zero_lt_succ _ | exact congrArg (D.own _ _ _) (by simp [ptsF]; done) | apply And.intro
 ·rw [skipP_out hpl]
  conv => whnf
  repeat' ((first | refine Case.no ?_ | refine Case.decT (by omega) ?_); conv => whnf)
  all_goals exact Fin.isI rfl
structure OpenI (t : List Tok) (p e : Nat) (s : Nat × List Int) : Prop where
 i : p ≤ s.1 ∧ s.1 ≤ e
 o : s.2.length ≤ s.1
 c : Closers s.2
 run : s.2 = openRun t (s.1 - p) p []
theorem OpenI.next {t : List Tok} {p e i : Nat} {o : List Int} (h : OpenI t p e (i, o)) (hi : i < e) : OpenI t p e (i + 1, stepO o (tk t i).kind) := by
 have h1 := h.i
 dsimp only at h1
 refine ⟨⟨by dsimp only; omega, by dsimp only; omega⟩, ?_, h.c.step _, ?_⟩
 ·have := stepO_len o (tk t i).kind
  have := h.o
  dsimp only at *
  omega
 ·have := h.run
  dsimp only at this ⊢
  rw [show i + 1 - p = (i - p) + 1 by omega, openRun_snoc, ← this, show p + (i - p) = i by omega]
set_option maxHeartbeats 2000000 in
theorem rclosed_spec {t : List Tok} (hl : t.length < 100000000) (p e : Nat) (hp : p ≤ e) (he : e ≤ t.length) : Pure 39 [.f (.sl (toksF t)), int p, int e] (bool (decide (openRun t (e - p) p [] = []))) := by
 have hlen : (toksF t).length = t.length := by simp
 refine .mk trivial (spec_mk tab_ok Tryz.func39 (by rfl) rfl ?_)
 conv => whnf
 repeat' first
  | (refine Case.not ?_; conv => whnf)
  | (refine Case.yes ?_; conv => whnf)
  | (refine Case.no ?_; conv => whnf)
  | (refine Case.isTrue (by with_reducible assumption) ?_; conv => whnf)
  | (refine Case.isFalse (by with_reducible assumption) ?_; conv => whnf)
  | (refine Case.decT (by with_reducible assumption) ?_; conv => whnf)
  | (refine Case.decF (by with_reducible assumption) ?_; conv => whnf)
  | (refine Case.decT (by omega) ?_; conv => whnf)
  | (refine Case.decF (by omega) ?_; conv => whnf)
  | (refine Case.beqT (by omega) ?_; conv => whnf)
  | (refine Case.beqF (by omega) ?_; conv => whnf)
  | (refine Num.id (by omega) (by omega) ?_; conv => whnf)
  | (refine Case.dec (fun _ => ?_) (fun _ => ?_) <;> conv => whnf)
  | (refine Case.beqI (fun _ => ?_) (fun _ => ?_) <;> conv => whnf)
  | (refine Case.mk (fun _ => ?_) (fun _ => ?_) <;> conv => whnf)
  | (refine Way.fst ?_; conv => whnf)
 refine step_loop tab_ok (fun s : Nat × List Int => padK [.f (.sl (toksF t)), int s.1, int e, .junk, .junk, .junk, .junk, .own 0 3 1 (ptsF s.2)] 53) (fun _ => []) 1 (OpenI t p e) (fun s => e - s.1) (p, []) ⟨⟨by simp, hp⟩, by simp, fun c hc => by simp at hc, by dsimp only; rw [Nat.sub_self]; rfl⟩ (fun _ => rfl) ?_ ?_
 ·
  repeat' first | exact trivial | exact rfl | exact Nat.zero_le _ | exact Nat.zero_lt_succ _ | apply And.intro
 ·rintro ⟨i, o⟩ hI
  have h1 := hI.i
  have h2 := hI.o
  dsimp only at h1 h2 ⊢
  have l2 := ptsF_length o
  by_cases hi : i < e
  ·obtain ⟨k, hk⟩ : ∃ k, t[i]? = some k := ⟨_, List.getElem?_eq_getElem (by omega)⟩
   have hkk := tk_get hk
   have hn := hI.next hi
   have hcl := rclosing_spec k.kind
   rw [hkk] at hn
   have hcc := hI.c
   have hci := closeK_is k.kind
   clear hI
   rcases List.eq_nil_or_concat o with rfl | ⟨q, c, rfl⟩
   ·by_cases h0 : closeK k.kind = 0
    ·have e : stepO [] k.kind = [] := by unfold stepO; rw [if_neg (by simpa using h0)]; rfl
     rw [e] at hn
     rw [h0] at hcl
     conv => whnf
     repeat' ((first | refine Case.no ?_ | refine Case.decT (by omega) ?_ | refine Owes.mk toksF_row ?_ | refine Elem.mk i _ rfl (toksF_get hk) ?_ | refine hcl.call ⟨rfl, rfl⟩ ?_ | (refine step_kinds 2 ?hk ?_; (case hk => decide +kernel)) | refine Num.id (by omega) (by omega) ?_); conv => whnf)
     refine ⟨(i + 1, []), hn, by dsimp only; omega, ?_⟩
     repeat' first | exact trivial | exact rfl | exact Nat.zero_lt_succ _ | apply And.intro
    ·have e : stepO [] k.kind = [closeK k.kind] := by unfold stepO; rw [if_pos h0]; rfl
     rw [e] at hn
     have h9 : closeK k.kind > 0 := by omega
     conv => whnf
     repeat' ((first | refine Case.decT (by with_reducible assumption) ?_ | refine Case.decT (by omega) ?_ | refine Owes.mk toksF_row ?_ | refine Elem.mk i _ rfl (toksF_get hk) ?_ | refine hcl.call ⟨rfl, rfl⟩ ?_ | (refine Owes.mk (by simp; omega) ?_) | refine Num.id (by omega) (by omega) ?_); conv => whnf)
     refine ⟨(i + 1, [closeK k.kind]), hn, by dsimp only; omega, ?_⟩
     repeat' first | exact trivial | exact rfl | exact Nat.zero_lt_succ _ | apply And.intro
   ·simp only [List.concat_eq_append] at *
    have hc := hcc c (by simp)
    have hlq : (q ++ [c]).length = q.length + 1 := by simp
    have hcut := ptsF_cut q c
    have hget : (ptsF (q ++ [c]))[(((ptsF (q ++ [c])).length : Int) - 1).toNat]? = some [.v (.int .i64 c)] := by
     rw [l2, hlq, show (((q.length + 1 : Nat) : Int) - 1).toNat = q.length by omega]
     exact ptsF_last q c
    by_cases hkc : k.kind = c
    ·have h0 := closeK_0 (k := k.kind) (by omega)
     have e : stepO (q ++ [c]) k.kind = q := by
      unfold stepO
      rw [if_neg (by rw [h0]; simp), if_pos (by rw [hkc]; simp)]
      simp
     rw [h0] at hcl
     rw [e] at hn
     conv => whnf
     repeat' first
      | (refine Case.no ?_; conv => whnf)
      | (refine Case.decT (by with_reducible assumption) ?_; conv => whnf)
      | (refine Case.decT (by omega) ?_; conv => whnf)
      | (refine Owes.mk toksF_row ?_; conv => whnf)
      | (refine Elem.mk i _ rfl (toksF_get hk) ?_; conv => whnf)
      | (refine hcl.call ⟨rfl, rfl⟩ ?_; conv => whnf)
      | (refine Owes.mk rfl ?_; conv => whnf)
      | (refine Elem.mk q.length _ (by rw [l2, hlq]; omega) (ptsF_last q c) ?_; conv => whnf)
      | (rw [hget]; conv => whnf)
      | (refine Part.mk 0 q.length rfl (by rw [l2, hlq]; omega) (by omega) (by rw [l2, hlq]; omega) ?_; conv => whnf)
      | (rw [hcut]; conv => whnf)
      | (refine step_kinds 2 ?hk ?_; (case hk => decide +kernel); conv => whnf)
      | (refine Num.id (by omega) (by omega) ?_; conv => whnf)
     refine ⟨(i + 1, q), hn, by dsimp only; omega, ?_⟩
     repeat' first | exact trivial | exact rfl | exact Nat.zero_lt_succ _ | apply And.intro
    ·by_cases h0 : closeK k.kind = 0
     ·have e : stepO (q ++ [c]) k.kind = q ++ [c] := by
       unfold stepO
       rw [if_neg (by simpa using h0), if_neg (by simp; omega)]
      rw [e] at hn
      rw [h0] at hcl
      conv => whnf
      repeat' ((first | refine Case.no ?_ | refine Case.decF (by with_reducible assumption) ?_ | refine Case.decT (by omega) ?_ | refine Owes.mk toksF_row ?_ | refine Elem.mk i _ rfl (toksF_get hk) ?_ | refine hcl.call ⟨rfl, rfl⟩ ?_ | refine Owes.mk rfl ?_ | (refine Elem.mk q.length _ (by rw [l2, hlq]; omega) (ptsF_last q c) ?_) | rw [hget] | (refine step_kinds 2 ?hk ?_; (case hk => decide +kernel)) | refine Num.id (by omega) (by omega) ?_); conv => whnf)
      refine ⟨(i + 1, q ++ [c]), hn, by dsimp only; omega, ?_⟩
      repeat' first | exact trivial | exact rfl | exact Nat.zero_lt_succ _ | apply And.intro
     ·have e : stepO (q ++ [c]) k.kind = q ++ [c] ++ [closeK k.kind] := by
       unfold stepO
       rw [if_pos h0]
      rw [e] at hn
      have h9 : closeK k.kind > 0 := by omega
      conv => whnf
      repeat' ((first | refine Case.decT (by with_reducible assumption) ?_ | refine Case.decT (by omega) ?_ | refine Owes.mk toksF_row ?_ | refine Elem.mk i _ rfl (toksF_get hk) ?_ | refine hcl.call ⟨rfl, rfl⟩ ?_ | (refine Owes.mk (by simp; omega) ?_) | refine Num.id (by omega) (by omega) ?_); conv => whnf)
      refine ⟨(i + 1, q ++ [c] ++ [closeK k.kind]), hn, by dsimp only; omega, ?_⟩
      repeat' first | exact trivial | exact rfl | exact Nat.zero_lt_succ _ | exact congrArg (D.own _ _ _) (by simp [ptsF]; done) | apply And.intro
  ·have hr := hI.run
   have hie : i = e := by omega
   dsimp only at hr
   subst hie
   conv => whnf
   repeat' (refine Case.decF (by omega) ?_; conv => whnf)
   refine Fin.isB ?_
   rw [← hr, l2]
   cases o <;> simp <;> omega
theorem skipP_one {t : List Tok} {i : Nat} (h : i < t.length) (hk : closeK (tk t i).kind = 0) : skipP t i = i + 1 := by
 unfold skipP skipRun
 rw [if_pos h]
 have e : stepO [] (tk t i).kind = [] := by unfold stepO; rw [if_neg (by simpa using hk)]; rfl
 rw [if_pos e]
structure AtI (t : List Tok) (i j : Nat) : Prop where
 le : i < j ∧ j ≤ t.length
 run : skipP t (findP t j 12 14) = atP t i
theorem rat_spec {t : List Tok} (hl : t.length < 100000000) (i : Nat) (hi : i < t.length) : Pure 37 [.f (.sl (toksF t)), int i] (int (atP t i)) := by
 have hlen : (toksF t).length = t.length := by simp
 refine .mk trivial (spec_mk tab_ok Tryz.func37 (by rfl) rfl ?_)
 conv => whnf
 repeat' (refine Num.id (by omega) (by omega) ?_; conv => whnf)
 refine step_loop tab_ok (fun j : Nat => padK [.f (.sl (toksF t)), int j] 32) (fun _ => []) 0 (AtI t i) (fun j => t.length - j) (i + 1) ⟨⟨by omega, by omega⟩, rfl⟩ (fun _ => rfl) ?_ ?_
 ·
  repeat' first | exact trivial | exact rfl | apply And.intro
 ·rintro j ⟨h1, h2⟩
  by_cases hj : j < t.length
  ·obtain ⟨k, hk⟩ : ∃ k, t[j]? = some k := ⟨_, List.getElem?_eq_getElem hj⟩
   have hkk := tk_get hk
   have hst := findP_step (a := 12) (b := 14) hj
   have hs := rskip_spec hl j (by omega)
   have hg := skipP_gt hj
   rw [hkk] at hst
   by_cases h12 : k.kind = 12
   ·rw [if_pos (.inl h12)] at hst
    have e := skipP_one hj (by rw [hkk, h12]; decide)
    rw [hst, e] at h2
    conv => whnf
    repeat' ((first | refine Case.decT (by with_reducible assumption) ?_ | refine Case.decT (by omega) ?_ | refine Owes.mk toksF_row ?_ | refine Elem.mk j _ rfl (toksF_get hk) ?_ | refine Num.id (by omega) (by omega) ?_); conv => whnf)
    exact Fin.isI (by omega)
   by_cases h14 : k.kind = 14
   ·rw [if_pos (.inr h14)] at hst
    rw [hst] at h2
    conv => whnf
    repeat' ((first | refine Case.decT (by with_reducible assumption) ?_ | refine Case.decF (by with_reducible assumption) ?_ | refine Case.decT (by omega) ?_ | refine Owes.mk toksF_row ?_ | refine Elem.mk j _ rfl (toksF_get hk) ?_ | refine hs.call ⟨rfl, rfl, rfl⟩ ?_); conv => whnf)
    all_goals exact Fin.isI (by omega)
   ·rw [if_neg (by omega)] at hst
    rw [hst] at h2
    have hd : decide (k.kind = 14) = false := decide_eq_false h14
    conv => whnf
    repeat' ((first | refine Case.decF (by with_reducible assumption) ?_ | refine Case.decT (by omega) ?_ | refine Owes.mk toksF_row ?_ | refine Elem.mk j _ rfl (toksF_get hk) ?_ | refine hs.call ⟨rfl, rfl, rfl⟩ ?_); conv => whnf)
    all_goals
     refine ⟨skipP t j, ⟨⟨by omega, hg.2⟩, h2⟩, by omega, ?_⟩
     repeat' first | exact trivial | exact rfl | apply And.intro
  ·have e1 := findP_out (t := t) (i := j) (a := 12) (b := 14) (by omega)
   rw [e1, skipP_out (Nat.le_refl _)] at h2
   conv => whnf
   repeat' (refine Case.decF (by omega) ?_; conv => whnf)
   exact Fin.isI (by omega)
theorem stepO_app {o s : List Int} (hs : s ≠ []) (k : Int) : stepO (o ++ s) k = o ++ stepO s k := by
 unfold stepO
 by_cases h1 : closeK k ≠ 0
 ·rw [if_pos h1, if_pos h1, List.append_assoc]
 ·rw [if_neg h1, if_neg h1]
  have e : (o ++ s).getLast? = s.getLast? := by
   cases s with
   | nil => exact absurd rfl hs
   | cons a s => simp [List.getLast?_append, List.getLast?_cons]
  rw [e]
  split
  ·rw [List.dropLast_append_of_ne_nil hs]
  ·rfl
theorem skipRun_app (t : List Tok) : ∀ (f i : Nat) (s : List Int), s ≠ [] → t.length - i < f → i ≤ t.length → ∀ o : List Int, o ≠ [] →
  ((skipRun t f i s).2 = [] → skipRun t f i (o ++ s) = skipRun t (t.length + 1) (skipRun t f i s).1 o) ∧ ((skipRun t f i s).2 ≠ [] → (skipRun t f i s).1 = t.length ∧ skipRun t f i (o ++ s) = (t.length, o ++ (skipRun t f i s).2))
 | 0, i, s, _, h, _ => by omega
 | f + 1, i, s, hs, hf, hi => fun o ho => by
  by_cases hil : i < t.length
  ·have e1 : skipRun t (f + 1) i (o ++ s) = skipRun t f (i + 1) (o ++ stepO s (tk t i).kind) := by
    rw [skipRun, if_pos hil, stepO_app hs, if_neg (by simp [ho])]
   by_cases hn : stepO s (tk t i).kind = []
   ·have e2 : skipRun t (f + 1) i s = (i + 1, []) := by rw [skipRun, if_pos hil, if_pos hn]
    rw [e1, e2, hn, List.append_nil]
    exact ⟨fun _ => skipRun_fuel t _ _ _ _ (by omega) (by first | omega | (dsimp only; omega)), fun h => absurd rfl h⟩
   ·have e2 : skipRun t (f + 1) i s = skipRun t f (i + 1) (stepO s (tk t i).kind) := by rw [skipRun, if_pos hil, if_neg hn]
    rw [e1, e2]
    exact skipRun_app t f (i + 1) _ hn (by omega) (by omega) o ho
  ·have e1 : ∀ x, skipRun t (f + 1) i x = (i, x) := fun x => by rw [skipRun, if_neg hil]
   rw [e1, e1]
   refine ⟨fun h => absurd h hs, fun _ => ⟨by first | omega | (dsimp only; omega), by rw [show i = t.length by omega]⟩⟩
theorem openRun_of (t : List Tok) : ∀ (f i : Nat) (o : List Int), openRun t ((skipRun t f i o).1 - i) i o = (skipRun t f i o).2
 | 0, i, o => by simp [skipRun, openRun]
 | f + 1, i, o => by
  rw [skipRun]
  split
  ·rename_i hi
   split
   ·rename_i hn
    dsimp only
    rw [show i + 1 - i = 1 by omega, openRun, hn]
    rfl
   ·have h1 := (skipRun_le t f (i + 1) (stepO o (tk t i).kind) (by omega)).2
    rw [show (skipRun t f (i + 1) (stepO o (tk t i).kind)).1 - i = ((skipRun t f (i + 1) (stepO o (tk t i).kind)).1 - (i + 1)) + 1 by omega, openRun]
    exact openRun_of t f (i + 1) _
  ·dsimp only
   rw [Nat.sub_self]
   rfl
theorem block_end (t : List Tok) : ∀ (m i : Nat), t.length - i ≤ m → i ≤ t.length →
  (findP t i 15 15 < t.length → skipRun t (t.length + 1) i [15] = (findP t i 15 15 + 1, [])) ∧ (findP t i 15 15 = t.length → (skipRun t (t.length + 1) i [15]).1 = t.length ∧ (skipRun t (t.length + 1) i [15]).2 ≠ [])
 | m, i, hm, hi => by
  by_cases hil : i < t.length
  ·have hst := findP_step (a := 15) (b := 15) hil
   by_cases h15 : (tk t i).kind = 15
   ·rw [if_pos (.inl h15)] at hst
    rw [hst]
    refine ⟨fun _ => ?_, fun h => by omega⟩
    rw [skipRun, if_pos hil, h15]
    rfl
   ·rw [if_neg (by simpa using h15)] at hst
    have hg := skipP_gt hil
    obtain ⟨m, rfl⟩ : ∃ k, m = k + 1 := ⟨m - 1, by omega⟩
    have ih := block_end t m (skipP t i) (by omega) hg.2
    rw [hst]
    -- the run over the thing, and on behind it
    by_cases h0 : closeK (tk t i).kind = 0
    ·have e1 : skipRun t (t.length + 1) i [15] = skipRun t (t.length + 1) (skipP t i) [15] := by
      have es : stepO [15] (tk t i).kind = [15] := by
       unfold stepO
       rw [if_neg (by simpa using h0), if_neg (by simp; omega)]
      rw [skipRun, if_pos hil, es, if_neg (by simp), skipP_one hil h0]
      exact skipRun_fuel t _ _ _ _ (by omega) (by omega)
     rw [e1]
     exact ih
    ·have es : stepO [15] (tk t i).kind = [15] ++ [closeK (tk t i).kind] := by
      unfold stepO
      rw [if_pos h0]
     have es2 : stepO [] (tk t i).kind = [closeK (tk t i).kind] := by
      unfold stepO
      rw [if_pos h0]
      rfl
     have e1 : skipRun t (t.length + 1) i [15] = skipRun t t.length (i + 1) ([15] ++ [closeK (tk t i).kind]) := by
      rw [skipRun, if_pos hil, es, if_neg (by simp)]
     have e2 : skipP t i = (skipRun t t.length (i + 1) [closeK (tk t i).kind]).1 := by
      unfold skipP
      rw [skipRun, if_pos hil, es2, if_neg (by simp)]
     obtain ⟨a1, a2⟩ := skipRun_app t t.length (i + 1) [closeK (tk t i).kind] (by simp) (by omega) (by omega) [15] (by simp)
     by_cases hn : (skipRun t t.length (i + 1) [closeK (tk t i).kind]).2 = []
     ·have := a1 hn
      rw [← e2] at this
      rw [e1, this]
      exact ih
     ·obtain ⟨b1, b2⟩ := a2 hn
      rw [← e2] at b1
      rw [b1, findP_out (Nat.le_refl _), e1, b2]
      exact ⟨fun h => by omega, fun _ => ⟨rfl, by simp⟩⟩
  ·have hie : i = t.length := by omega
   subst hie
   rw [findP_out (Nat.le_refl _)]
   refine ⟨fun h => by omega, fun _ => ?_⟩
   rw [skipRun, if_neg (by omega)]
   exact ⟨rfl, by simp⟩
theorem block_to {t : List Tok} {k : Nat} (hk : k < t.length) (h14 : (tk t k).kind = 14) : (if openRun t (skipP t k - k) k [] = [] then skipP t k - 1 else skipP t k) = findP t (k + 1) 15 15 := by
 have e : skipRun t (t.length + 1) k [] = skipRun t (t.length + 1) (k + 1) [15] := by
  rw [skipRun, if_pos hk, h14, show stepO [] 14 = [15] from rfl, if_neg (by simp)]
  exact skipRun_fuel t _ _ _ _ (by omega) (by omega)
 have ho := openRun_of t (t.length + 1) k []
 have hp : skipP t k = (skipRun t (t.length + 1) k []).1 := rfl
 rw [hp, ho, e]
 obtain ⟨h1, h2⟩ := block_end t t.length (k + 1) (by omega) (by omega)
 rcases Nat.lt_or_ge (findP t (k + 1) 15 15) t.length with h | h
 ·rw [h1 h]
  simp
 ·have h3 : findP t (k + 1) 15 15 = t.length := by have := findP_le t (k + 1) 15 15; omega
  obtain ⟨g1, g2⟩ := h2 h3
  rw [if_neg g2, g1, h3]
structure WayI (t : List Tok) (p i : Nat) : Prop where
 le : p ≤ i ∧ i ≤ t.length
 run : findP t i 14 14 = findP t p 14 14
set_option maxHeartbeats 4000000 in
theorem rrules_val (t : List Tok) (hl : t.length < 100000000) : Val 18 [.f (.sl (toksF t))] (.f (.sl (rawsF (rulesV t)))) := by
 have hlen : (toksF t).length = t.length := by simp
 refine ⟨rfl, ⟨trivial, trivial⟩, rfl, spec_mk tab_ok Tryz.func18 (by rfl) rfl ?_⟩
 conv => whnf
 repeat' first
  | (refine Case.not ?_; conv => whnf)
  | (refine Case.yes ?_; conv => whnf)
  | (refine Case.no ?_; conv => whnf)
  | (refine Case.isTrue (by with_reducible assumption) ?_; conv => whnf)
  | (refine Case.isFalse (by with_reducible assumption) ?_; conv => whnf)
  | (refine Case.decT (by with_reducible assumption) ?_; conv => whnf)
  | (refine Case.decF (by with_reducible assumption) ?_; conv => whnf)
  | (refine Case.decT (by omega) ?_; conv => whnf)
  | (refine Case.decF (by omega) ?_; conv => whnf)
  | (refine Case.beqT (by omega) ?_; conv => whnf)
  | (refine Case.beqF (by omega) ?_; conv => whnf)
  | (refine Num.id (by omega) (by omega) ?_; conv => whnf)
  | (refine Case.dec (fun _ => ?_) (fun _ => ?_) <;> conv => whnf)
  | (refine Case.beqI (fun _ => ?_) (fun _ => ?_) <;> conv => whnf)
  | (refine Case.mk (fun _ => ?_) (fun _ => ?_) <;> conv => whnf)
  | (refine Way.fst ?_; conv => whnf)
 refine step_loop tab_ok (fun s : Nat × List RawV => padK [.f (.sl (toksF t)), .junk, .junk, .own 0 55 2 (rawsF s.2), int s.1] 79) (fun _ => []) 1 (RulesI t) (fun s => t.length - s.1) (0, []) ⟨by simp, by simp, fun f hf => rulesRun_fuel t _ _ _ _ hf (by omega)⟩ (fun _ => rfl) ?_ ?_
 ·
  repeat' first | exact trivial | exact rfl | exact Nat.zero_le _ | exact Nat.zero_lt_succ _ | apply And.intro
 ·rintro ⟨i, out⟩ ⟨h1, h2, h3⟩
  dsimp only at h1 h2 h3 ⊢
  have l2 : (rawsF out).length = out.length := List.length_map ..
  have e0 := h3 (t.length - i + 1) (by omega)
  rw [rulesRun] at e0
  by_cases hi : i < t.length
  ·obtain ⟨k, hk⟩ : ∃ k, t[i]? = some k := ⟨_, List.getElem?_eq_getElem hi⟩
   have hkk := tk_get hk
   rw [if_pos hi, hkk] at e0
   by_cases h9 : k.kind = 9
   ·rw [if_pos h9] at e0
    conv => whnf
    repeat' ((first | refine Case.decT (by with_reducible assumption) ?_ | refine Case.decT (by omega) ?_ | refine Owes.mk toksF_row ?_ | refine Elem.mk i _ rfl (toksF_get hk) ?_ | refine Num.id (by omega) (by omega) ?_); conv => whnf)
    refine ⟨(i + 1, out), ⟨by dsimp only; omega, by dsimp only; omega, fun f hf => ?_⟩, by dsimp only; omega, ?_⟩
    ·dsimp only at hf ⊢
     rw [← e0]
     exact rulesRun_fuel t _ _ _ _ hf (by omega)
    ·
     repeat' first | exact trivial | exact rfl | exact Nat.zero_lt_succ _ | apply And.intro
   by_cases h2k : k.kind = 2
   ·rw [if_neg h9, if_pos h2k] at e0
    have ha := rat_spec hl i hi
    have hg := atP_gt hi
    conv => whnf
    repeat' ((first | refine Case.decT (by with_reducible assumption) ?_ | refine Case.decF (by with_reducible assumption) ?_ | refine Case.decT (by omega) ?_ | refine Owes.mk toksF_row ?_ | refine Elem.mk i _ rfl (toksF_get hk) ?_ | refine ha.call ⟨rfl, rfl, rfl⟩ ?_); conv => whnf)
    refine ⟨(atP t i, out), ⟨hg.2, by dsimp only; omega, fun f hf => ?_⟩, by dsimp only; omega, ?_⟩
    ·dsimp only at hf ⊢
     rw [← e0]
     exact rulesRun_fuel t _ _ _ _ hf (by omega)
    ·
     repeat' first | exact trivial | exact rfl | exact Nat.zero_lt_succ _ | apply And.intro
   rw [if_neg h9, if_neg h2k] at e0
   conv => whnf
   repeat' ((first | refine Case.decF (by with_reducible assumption) ?_ | refine Case.decT (by omega) ?_ | refine Owes.mk toksF_row ?_ | refine Elem.mk i _ rfl (toksF_get hk) ?_); conv => whnf)
   refine step_loop tab_ok (fun j : Nat => padK [.f (.sl (toksF t)), .junk, .junk, .own 0 55 2 (rawsF out), int j, int i] 79) (fun _ => []) 1 (WayI t i) (fun j => t.length - j) i ⟨⟨Nat.le_refl _, h1⟩, rfl⟩ (fun _ => rfl) ?_ ?_
   ·
    repeat' first | exact trivial | exact rfl | exact Nat.zero_lt_succ _ | apply And.intro
   ·rintro j ⟨g1, g2⟩
    by_cases hj : j < t.length
    ·obtain ⟨u, hu⟩ : ∃ u, t[j]? = some u := ⟨_, List.getElem?_eq_getElem hj⟩
     have huu := tk_get hu
     have hst := findP_step (a := 14) (b := 14) hj
     have hs := rskip_spec hl j (by omega)
     have hg := skipP_gt hj
     rw [huu] at hst
     by_cases h14 : u.kind = 14
     ·rw [if_pos (.inl h14)] at hst
      have hf : findP t i 14 14 = j := by rw [← g2, hst]
      rw [hf, if_neg (by omega)] at e0
      have hcl := rclosed_spec hl j (skipP t j) (by omega) hg.2
      have hto := block_to hj (by rw [huu, h14])
      have q1 := findP_ge (t := t) (i := j + 1) 15 15 (by omega)
      have q2 := findP_le t (j + 1) 15 15
      obtain ⟨Pp, hP⟩ : ∃ Pp, Pp = toksF (preT t i j) := ⟨_, rfl⟩
      obtain ⟨Bb, hB⟩ : ∃ Bb, Bb = toksF (innerT t j) := ⟨_, rfl⟩
      have ep : ((toksF t).take j).drop i = Pp := by rw [hP]; unfold preT; show _ = List.map tokRow _; rw [List.map_drop, List.map_take]
      have ei : ((toksF t).take (findP t (j + 1) 15 15)).drop (j + 1) = Bb := by rw [hB]; unfold innerT; show _ = List.map tokRow _; rw [List.map_drop, List.map_take]
      have rp : ∀ r ∈ Pp, r.length = 5 := by rw [hP]; exact toksF_row
      have rb : ∀ r ∈ Bb, r.length = 5 := by rw [hB]; exact toksF_row
      have lp : Pp.length ≤ t.length := by rw [hP]; unfold preT; simp; omega
      have li : Bb.length ≤ t.length := by rw [hB]; unfold innerT; simp; omega
      have er : rawsF (out ++ [{ pre := preT t i j, block := innerT t j }]) = rawsF out ++ [[.sl Pp, .sl Bb]] := by rw [hP, hB]; simp [RawV.row]
      have hb : ∀ f, t.length - skipP t j < f → rulesRun t f (skipP t j) (out ++ [{ pre := preT t i j, block := innerT t j }]) = rulesV t := fun f hf => by
       rw [← e0]
       exact rulesRun_fuel t _ _ _ _ hf (by omega)
      have lo : (out ++ [({ pre := preT t i j, block := innerT t j } : RawV)]).length ≤ skipP t j := by rw [List.length_append]; simp; omega
      clear hP hB e0
      by_cases hw : openRun t (skipP t j - j) j [] = []
      ·rw [if_pos hw] at hto
       rw [decide_eq_true hw] at hcl
       conv => whnf
       repeat' first
        | (refine Case.not ?_; conv => whnf)
        | (refine Case.yes ?_; conv => whnf)
        | (refine Case.decT (by with_reducible assumption) ?_; conv => whnf)
        | (refine Case.decT (by omega) ?_; conv => whnf)
        | (refine Case.decF (by omega) ?_; conv => whnf)
        | (refine Owes.mk toksF_row ?_; conv => whnf)
        | (refine Elem.mk j _ rfl (toksF_get hu) ?_; conv => whnf)
        | (refine hs.call ⟨rfl, rfl, rfl⟩ ?_; conv => whnf)
        | (refine hcl.call ⟨rfl, rfl, rfl, rfl⟩ ?_; conv => whnf)
        | (refine Part.mk i j rfl rfl g1.1 (by rw [hlen]; omega) ?_; conv => whnf)
        | (refine Part.mk (j + 1) (findP t (j + 1) 15 15) rfl (by omega) q1 (by rw [hlen]; omega) ?_; conv => whnf)
        | (rw [ep]; conv => whnf)
        | (rw [ei]; conv => whnf)
        | (refine Owes.mk rp ?_; conv => whnf)
        | (refine Owes.mk rb ?_; conv => whnf)
        | (refine Owes.mk (by show Pp.length * 48 ≤ 140737488355328; omega) ?_; conv => whnf)
        | (refine Owes.mk (by show Bb.length * 48 ≤ 140737488355328; omega) ?_; conv => whnf)
        | (refine Owes.mk (by simp; omega) ?_; conv => whnf)
        | (refine V3.step_auto 2 ?hk ?_; (case hk => decide +kernel); conv => whnf)
        | (refine Num.id (by omega) (by omega) ?_; conv => whnf)
       refine ⟨(skipP t j, out ++ [{ pre := preT t i j, block := innerT t j }]), ⟨hg.2, lo, hb⟩, by dsimp only; omega, ?_⟩
       dsimp only
       rw [er]
       repeat' first | exact trivial | exact rfl | exact Nat.zero_lt_succ _ | apply And.intro
      ·rw [if_neg hw] at hto
       rw [decide_eq_false hw] at hcl
       conv => whnf
       repeat' first
        | (refine Case.not ?_; conv => whnf)
        | (refine Case.no ?_; conv => whnf)
        | (refine Case.decT (by with_reducible assumption) ?_; conv => whnf)
        | (refine Case.decT (by omega) ?_; conv => whnf)
        | (refine Case.decF (by omega) ?_; conv => whnf)
        | (refine Owes.mk toksF_row ?_; conv => whnf)
        | (refine Elem.mk j _ rfl (toksF_get hu) ?_; conv => whnf)
        | (refine hs.call ⟨rfl, rfl, rfl⟩ ?_; conv => whnf)
        | (refine hcl.call ⟨rfl, rfl, rfl, rfl⟩ ?_; conv => whnf)
        | (refine Part.mk i j rfl rfl g1.1 (by rw [hlen]; omega) ?_; conv => whnf)
        | (refine Part.mk (j + 1) (findP t (j + 1) 15 15) rfl (by omega) q1 (by rw [hlen]; omega) ?_; conv => whnf)
        | (rw [ep]; conv => whnf)
        | (rw [ei]; conv => whnf)
        | (refine Owes.mk rp ?_; conv => whnf)
        | (refine Owes.mk rb ?_; conv => whnf)
        | (refine Owes.mk (by show Pp.length * 48 ≤ 140737488355328; omega) ?_; conv => whnf)
        | (refine Owes.mk (by show Bb.length * 48 ≤ 140737488355328; omega) ?_; conv => whnf)
        | (refine Owes.mk (by simp; omega) ?_; conv => whnf)
        | (refine V3.step_auto 2 ?hk ?_; (case hk => decide +kernel); conv => whnf)
        | (refine Num.id (by omega) (by omega) ?_; conv => whnf)
       refine ⟨(skipP t j, out ++ [{ pre := preT t i j, block := innerT t j }]), ⟨hg.2, lo, hb⟩, by dsimp only; omega, ?_⟩
       dsimp only
       rw [er]
       repeat' first | exact trivial | exact rfl | exact Nat.zero_lt_succ _ | apply And.intro
     ·rw [if_neg (by simpa using h14)] at hst
      conv => whnf
      repeat' ((first | refine Case.not ?_ | refine Case.decF (by with_reducible assumption) ?_ | refine Case.decT (by omega) ?_ | refine Owes.mk toksF_row ?_ | refine Elem.mk j _ rfl (toksF_get hu) ?_ | refine hs.call ⟨rfl, rfl, rfl⟩ ?_); conv => whnf)
      refine ⟨skipP t j, ⟨⟨by omega, hg.2⟩, by rw [← g2, hst]⟩, by omega, ?_⟩
      repeat' first | exact trivial | exact rfl | exact Nat.zero_lt_succ _ | apply And.intro
    ·have e1 := findP_out (t := t) (i := j) (a := 14) (b := 14) (by omega)
     rw [e1] at g2
     rw [if_pos g2.symm] at e0
     conv => whnf
     repeat' ((first | refine Case.no ?_ | refine Case.decT (by omega) ?_ | refine Case.decF (by omega) ?_); conv => whnf)
     refine Fin.frz 0 (Fin.mk (.f (.sl (rawsF (rulesV t)))) [] ⟨rfl, rfl⟩ rfl ?_)
     rw [← e0]
     repeat' first | exact trivial | exact rfl | apply And.intro
  ·rw [if_neg hi] at e0
   conv => whnf
   repeat' (refine Case.decF (by omega) ?_; conv => whnf)
   refine Fin.frz 0 (Fin.mk (.f (.sl (rawsF (rulesV t)))) [] ⟨rfl, rfl⟩ rfl ?_)
   rw [← e0]
   repeat' first | exact trivial | exact rfl | apply And.intro
def trimL : List Tok → List Tok
 | [] => []
 | k :: r => if k.kind = 9 then trimL r else k :: r
def trimR (t : List Tok) : List Tok := (trimL t.reverse).reverse
def trimT (t : List Tok) : List Tok := trimR (trimL t)
theorem trimR_snoc (q : List Tok) (k : Tok) : trimR (q ++ [k]) = if k.kind = 9 then trimR q else q ++ [k] := by
 unfold trimR
 rw [List.reverse_append, List.reverse_singleton, List.singleton_append, trimL]
 split
 ·rfl
 ·simp
theorem trimL_len : ∀ t : List Tok, (trimL t).length ≤ t.length
 | [] => Nat.le_refl _
 | k :: r => by
  unfold trimL
  have := trimL_len r
  split
  ·simp; omega
  ·exact Nat.le_refl _
theorem trimR_len (t : List Tok) : (trimR t).length ≤ t.length := by
 unfold trimR
 have := trimL_len t.reverse
 simpa using this
theorem trimT_len (t : List Tok) : (trimT t).length ≤ t.length := Nat.le_trans (trimR_len _) (trimL_len t)
theorem trimL_sub : ∀ (t : List Tok), ∀ k ∈ trimL t, k ∈ t
 | [], k, h => h
 | x :: r, k, h => by
  unfold trimL at h
  split at h
  ·exact List.mem_cons_of_mem _ (trimL_sub r k h)
  ·exact h
theorem trimT_sub (t : List Tok) : ∀ k ∈ trimT t, k ∈ t := fun k h => by
 unfold trimT trimR at h
 have := trimL_sub _ k (by simpa using h)
 exact trimL_sub t k (by simpa using this)
theorem dwhite_spec (k : Tok) : Pure 73 [k.d] (bool (decide (k.kind = 9))) := by
 refine .mk trivial (spec_mk tab_ok Tryz.func73 (by rfl) rfl ?_)
 conv => whnf
 repeat' first
  | (refine Case.not ?_; conv => whnf)
  | (refine Case.yes ?_; conv => whnf)
  | (refine Case.no ?_; conv => whnf)
  | (refine Case.isTrue (by with_reducible assumption) ?_; conv => whnf)
  | (refine Case.isFalse (by with_reducible assumption) ?_; conv => whnf)
  | (refine Case.decT (by with_reducible assumption) ?_; conv => whnf)
  | (refine Case.decF (by with_reducible assumption) ?_; conv => whnf)
  | (refine Case.decT (by omega) ?_; conv => whnf)
  | (refine Case.decF (by omega) ?_; conv => whnf)
  | (refine Case.beqT (by omega) ?_; conv => whnf)
  | (refine Case.beqF (by omega) ?_; conv => whnf)
  | (refine Case.strT (by with_reducible assumption) ?_; conv => whnf)
  | (refine Case.strF (by with_reducible assumption) ?_; conv => whnf)
  | (refine Case.strF (by simp only [*]; decide) ?_; conv => whnf)
  | (refine step_kinds 2 ?hk ?_; (case hk => decide +kernel); conv => whnf)
  | (refine step_kinds 3 ?hk ?_; (case hk => decide +kernel); conv => whnf)
  | (refine V3.step_auto 2 ?hk ?_; (case hk => decide +kernel); conv => whnf)
  | (refine V3.step_auto 3 ?hk ?_; (case hk => decide +kernel); conv => whnf)
  | (refine Num.id (by omega) (by omega) ?_; conv => whnf)
  | (refine Case.strI (fun _ => ?_) (fun _ => ?_) <;> conv => whnf)
  | (refine Both.mk ?_ ?_ <;> conv => whnf)
  | (refine Case.dec (fun _ => ?_) (fun _ => ?_) <;> conv => whnf)
  | (refine Case.beqI (fun _ => ?_) (fun _ => ?_) <;> conv => whnf)
  | (refine Case.mk (fun _ => ?_) (fun _ => ?_) <;> conv => whnf)
  | (refine Way.fst ?_; conv => whnf)
 all_goals exact Fin.isB (by by_cases h : k.kind = 9 <;> simp [h])
theorem toks_head (k : Tok) (r : List Tok) : ((toksF (k :: r)).take (r.length + 1)).drop 1 = toksF r := by
 have : (toksF r).length = r.length := by simp
 rw [toksF, List.map_cons, List.take_succ_cons, List.drop_succ_cons, List.drop_zero, List.take_of_length_le (by simp)]
theorem toks_tail (q : List Tok) (k : Tok) : ((toksF (q ++ [k])).take q.length).drop 0 = toksF q := by simp [toksF]
theorem toks_last (q : List Tok) (k : Tok) : (toksF (q ++ [k]))[q.length]? = some (tokRow k) := by simp [toksF]
theorem ytrim_val (t : List Tok) (hl : t.length < 100000000) : Val 74 [.f (.sl (toksF t))] (.f (.sl (toksF (trimT t)))) := by
 refine ⟨rfl, ⟨trivial, trivial⟩, rfl, spec_mk tab_ok Tryz.func74 (by rfl) rfl ?_⟩
 conv => whnf
 repeat' first
  | (refine Case.not ?_; conv => whnf)
  | (refine Case.yes ?_; conv => whnf)
  | (refine Case.no ?_; conv => whnf)
  | (refine Case.isTrue (by with_reducible assumption) ?_; conv => whnf)
  | (refine Case.isFalse (by with_reducible assumption) ?_; conv => whnf)
  | (refine Case.decT (by with_reducible assumption) ?_; conv => whnf)
  | (refine Case.decF (by with_reducible assumption) ?_; conv => whnf)
  | (refine Case.decT (by omega) ?_; conv => whnf)
  | (refine Case.decF (by omega) ?_; conv => whnf)
  | (refine Case.beqT (by omega) ?_; conv => whnf)
  | (refine Case.beqF (by omega) ?_; conv => whnf)
  | (refine Num.id (by omega) (by omega) ?_; conv => whnf)
  | (refine Case.dec (fun _ => ?_) (fun _ => ?_) <;> conv => whnf)
  | (refine Case.beqI (fun _ => ?_) (fun _ => ?_) <;> conv => whnf)
  | (refine Case.mk (fun _ => ?_) (fun _ => ?_) <;> conv => whnf)
  | (refine Way.fst ?_; conv => whnf)
 refine step_loop tab_ok (fun s : List Tok => padK [.f (.sl (toksF s))] 32) (fun _ => []) 0 (fun s => trimL s = trimL t ∧ s.length ≤ t.length) (fun s => s.length) t ⟨rfl, Nat.le_refl _⟩ (fun _ => rfl) ?_ ?_
 ·
  repeat' first | exact trivial | exact rfl | apply And.intro
 ·rintro s ⟨h1, h2⟩
  have hs : (toksF s).length = s.length := by simp
  have fin : ∀ s' : List Tok, s' = trimL t → True := fun _ _ => trivial
  by_cases hw : ∃ k r, s = k :: r ∧ k.kind = 9
  ·obtain ⟨k, r, rfl, hk⟩ := hw
   have hh := toks_head k r
   have hwk := (dwhite_spec k)
   rw [decide_eq_true hk] at hwk
   have hk2 : (toksF (k :: r))[0]? = some (tokRow k) := rfl
   have hl2 : (toksF (k :: r)).length = r.length + 1 := by simp
   generalize hg : toksF (k :: r) = kr at *
   conv => whnf
   repeat' ((first | refine Case.yes ?_ | refine Case.decT (by omega) ?_ | (refine Owes.mk (by rw [← hg]; exact toksF_row) ?_) | refine Elem.mk 0 _ rfl hk2 ?_ | refine hwk.call ⟨⟨rfl, rfl, rfl, rfl, rfl, rfl⟩, rfl⟩ ?_ | refine Part.mk 1 (r.length + 1) rfl (by omega) (by omega) (by omega) ?_ | rw [hh]); conv => whnf)
   refine ⟨r, ⟨by rw [← h1]; conv => rhs; rw [trimL, if_pos hk], by simp at h2; omega⟩, by simp, ?_⟩
   repeat' first | exact trivial | exact rfl | apply And.intro
  ·have hst : trimL s = s := by
    cases s with
    | nil => rfl
    | cons k r => rw [trimL, if_neg (fun h => hw ⟨k, r, rfl, h⟩)]
   rw [hst] at h1
   cases s with
   | nil =>
    conv => whnf
    repeat' (refine Case.no ?_; conv => whnf)
    refine step_loop tab_ok (fun s : List Tok => padK [.f (.sl (toksF s))] 32) (fun _ => []) 0 (fun s => trimR s = trimT t ∧ s.length ≤ t.length) (fun s => s.length) [] ⟨by rw [h1]; rfl, h2⟩ (fun _ => rfl) ?_ ?_
    ·
     repeat' first | exact trivial | exact rfl | apply And.intro
    ·rintro s2 ⟨g1, g2⟩
     have hs2 : (toksF s2).length = s2.length := by simp
     rcases List.eq_nil_or_concat s2 with rfl | ⟨q, k, rfl⟩
     ·conv => whnf
      repeat' (refine Case.no ?_; conv => whnf)
      refine Fin.mk (.f (.sl (toksF (trimT t)))) [] ⟨rfl, rfl⟩ rfl ?_
      rw [← g1]
      repeat' first | exact trivial | exact rfl | apply And.intro
     ·simp only [List.concat_eq_append] at *
      rw [trimR_snoc] at g1
      have hh := toks_tail q k
      have hk2 := toks_last q k
      have hwk := (dwhite_spec k)
      have hl2 : (toksF (q ++ [k])).length = q.length + 1 := by simp
      by_cases hk : k.kind = 9
      ·rw [if_pos hk] at g1
       rw [decide_eq_true hk] at hwk
       generalize hg : toksF (q ++ [k]) = kr at *
       have hi : (kr.length : Int) - 1 = (q.length : Nat) := by omega
       conv => whnf
       repeat' ((first | refine Case.yes ?_ | refine Case.decT (by omega) ?_ | (refine Owes.mk (by rw [← hg]; exact toksF_row) ?_) | refine Elem.mk q.length _ hi hk2 ?_ | refine hwk.call ⟨⟨rfl, rfl, rfl, rfl, rfl, rfl⟩, rfl⟩ ?_ | refine Part.mk 0 q.length rfl hi (by omega) (by omega) ?_ | rw [hh] | refine Num.id (by omega) (by omega) ?_); conv => whnf)
       refine ⟨q, ⟨g1, by simp at g2; omega⟩, by simp, ?_⟩
       repeat' first | exact trivial | exact rfl | apply And.intro
      ·rw [if_neg hk] at g1
       rw [decide_eq_false hk] at hwk
       generalize hg : toksF (q ++ [k]) = kr at *
       have hi : (kr.length : Int) - 1 = (q.length : Nat) := by omega
       conv => whnf
       repeat' ((first | refine Case.no ?_ | refine Case.decT (by omega) ?_ | (refine Owes.mk (by rw [← hg]; exact toksF_row) ?_) | refine Elem.mk q.length _ hi hk2 ?_ | refine hwk.call ⟨⟨rfl, rfl, rfl, rfl, rfl, rfl⟩, rfl⟩ ?_ | refine Num.id (by omega) (by omega) ?_); conv => whnf)
       refine Fin.mk (.f (.sl (toksF (trimT t)))) [] ⟨rfl, rfl⟩ rfl ?_
       rw [← g1, hg]
       repeat' first | exact trivial | exact rfl | apply And.intro
   | cons k r =>
    have hk : ¬ k.kind = 9 := fun h => hw ⟨k, r, rfl, h⟩
    have hwk := (dwhite_spec k)
    rw [decide_eq_false hk] at hwk
    have hk2 : (toksF (k :: r))[0]? = some (tokRow k) := rfl
    have hl2 : (toksF (k :: r)).length = r.length + 1 := by simp
    generalize hg : toksF (k :: r) = kr at *
    conv => whnf
    repeat' ((first | refine Case.no ?_ | refine Case.decT (by omega) ?_ | (refine Owes.mk (by rw [← hg]; exact toksF_row) ?_) | refine Elem.mk 0 _ rfl hk2 ?_ | refine hwk.call ⟨⟨rfl, rfl, rfl, rfl, rfl, rfl⟩, rfl⟩ ?_); conv => whnf)
    subst hg
    refine step_loop tab_ok (fun s : List Tok => padK [.f (.sl (toksF s))] 32) (fun _ => []) 0 (fun s => trimR s = trimT t ∧ s.length ≤ t.length) (fun s => s.length) (k :: r) ⟨by rw [h1]; rfl, h2⟩ (fun _ => rfl) ?_ ?_
    ·
     repeat' first | exact trivial | exact rfl | apply And.intro
    ·rintro s2 ⟨g1, g2⟩
     have hs2 : (toksF s2).length = s2.length := by simp
     rcases List.eq_nil_or_concat s2 with rfl | ⟨q, k, rfl⟩
     ·conv => whnf
      repeat' (refine Case.no ?_; conv => whnf)
      refine Fin.mk (.f (.sl (toksF (trimT t)))) [] ⟨rfl, rfl⟩ rfl ?_
      rw [← g1]
      repeat' first | exact trivial | exact rfl | apply And.intro
     ·simp only [List.concat_eq_append] at *
      rw [trimR_snoc] at g1
      have hh := toks_tail q k
      have hk2 := toks_last q k
      have hwk := (dwhite_spec k)
      have hl2 : (toksF (q ++ [k])).length = q.length + 1 := by simp
      by_cases hk : k.kind = 9
      ·rw [if_pos hk] at g1
       rw [decide_eq_true hk] at hwk
       generalize hg : toksF (q ++ [k]) = kr at *
       have hi : (kr.length : Int) - 1 = (q.length : Nat) := by omega
       conv => whnf
       repeat' ((first | refine Case.yes ?_ | refine Case.decT (by omega) ?_ | (refine Owes.mk (by rw [← hg]; exact toksF_row) ?_) | refine Elem.mk q.length _ hi hk2 ?_ | refine hwk.call ⟨⟨rfl, rfl, rfl, rfl, rfl, rfl⟩, rfl⟩ ?_ | refine Part.mk 0 q.length rfl hi (by omega) (by omega) ?_ | rw [hh] | refine Num.id (by omega) (by omega) ?_); conv => whnf)
       refine ⟨q, ⟨g1, by simp at g2; omega⟩, by simp, ?_⟩
       repeat' first | exact trivial | exact rfl | apply And.intro
      ·rw [if_neg hk] at g1
       rw [decide_eq_false hk] at hwk
       generalize hg : toksF (q ++ [k]) = kr at *
       have hi : (kr.length : Int) - 1 = (q.length : Nat) := by omega
       conv => whnf
       repeat' ((first | refine Case.no ?_ | refine Case.decT (by omega) ?_ | (refine Owes.mk (by rw [← hg]; exact toksF_row) ?_) | refine Elem.mk q.length _ hi hk2 ?_ | refine hwk.call ⟨⟨rfl, rfl, rfl, rfl, rfl, rfl⟩, rfl⟩ ?_ | refine Num.id (by omega) (by omega) ?_); conv => whnf)
       refine Fin.mk (.f (.sl (toksF (trimT t)))) [] ⟨rfl, rfl⟩ rfl ?_
       rw [← g1, hg]
       repeat' first | exact trivial | exact rfl | apply And.intro
theorem rtrim_val (t : List Tok) (hl : t.length < 100000000) : Val 94 [.f (.sl (toksF t))] (.f (.sl (toksF (trimT t)))) := by
 refine ⟨rfl, ⟨trivial, trivial⟩, rfl, spec_mk tab_ok Tryz.func94 (by rfl) rfl ?_⟩
 conv => whnf
 repeat' first
  | (refine Case.not ?_; conv => whnf)
  | (refine Case.yes ?_; conv => whnf)
  | (refine Case.no ?_; conv => whnf)
  | (refine Case.isTrue (by with_reducible assumption) ?_; conv => whnf)
  | (refine Case.isFalse (by with_reducible assumption) ?_; conv => whnf)
  | (refine Case.decT (by with_reducible assumption) ?_; conv => whnf)
  | (refine Case.decF (by with_reducible assumption) ?_; conv => whnf)
  | (refine Case.decT (by omega) ?_; conv => whnf)
  | (refine Case.decF (by omega) ?_; conv => whnf)
  | (refine Case.beqT (by omega) ?_; conv => whnf)
  | (refine Case.beqF (by omega) ?_; conv => whnf)
  | (refine Num.id (by omega) (by omega) ?_; conv => whnf)
  | (refine Case.dec (fun _ => ?_) (fun _ => ?_) <;> conv => whnf)
  | (refine Case.beqI (fun _ => ?_) (fun _ => ?_) <;> conv => whnf)
  | (refine Case.mk (fun _ => ?_) (fun _ => ?_) <;> conv => whnf)
  | (refine Way.fst ?_; conv => whnf)
 refine step_loop tab_ok (fun s : List Tok => padK [.f (.sl (toksF s))] 34) (fun _ => []) 0 (fun s => trimL s = trimL t ∧ s.length ≤ t.length) (fun s => s.length) t ⟨rfl, Nat.le_refl _⟩ (fun _ => rfl) ?_ ?_
 ·
  repeat' first | exact trivial | exact rfl | apply And.intro
 ·rintro s ⟨h1, h2⟩
  have hs : (toksF s).length = s.length := by simp
  have fin : ∀ s' : List Tok, s' = trimL t → True := fun _ _ => trivial
  by_cases hw : ∃ k r, s = k :: r ∧ k.kind = 9
  ·obtain ⟨k, r, rfl, hk⟩ := hw
   have hh := toks_head k r
   have hwk := (dwhite_spec k)
   rw [decide_eq_true hk] at hwk
   have hk2 : (toksF (k :: r))[0]? = some (tokRow k) := rfl
   have hl2 : (toksF (k :: r)).length = r.length + 1 := by simp
   generalize hg : toksF (k :: r) = kr at *
   conv => whnf
   repeat' ((first | refine Case.decT (by with_reducible assumption) ?_ | refine Case.decT (by omega) ?_ | (refine Owes.mk (by rw [← hg]; exact toksF_row) ?_) | refine Elem.mk 0 _ rfl hk2 ?_ | refine Part.mk 1 (r.length + 1) rfl (by omega) (by omega) (by omega) ?_ | rw [hh]); conv => whnf)
   refine ⟨r, ⟨by rw [← h1]; conv => rhs; rw [trimL, if_pos hk], by simp at h2; omega⟩, by simp, ?_⟩
   repeat' first | exact trivial | exact rfl | apply And.intro
  ·have hst : trimL s = s := by
    cases s with
    | nil => rfl
    | cons k r => rw [trimL, if_neg (fun h => hw ⟨k, r, rfl, h⟩)]
   rw [hst] at h1
   cases s with
   | nil =>
    conv => whnf
    repeat' (refine Case.no ?_; conv => whnf)
    refine step_loop tab_ok (fun s : List Tok => padK [.f (.sl (toksF s))] 34) (fun _ => []) 0 (fun s => trimR s = trimT t ∧ s.length ≤ t.length) (fun s => s.length) [] ⟨by rw [h1]; rfl, h2⟩ (fun _ => rfl) ?_ ?_
    ·
     repeat' first | exact trivial | exact rfl | apply And.intro
    ·rintro s2 ⟨g1, g2⟩
     have hs2 : (toksF s2).length = s2.length := by simp
     rcases List.eq_nil_or_concat s2 with rfl | ⟨q, k, rfl⟩
     ·conv => whnf
      repeat' (refine Case.no ?_; conv => whnf)
      refine Fin.mk (.f (.sl (toksF (trimT t)))) [] ⟨rfl, rfl⟩ rfl ?_
      rw [← g1]
      repeat' first | exact trivial | exact rfl | apply And.intro
     ·simp only [List.concat_eq_append] at *
      rw [trimR_snoc] at g1
      have hh := toks_tail q k
      have hk2 := toks_last q k
      have hwk := (dwhite_spec k)
      have hl2 : (toksF (q ++ [k])).length = q.length + 1 := by simp
      by_cases hk : k.kind = 9
      ·rw [if_pos hk] at g1
       rw [decide_eq_true hk] at hwk
       generalize hg : toksF (q ++ [k]) = kr at *
       have hi : (kr.length : Int) - 1 = (q.length : Nat) := by omega
       conv => whnf
       repeat' ((first | refine Case.decT (by with_reducible assumption) ?_ | refine Case.decT (by omega) ?_ | (refine Owes.mk (by rw [← hg]; exact toksF_row) ?_) | refine Elem.mk q.length _ hi hk2 ?_ | refine Part.mk 0 q.length rfl hi (by omega) (by omega) ?_ | rw [hh] | refine Num.id (by omega) (by omega) ?_); conv => whnf)
       refine ⟨q, ⟨g1, by simp at g2; omega⟩, by simp, ?_⟩
       repeat' first | exact trivial | exact rfl | apply And.intro
      ·rw [if_neg hk] at g1
       rw [decide_eq_false hk] at hwk
       generalize hg : toksF (q ++ [k]) = kr at *
       have hi : (kr.length : Int) - 1 = (q.length : Nat) := by omega
       conv => whnf
       repeat' ((first | refine Case.decF (by with_reducible assumption) ?_ | refine Case.decT (by omega) ?_ | (refine Owes.mk (by rw [← hg]; exact toksF_row) ?_) | refine Elem.mk q.length _ hi hk2 ?_ | refine Num.id (by omega) (by omega) ?_); conv => whnf)
       refine Fin.mk (.f (.sl (toksF (trimT t)))) [] ⟨rfl, rfl⟩ rfl ?_
       rw [← g1, hg]
       repeat' first | exact trivial | exact rfl | apply And.intro
   | cons k r =>
    have hk : ¬ k.kind = 9 := fun h => hw ⟨k, r, rfl, h⟩
    have hwk := (dwhite_spec k)
    rw [decide_eq_false hk] at hwk
    have hk2 : (toksF (k :: r))[0]? = some (tokRow k) := rfl
    have hl2 : (toksF (k :: r)).length = r.length + 1 := by simp
    generalize hg : toksF (k :: r) = kr at *
    conv => whnf
    repeat' ((first | refine Case.decF (by with_reducible assumption) ?_ | refine Case.decT (by omega) ?_ | (refine Owes.mk (by rw [← hg]; exact toksF_row) ?_) | refine Elem.mk 0 _ rfl hk2 ?_); conv => whnf)
    subst hg
    refine step_loop tab_ok (fun s : List Tok => padK [.f (.sl (toksF s))] 34) (fun _ => []) 0 (fun s => trimR s = trimT t ∧ s.length ≤ t.length) (fun s => s.length) (k :: r) ⟨by rw [h1]; rfl, h2⟩ (fun _ => rfl) ?_ ?_
    ·
     repeat' first | exact trivial | exact rfl | apply And.intro
    ·rintro s2 ⟨g1, g2⟩
     have hs2 : (toksF s2).length = s2.length := by simp
     rcases List.eq_nil_or_concat s2 with rfl | ⟨q, k, rfl⟩
     ·conv => whnf
      repeat' (refine Case.no ?_; conv => whnf)
      refine Fin.mk (.f (.sl (toksF (trimT t)))) [] ⟨rfl, rfl⟩ rfl ?_
      rw [← g1]
      repeat' first | exact trivial | exact rfl | apply And.intro
     ·simp only [List.concat_eq_append] at *
      rw [trimR_snoc] at g1
      have hh := toks_tail q k
      have hk2 := toks_last q k
      have hwk := (dwhite_spec k)
      have hl2 : (toksF (q ++ [k])).length = q.length + 1 := by simp
      by_cases hk : k.kind = 9
      ·rw [if_pos hk] at g1
       rw [decide_eq_true hk] at hwk
       generalize hg : toksF (q ++ [k]) = kr at *
       have hi : (kr.length : Int) - 1 = (q.length : Nat) := by omega
       conv => whnf
       repeat' ((first | refine Case.decT (by with_reducible assumption) ?_ | refine Case.decT (by omega) ?_ | (refine Owes.mk (by rw [← hg]; exact toksF_row) ?_) | refine Elem.mk q.length _ hi hk2 ?_ | refine Part.mk 0 q.length rfl hi (by omega) (by omega) ?_ | rw [hh] | refine Num.id (by omega) (by omega) ?_); conv => whnf)
       refine ⟨q, ⟨g1, by simp at g2; omega⟩, by simp, ?_⟩
       repeat' first | exact trivial | exact rfl | apply And.intro
      ·rw [if_neg hk] at g1
       rw [decide_eq_false hk] at hwk
       generalize hg : toksF (q ++ [k]) = kr at *
       have hi : (kr.length : Int) - 1 = (q.length : Nat) := by omega
       conv => whnf
       repeat' ((first | refine Case.decF (by with_reducible assumption) ?_ | refine Case.decT (by omega) ?_ | (refine Owes.mk (by rw [← hg]; exact toksF_row) ?_) | refine Elem.mk q.length _ hi hk2 ?_ | refine Num.id (by omega) (by omega) ?_); conv => whnf)
       refine Fin.mk (.f (.sl (toksF (trimT t)))) [] ⟨rfl, rfl⟩ rfl ?_
       rw [← g1, hg]
       repeat' first | exact trivial | exact rfl | apply And.intro
end Go.Proofs.YtlhegfkpgchaeaaGreatDoor.Aw
