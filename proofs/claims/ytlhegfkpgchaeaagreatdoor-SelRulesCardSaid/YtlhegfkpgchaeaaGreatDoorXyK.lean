/- tok.Tokens, as a contract. -/
import Derived.Test.YtlhegfkpgchaeaaGreatDoorXyG
import Derived.Test.YtlhegfkpgchaeaaGreatDoorAwX
import Derived.Test.YtlhegfkpgchaeaaGreatDoorShelf
import Derived.Tactics
import Derived.WalkKit
namespace Go.Proofs.YtlhegfkpgchaeaaGreatDoor.Aw
open Go Go.RowKit Go.Lib
set_option linter.unusedVariables false
set_option linter.unusedSimpArgs false
set_option maxRecDepth 100000
theorem fnOk_each : FnOk P 31 := ⟨_, Tryz.func31, by rfl, rfl⟩
theorem yeach (a : Option Addr) (n cap : Nat) (w : World) : Calls Tryz.prog 31 #[.slice a n cap] w fun e w' => e = .returned (.func (.func 61) #[] #[.pointer (some ⟨w.heap.size, 0, none⟩)]) ∧ w' = w.alloc (.cells #[.slice a n cap] 52) := by
 go_enter Tryz.func31, Tryz.ntmps31
 go_wp2
 go_ret
 exact ⟨rfl, rfl⟩
theorem box_call {g gf : FuncId} {t : TypeId} (hf : FnOk P g) (h : ∀ a n cap w, Calls P g #[.slice a n cap] w fun e w' => e = .returned (.func (.func gf) #[] #[.pointer (some ⟨w.heap.size, 0, none⟩)]) ∧ w' = w.alloc (.cells #[.slice a n cap] t)) {es : List (List F)} {E : List D} {H : Hp} {n : Nat} {K : KD} (k : K (.fn gf [.ptr H.length 0]) E (H ++ [some [.f (.sl es)]]) n) : Call P g [.f (.sl es)] E H n K := by
 refine Call.mk ⟨hf, fun B c w ts vs hC hE ha => ?_⟩
 unfold RepL at ha
 obtain ⟨v, vs', rfl, h1, h2⟩ := ha
 unfold RepL at h2
 subst h2
 have hv : ∃ a n cap, v = .slice a n cap := by
  unfold Rep RepF at h1
  rcases h1 with ⟨⟨a, rfl⟩, _⟩ | ⟨b, o, cap, rfl, _⟩
  ·exact ⟨_, _, _, rfl⟩
  ·exact ⟨_, _, _, rfl⟩
 obtain ⟨a, m, cap, rfl⟩ := hv
 refine (h a m cap w).mono ?_
 rintro e w' ⟨rfl, rfl⟩
 obtain ⟨hC', hk⟩ := hC.push (C := #[.slice a m cap]) (T := t) (cs := [.f (.sl es)]) (repL_cons h1 repL_nil)
 refine ⟨_, _, E, _, n, _, k, rfl, hC', hE.mono hk, ?_⟩
 unfold Rep
 refine ⟨[.pointer (some ⟨w.heap.size, 0, none⟩)], rfl, repL_cons ?_ repL_nil⟩
 unfold Rep
 rw [← hC.hlen]
 refine ⟨Nat.lt_succ_self _, ?_⟩
 show _ = Value.pointer (some ⟨if c.h = c.h then _ else _, _, _⟩)
 rw [if_pos rfl]
theorem rows_ints {imm : Nat → Prop} {w : World} : ∀ (l : List Int), RepRows imm w 1 (ptsF l) (l.map (Value.int .i64))
 | [] => by unfold ptsF; simp [RepRows]
 | c :: l => by
  have ih := rows_ints (imm := imm) (w := w) l
  unfold ptsF at *
  rw [List.map_cons, List.map_cons]
  unfold RepRows
  refine ⟨[.int .i64 c], _, rfl, rfl, ?_, ih⟩
  unfold RepFs
  refine ⟨_, [], rfl, by unfold RepF; exact ⟨rfl, rfl⟩, by unfold RepFs; rfl⟩
theorem val_of_row {g : FuncId} {args : List D} {es : List (List F)} {t s : Nat} (hf : FnOk P g) (hs : 0 < s) (ga : renL [] [] args = args) (gr : refL 0 0 args)
  (h : ∀ (c : Cx) (w : World) (vs : List Value), Glob c.imm w → RepL c w args vs → Calls P g vs.toArray w fun e w' => ∃ v, e = .returned v ∧ Below w.heap.size w w' ∧ (v = nilS ∧ es = [] ∨ ∃ xs, w'.ownsRow w.heap.size t s v es.length xs ∧ ∀ imm, RepRows imm w' s es xs)) : Val g args (.f (.sl es)) := by
 refine ⟨ga, gr, rfl, hf, fun c w vs hC hr => (h c w vs hC.glob hr).mono ?_⟩
 rintro e w' ⟨v, rfl, hb, hv⟩
 obtain ⟨hC1, hk1⟩ := hC.grow hb
 have hτ : ∀ k, c.τ k = nilS := fun k => hC.high k (Nat.zero_le _)
 let c' : Cx := { c with imm := fun b => c.imm b ∨ (w.heap.size ≤ b ∧ b < w'.heap.size) }
 have hk : Keep c c' w' w' none := ⟨fun b hb => ⟨.inl hb, rfl⟩, Nat.le_refl _, Nat.le_refl _, fun _ _ => rfl, fun _ _ _ => ⟨rfl, fun _ _ => rfl⟩⟩
 have hC2 : Con (base c w []) c' w' [] 0 := ⟨hC1.os, hC1.tape, hC1.output, hC1.size, hC1.old, fun b hb => .inl (hC1.imm0 b hb), fun b hb => (by
  rcases hb with hb | hb
  ·exact hC1.immB b hb
  ·exact ⟨hb.2, .inr (.inr hb.1)⟩), hC1.hlen, hC1.nlen, hC1.hh, hC1.phi, fun k cs hk => (by simp at hk), fun k cs hk => (by simp at hk), hC1.inj, fun k b hb => (by rw [show c'.τ k = nilS from hτ k] at hb; cases hb), hC1.tagInj, hC1.high, hC1.glob.keep hk.imm⟩
 refine ⟨_, v, [], c', ⟨rfl, rfl⟩, rfl, rfl, hC2, ?_⟩
 unfold Rep
 rcases hv with ⟨rfl, rfl⟩ | ⟨xs, hx, hrows⟩
 ·unfold RepF
  exact .inl ⟨⟨_, rfl⟩, rfl⟩
 ·have hx0 : w'.ownsRow 0 t s v es.length xs := ⟨hx.1, hx.2.imp id (fun ⟨g, cap, cur, e, hb, hrest⟩ => ⟨g, cap, cur, e, Nat.zero_le _, hrest⟩)⟩
  have hOk : OwnOk c'.imm w' v t s es := ⟨hs, xs, ownsM_of hx0, hrows _⟩
  refine hOk.toF (fun b hb => ⟨hb, rfl⟩) (fun b hb => .inr ?_)
  rcases hx.2 with ⟨rfl, _⟩ | ⟨g, cap, cur, rfl, hbg, hh, _⟩
  ·cases hb
  ·have e : g = b := by simpa [blk, Value.ownBlock] using hb
   subst e
   exact ⟨hbg, (Array.getElem?_eq_some_iff.1 hh).1⟩
theorem yclone (l : List Int) (hl : l.length < 100000000) : Val 32 [.f (.sl (ptsF l))] (.f (.sl (ptsF l))) := by
 refine val_of_row (t := 3) (s := 1) ⟨_, Tryz.func32, by rfl, rfl⟩ (by decide) rfl ⟨trivial, trivial⟩ fun c w vs _ hr => ?_
 unfold RepL at hr
 obtain ⟨v, vs', rfl, h1, h2⟩ := hr
 unfold RepL at h2
 subst h2
 have hp := ptsF_length l
 unfold Rep RepF at h1
 rcases h1 with ⟨⟨a, rfl⟩, he⟩ | ⟨b, o, cap, rfl, hc, him, hrr⟩
 ·have hl0 : l = [] := by
   rw [he] at hp
   exact List.eq_nil_of_length_eq_zero hp.symm
  subst hl0
  cases a with
  | none => exact (Tryz.slices_Clone_int_nil 0 0 w).mono fun e w' ⟨h3, h4⟩ => by subst h4; exact ⟨_, h3, Below.refl _ _, .inl ⟨rfl, rfl⟩⟩
  | some a => exact (Tryz.slices_Clone_int_zero a 0 w).mono fun e w' ⟨v', h3, h4, _, h5⟩ => ⟨v', h3, h5, .inr ⟨[], h4, fun imm => rows_ints []⟩⟩
 ·rw [hp]
  refine (Tryz.slices_Clone_int b o l.length cap l w (Nat.le_refl _) (by omega) (fun j hj => ?_)).mono ?_
  ·have hg : (ptsF l)[j]? = some [.v (.int .i64 (l.getD j 0))] := ptsF_get (by rw [List.getD_eq_getElem?_getD, List.getElem?_eq_getElem hj]; simp)
   have h3 := hrr.get ptsF_row j _ hg
   unfold RepC at h3
   obtain ⟨⟨y, h4, h5⟩, _⟩ := h3
   unfold RepF at h5
   rw [h5.1] at h4
   simpa using h4
  ·rintro e w' ⟨v', rfl, h3, _, h5⟩
   rw [List.take_of_length_le (Nat.le_refl _)] at h3
   exact ⟨v', rfl, h5, .inr ⟨_, h3, fun imm => rows_ints l⟩⟩
theorem RangeK.into {g : Operand} {ps : Array Tmp} {x y : Code} {E E' : List D} {H H' : Hp} {n n' : Nat} {K : List D → Hp → Nat → Prop} (hl : H'.length = H.length) (hi : Into E H n E' H' n') (h : RangeK P g ps x y E' H' n' K) : RangeK P g ps x y E H n K :=
 ⟨fun B c w a hC hE hd => by
  obtain ⟨h1, h2⟩ := hC.into (by rw [hl, ← hC.hlen]; exact hC.hh) hi hE
  exact h.out B _ w a h1 h2 hd⟩
theorem Meth.call2 {g : FuncId} {l : List Int} {a p : Nat} {V : D} {E : List D} {h0 h1 : Option Cells} {H : Hp} {n : Nat} {K : KD} (h : Meth g l a V p) (k : K V E (h0 :: h1 :: some (rdr l p) :: H) n) : Call P g [.ptr 2 0] E (h0 :: h1 :: some (rdr l a) :: H) n K := by
 refine call_gen («as» := [.ptr 0 0]) [2] [] h.2 (by simp) (by simp) (by simp) (by simp) ?_ ?_ ?_
 ·unfold fitH fitH; exact ⟨⟨rfl, ⟨trivial, trivial, trivial⟩⟩, trivial⟩
 ·exact ⟨Nat.zero_lt_one, trivial⟩
 ·rintro d Hs' ⟨rfl, rfl⟩ _
  rw [ren_scal _ _ _ h.1, killsL_nil, killsH_nil]
  exact k
structure CapOk (cap : List D) : Prop where
 ren : renL [0, 1] [0] cap = cap
 kill : killsL [0] cap = cap
 ref : refL 2 1 cap
 into : ∀ a, intoL a 1 3 cap cap
abbrev lbox (l : List Int) : Option Cells := some [.f (.sl (ptsF l))]
def TokY (lb : Nat) (ps : List Nat) (x y : Code) (cap : List D) (l : List Int) : Prop := ∀ (out : List Tok) (k : Tok), out.length < 200000000 →
 YSpec P lb ps x y cap [k.d] [some [toksD out], lbox l] 1 (fun d H => d = .f (.v (.bool true)) ∧ H = [some [toksD (out ++ [k])], lbox l])
theorem tok_yield {lb : Nat} {ps : List Nat} {x y : Code} {cap : List D} {l : List Int} (hc : CapOk cap) (hY : TokY lb ps x y cap l) {out : List Tok} {k : Tok} (ho : out.length < 200000000) {E : List D} {H : Hp} {K : KD}
  (h : killsK [0] E fun E => killsHK [0] H fun H => K (.f (.v (.bool true))) E (some [toksD (out ++ [k])] :: lbox l :: H) 1) : YStep P lb ps x y cap [k.d] E (some [toksD out] :: lbox l :: H) 1 K := by
 rw [killsK_eq, killsHK_eq] at h
 have := YSpec.step (E := E) (H := some [toksD out] :: lbox l :: H) (n := 1) (K := K) [0, 1] [0] (hY out k ho) (by simp) (by simp) (by simp) (by simp) (by
  unfold fitH fitH fitH
  exact ⟨⟨rfl, ⟨Nat.zero_lt_one, trivial⟩⟩, ⟨rfl, ⟨trivial, trivial⟩⟩, trivial⟩) ⟨hc.ref, ⟨trivial, trivial, trivial, trivial, trivial, trivial⟩, trivial⟩ (by
  rintro d Hs' ⟨rfl, rfl⟩ _
  exact h)
 rw [hc.ren] at this
 exact this
theorem commentEnd_stop (l : List Int) : ∀ (f p : Nat), l.length - p < f → ¬ (0 ≤ see l (commentEnd l f p) ∧ (see l (commentEnd l f p) ≠ 42 ∨ see l (commentEnd l f p + 1) ≠ 47))
 | 0, p, h => by omega
 | f + 1, p, h => by
  unfold commentEnd
  split
  ·rename_i h1
   have := see_lt h1.1
   exact commentEnd_stop l f (p + 1) (by omega)
  ·rename_i h1
   exact h1
theorem cmtP_le {l : List Int} {a : Nat} (h : isCm l a) : a + 2 ≤ cmtP l a ∧ cmtP l a ≤ l.length := by
 have h1 := see_lt (l := l) (i := a + 1) (by have := h.2; omega)
 have h2 := commentEnd_le l (l.length + 1) (a + 2) (by omega)
 have h3 := commentEnd_stop l (l.length + 1) (a + 2) (by omega)
 unfold cmtP
 split
 ·rename_i h4
  have h5 := see_in h4
  have h6 : see l (commentEnd l (l.length + 1) (a + 2) + 1) = 47 := by omega
  have := see_lt (l := l) (i := commentEnd l (l.length + 1) (a + 2) + 1) (by omega)
  omega
 ·omega
theorem tokRun_end (l : List Int) (f p : Nat) (ts : List Tok) (h : l.length ≤ p) : tokRun l f p ts = ts := by
 cases f with
 | zero => rfl
 | succ f =>
  unfold tokRun
  rw [if_neg (by rw [see_out h]; decide)]
theorem tokT_le {l : List Int} {p : Nat} (hp : p < l.length) : p < (tokT l p).2 ∧ (tokT l p).2 ≤ l.length := by
 unfold tokT
 split
 ·rename_i hw
  have := whiteEnd_le l l.length (p + 1) hp
  have e : whiteEnd l (l.length + 1) p = whiteEnd l l.length (p + 1) := by rw [whiteEnd, if_pos hw]
  exact ⟨by dsimp only; omega, by dsimp only; omega⟩
 split
 ·exact strP_gt hp
 split
 ·have := nameP_le (l := l) (p := p + 1) hp
  exact ⟨by dsimp only; omega, by dsimp only; omega⟩
 split
 ·rename_i hn
  exact numericP_gt hn
 split
 ·have := nameP_le (l := l) (p := p + 1) hp
  exact ⟨by dsimp only; omega, by dsimp only; omega⟩
 split
 ·rename_i hb
  have := nameP_gt hb
  split
  ·rename_i h40
   have := see_lt (l := l) (i := nameP l p) (by omega)
   exact ⟨by dsimp only; omega, by dsimp only; omega⟩
  ·exact ⟨by dsimp only; omega, by dsimp only; omega⟩
 ·exact ⟨by dsimp only; omega, by dsimp only; omega⟩
structure EachI (l : List Int) (s : Nat × List Tok) : Prop where
 p : s.1 ≤ l.length
 o : s.2.length ≤ s.1
 run : ∀ f, l.length - s.1 < f → tokRun l f s.1 s.2 = tokens l
set_option maxHeartbeats 1000000 in
theorem teach1 (l : List Int) (hl : l.length < 100000000) {lb : Nat} {ps : List Nat} {x y : Code} {cap : List D} (hc : CapOk cap) (hY : TokY lb ps x y cap l) :
  Spec P 61 [.yl lb ps x y cap, .ptr 1 0] [some [toksD []], lbox l] 1 (fun d H => H = [some [toksD (tokens l)], lbox l]) := by
 have hp := ptsF_length l
 refine spec_mkY tab_ok Tryz.func61 (by rfl) rfl ?_
 conv => whnf
 repeat' first
  | (refine Case.not ?_; conv => whnf)
  | (refine Case.yes ?_; conv => whnf)
  | (refine Case.no ?_; conv => whnf)
  | (refine Case.isTrue (by assumption) ?_; conv => whnf)
  | (refine Case.isFalse (by assumption) ?_; conv => whnf)
  | (refine Case.decT (by assumption) ?_; conv => whnf)
  | (refine Case.decF (by assumption) ?_; conv => whnf)
  | (refine Case.decT (by omega) ?_; conv => whnf)
  | (refine Case.decF (by omega) ?_; conv => whnf)
  | (refine Case.beqT (by omega) ?_; conv => whnf)
  | (refine Case.beqF (by omega) ?_; conv => whnf)
  | (refine Num.id (by omega) (by omega) ?_; conv => whnf)
  | (refine Case.dec (fun _ => ?_) (fun _ => ?_) <;> conv => whnf)
  | (refine Case.beqI (fun _ => ?_) (fun _ => ?_) <;> conv => whnf)
  | (refine Case.mk (fun _ => ?_) (fun _ => ?_) <;> conv => whnf)
  | (refine Way.fst ?_; conv => whnf)
 refine step_loopY tab_ok (fun s : Nat × List Tok => padK [.yl lb ps x y cap, .ptr 1 0, .junk, .ptr 2 0] 24) (fun s => [some [toksD s.2], lbox l, some (rdr l s.1)]) 1 (EachI l) (fun s => l.length - s.1) (0, []) ⟨by simp, by simp, fun f hf => tokRun_fuel l _ _ _ _ hf (by dsimp only at hf; omega)⟩ (fun _ => rfl) ?_ ?_
 ·
  repeat' first | exact trivial | exact rfl | exact Nat.zero_lt_succ _ | exact (by decide : 2 < 3) | (show _ < List.length _; simp; done) | apply And.intro
  all_goals exact hc.into _
 ·rintro ⟨p, out⟩ ⟨h1, h2, h3⟩
  simp only at h1 h2 h3
  have e0 := h3 (l.length - p + 1) (by omega)
  rw [tokRun] at e0
  have l2 : (out.map tokRow).length = out.length := List.length_map ..
  dsimp only
  conv => whnf
  by_cases hin : p < l.length
  ·have hcm := ycomment l hl p hin
   rw [if_pos (see_in hin)] at e0
   by_cases hcc : isCm l p
   ·rw [if_pos hcc, decide_eq_true hcc] at hcm
    have hle := cmtP_le hcc
    repeat' ((first | refine Case.yes ?_ | refine Case.decT (by omega) ?_ | ((refine StepY.plain (step_kinds 2 ?hk ?_); (case hk => decide +kernel))) | refine hcm.call2 ?_); conv => whnf)
    refine ⟨(cmtP l p, out), ⟨hle.2, by dsimp only; omega, fun f hf => ?_⟩, by dsimp only; omega, ?_⟩
    ·dsimp only at hf ⊢
     have eN : tokNext l p = ([], commentEnd l (l.length + 1) (p + 2) + 2) := by unfold tokNext; exact if_pos hcc
     rw [eN, List.append_nil] at e0
     dsimp only at e0
     rw [← e0]
     by_cases hq : commentEnd l (l.length + 1) (p + 2) < l.length
     ·have eC : cmtP l p = commentEnd l (l.length + 1) (p + 2) + 2 := by unfold cmtP; rw [if_pos hq]
      rw [← eC]
      exact tokRun_fuel l f _ _ _ hf (by omega)
     ·have eC : cmtP l p = l.length := by unfold cmtP; rw [if_neg hq]
      rw [eC, tokRun_end l f _ _ (Nat.le_refl _), tokRun_end l _ _ _ (by omega)]
    ·
     repeat' first | exact trivial | exact rfl | exact Nat.zero_lt_succ _ | exact (by decide : 2 < 3) | (show _ < List.length _; simp; done) | apply And.intro
     all_goals exact hc.into _
   ·rw [if_neg hcc, decide_eq_false hcc] at hcm
    have hle := tokT_le hin
    have eN := tokNext_T (l := l) (p := p) hcc
    rw [eN] at e0
    dsimp only at e0
    repeat' ((first | refine Case.not ?_ | refine Case.yes ?_ | refine Case.no ?_ | refine Case.decT (by omega) ?_ | ((refine StepY.plain (step_kinds 2 ?hk ?_); (case hk => decide +kernel))) | refine hcm.call2 ?_ | refine (ytoken l hl p hin).call2 ?_ | refine tok_yield hc hY (by omega) ?_); conv => whnf)
    refine ⟨((tokT l p).2, out ++ [(tokT l p).1]), ⟨hle.2, by dsimp only; rw [List.length_append]; simp; omega, fun f hf => ?_⟩, by dsimp only; omega, ?_⟩
    ·dsimp only at hf ⊢
     rw [← e0]
     exact tokRun_fuel l f _ _ _ hf (by omega)
    ·rw [hc.kill]
     repeat' first | exact trivial | exact rfl | exact Nat.zero_lt_succ _ | exact (by decide : 2 < 3) | (show _ < List.length _; simp; done) | apply And.intro
     all_goals exact hc.into _
  ·have hpe : p = l.length := by omega
   rw [if_neg (by rw [see_out (by omega)]; decide)] at e0
   repeat' ((first | refine Case.decF (by omega) ?_ | ((refine StepY.plain (step_kinds 2 ?hk ?_); (case hk => decide +kernel)))); conv => whnf)
   refine Fin.mk (.tup []) [some [toksD (tokens l)], lbox l] rfl rfl ?_
   rw [e0]
   repeat' first | exact trivial | exact rfl | exact Nat.zero_lt_succ _ | apply And.intro
set_option maxHeartbeats 2000000 in
theorem ytokens (l : List Int) (hl : l.length < 100000000) : Spec P 14 [.f (.sl (ptsF l))] [] 0 (fun d H => d = .f (.sl ((tokens l).map tokRow)) ∧ H = []) := by
 refine spec_mkM tab_ok Tryz.func14 (by rfl) rfl ?_
 conv => whnf
 repeat' ((first | refine (yclone l hl).call ?_ | refine box_call fnOk_each yeach ?_); conv => whnf)
 refine RangeK.into (E' := padK [.junk, .junk, .junk, .ptr 0 0, .junk, .junk, .junk, .fn 61 [.ptr 1 0]] 14) (H' := [some [toksD []], lbox l]) (n' := 1) rfl ?_ ?_
 ·
  repeat' first | exact trivial | exact rfl | exact Nat.zero_le _ | exact Nat.zero_lt_succ _ | exact (by decide : 1 < 2) | apply And.intro
  all_goals skip
 ·refine range_mk [0, 1] [0] rfl (fun lb => teach1 l hl (cap := padK [.junk, .junk, .junk, .ptr 0 0, .junk, .junk, .junk, .fn 61 [.ptr 1 0]] 14) ⟨rfl, rfl, ?_, fun a => ?_⟩ (fun out k ho => yspec_mk tab_ok rfl ?_)) (fun _ => rfl) (by simp) (by simp) (by simp) (by simp) ?_ ?_ ?_
  ·simp [refL, refD, padK]
  ·
   repeat' first | exact trivial | exact rfl | exact Nat.zero_lt_succ _ | apply And.intro
   all_goals decide
  ·have l2 : (out.map tokRow).length = out.length := List.length_map ..
   conv => whnf
   repeat' first
    | (refine Case.not ?_; conv => whnf)
    | (refine Case.yes ?_; conv => whnf)
    | (refine Case.no ?_; conv => whnf)
    | (refine Case.isTrue (by assumption) ?_; conv => whnf)
    | (refine Case.isFalse (by assumption) ?_; conv => whnf)
    | (refine Case.decT (by assumption) ?_; conv => whnf)
    | (refine Case.decF (by assumption) ?_; conv => whnf)
    | (refine Case.decT (by omega) ?_; conv => whnf)
    | (refine Case.decF (by omega) ?_; conv => whnf)
    | (refine Case.beqT (by omega) ?_; conv => whnf)
    | (refine Case.beqF (by omega) ?_; conv => whnf)
    | (refine Num.id (by omega) (by omega) ?_; conv => whnf)
    | (refine Case.dec (fun _ => ?_) (fun _ => ?_) <;> conv => whnf)
    | (refine Case.beqI (fun _ => ?_) (fun _ => ?_) <;> conv => whnf)
    | (refine Case.mk (fun _ => ?_) (fun _ => ?_) <;> conv => whnf)
    | (refine Way.fst ?_; conv => whnf)
   refine ⟨rfl, rfl, ?_⟩
   conv => whnf
   repeat' (refine Owes.mk (by simp; omega) ?_; conv => whnf)
   refine ⟨rfl, Fin.mk (.f (.v (.bool true))) [some [toksD (out ++ [k])], lbox l] ⟨rfl, rfl⟩ rfl ?_⟩
   repeat' first | exact trivial | exact rfl | exact Nat.zero_lt_succ _ | exact congrArg (D.own _ _ _) (by simp [tokRow]; done) | apply And.intro
  ·unfold fitH fitH fitH
   exact ⟨⟨rfl, ⟨Nat.zero_lt_one, trivial⟩⟩, ⟨rfl, ⟨trivial, trivial⟩⟩, trivial⟩
  ·intro lb; simp [refL, refD, padK]
  ·rintro d Hs' rfl _
   refine ⟨rfl, rfl, fun D => ?_⟩
   conv => whnf
   repeat' first
    | (refine Case.not ?_; conv => whnf)
    | (refine Case.yes ?_; conv => whnf)
    | (refine Case.no ?_; conv => whnf)
    | (refine Case.isTrue (by assumption) ?_; conv => whnf)
    | (refine Case.isFalse (by assumption) ?_; conv => whnf)
    | (refine Case.decT (by assumption) ?_; conv => whnf)
    | (refine Case.decF (by assumption) ?_; conv => whnf)
    | (refine Case.decT (by omega) ?_; conv => whnf)
    | (refine Case.decF (by omega) ?_; conv => whnf)
    | (refine Case.beqT (by omega) ?_; conv => whnf)
    | (refine Case.beqF (by omega) ?_; conv => whnf)
    | (refine Num.id (by omega) (by omega) ?_; conv => whnf)
    | (refine Case.dec (fun _ => ?_) (fun _ => ?_) <;> conv => whnf)
    | (refine Case.beqI (fun _ => ?_) (fun _ => ?_) <;> conv => whnf)
    | (refine Case.mk (fun _ => ?_) (fun _ => ?_) <;> conv => whnf)
    | (refine Way.fst ?_; conv => whnf)
   refine ⟨rfl, rfl, ?_⟩
   conv => whnf
   repeat' first
    | (refine Case.not ?_; conv => whnf)
    | (refine Case.yes ?_; conv => whnf)
    | (refine Case.no ?_; conv => whnf)
    | (refine Case.isTrue (by assumption) ?_; conv => whnf)
    | (refine Case.isFalse (by assumption) ?_; conv => whnf)
    | (refine Case.decT (by assumption) ?_; conv => whnf)
    | (refine Case.decF (by assumption) ?_; conv => whnf)
    | (refine Case.decT (by omega) ?_; conv => whnf)
    | (refine Case.decF (by omega) ?_; conv => whnf)
    | (refine Case.beqT (by omega) ?_; conv => whnf)
    | (refine Case.beqF (by omega) ?_; conv => whnf)
    | (refine Num.id (by omega) (by omega) ?_; conv => whnf)
    | (refine Case.dec (fun _ => ?_) (fun _ => ?_) <;> conv => whnf)
    | (refine Case.beqI (fun _ => ?_) (fun _ => ?_) <;> conv => whnf)
    | (refine Case.mk (fun _ => ?_) (fun _ => ?_) <;> conv => whnf)
    | (refine Way.fst ?_; conv => whnf)
   refine Fin.frz 0 (Fin.mk (.f (.sl ((tokens l).map tokRow))) [] ⟨rfl, rfl⟩ rfl ?_)
   repeat' first | exact trivial | exact rfl | apply And.intro
end Go.Proofs.YtlhegfkpgchaeaaGreatDoor.Aw
