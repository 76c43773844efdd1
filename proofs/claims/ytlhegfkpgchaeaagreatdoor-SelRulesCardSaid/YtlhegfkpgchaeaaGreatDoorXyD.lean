/- The program's scanner: signs, words, strings. -/
import Derived.Test.YtlhegfkpgchaeaaGreatDoorXsB
import Derived.Test.YtlhegfkpgchaeaaGreatDoorXpA
import Derived.Test.YtlhegfkpgchaeaaGreatDoorXvE
import Derived.Test.YtlhegfkpgchaeaaGreatDoorXrP
import Derived.KernelRfl
import Derived.Test.YtlhegfkpgchaeaaGreatDoorXrL
import Derived.Test.YtlhegfkpgchaeaaGreatDoorXrI
import Derived.Test.YtlhegfkpgchaeaaGreatDoorAwVD
namespace Go.Proofs.YtlhegfkpgchaeaaGreatDoor.Aw
open Go Go.RowKit Go.Lib
set_option linter.unusedVariables false
set_option linter.unusedSimpArgs false
theorem fit_sub {t p : List Tok} (hf : Fit t) (hl : p.length ≤ t.length) (hm : ∀ y ∈ p, y ∈ t) : Fit p := by
 have hx : ∀ i, tk p i = tk [] 0 ∨ ∃ j, tk p i = tk t j := by
  intro i
  rcases Nat.lt_or_ge i p.length with h | h
  ·right
   have hy : p[i] ∈ t := hm _ (List.getElem_mem h)
   obtain ⟨j, hj, e⟩ := List.mem_iff_getElem.1 hy
   refine ⟨j, ?_⟩
   rw [tk_get (List.getElem?_eq_getElem h), tk_get (List.getElem?_eq_getElem hj), e]
  ·left
   unfold tk
   rw [List.getElem?_eq_none h]
   rfl
 refine ⟨Nat.lt_of_le_of_lt hl hf.len, fun i => ?_, fun i => ?_⟩
 ·rcases hx i with e | ⟨j, e⟩
  ·rw [e]
   decide
  ·rw [e]
   exact hf.text j
 ·rcases hx i with e | ⟨j, e⟩
  ·rw [e]
   decide
  ·rw [e]
   exact hf.n j
theorem fit_text {t : List Tok} (hf : Fit t) : ∀ y ∈ t, y.text.length ≤ 140737488355328 := by
 intro y hy
 obtain ⟨j, hj, e⟩ := List.mem_iff_getElem.1 hy
 have h := hf.text j
 rw [tk_get (List.getElem?_eq_getElem hj), e] at h
 omega
structure RuleV where
 sels : List Selr := []
 sets : List SetV := []
def RuleV.row (r : RuleV) : List F := [.sl (r.sels.map selRow), .sl (setsF r.sets)]
abbrev rulesF (l : List RuleV) : List (List F) := l.map RuleV.row
def rule1 (x : RawV) : List RuleV := if (sParse x.pre).2 then [{ sels := (sParse x.pre).1, sets := setsW (declsV x.block) }] else []
def sheetT (t : List Tok) : List RuleV := (rulesV t).flatMap rule1
set_option maxRecDepth 100000
set_option maxHeartbeats 2000000 in
theorem rsets_spec (l : List Dcl) (hl : l.length < 1000000000) (ho : ∀ d ∈ l, DclOk d) : Val 22 [.f (.sl (dclsF l))] (.f (.sl (setsF (setsW l)))) := by
 have hlen : (dclsF l).length = l.length := by simp
 refine ⟨rfl, ⟨trivial, trivial⟩, rfl, spec_mk tab_ok Tryz.func22 (by rfl) rfl ?_⟩
 conv => whnf
 refine step_loop tab_ok (fun s : Nat × List SetV => padK [.f (.sl (dclsF l)), .junk, .junk, setsD s.2, int s.1] 49) (fun _ => []) 1 (SetsI l) (fun s => l.length - s.1) (0, []) ⟨by simp, by simp, rfl⟩ (fun _ => rfl) ?_ ?_
 ·
  repeat' first | exact trivial | exact rfl | exact (by decide : 0 < 1) | exact Nat.le_refl _ | exact Nat.zero_lt_succ _ | apply And.intro
 ·rintro ⟨i, out⟩ ⟨h1, h2, h3⟩
  simp only at h1 h2 h3
  have l2 : (setsF out).length = out.length := List.length_map ..
  conv => whnf
  refine Case.dec (fun h0 => ?_) (fun h0 => ?_)
  ·obtain ⟨d, hd⟩ : ∃ d, l[i]? = some d := ⟨_, List.getElem?_eq_getElem (by omega)⟩
   have hok := ho d (List.mem_of_getElem? hd)
   have hpv := rvalue_spec (propW d.name).1 d.value hok.v hok.t
   rw [value_is] at hpv
   rw [drop_cons' hd, setsW_cons] at h3
   have hs1 := set1_len d
   conv => whnf
   repeat' first | ((first | refine Case.not ?_ | refine Owes.mk dclsF_row ?_ | refine Elem.mk i _ rfl (dclsF_get hd) ?_ | refine (rprop_spec d.name).call ⟨rfl, rfl⟩ ?_ | refine hpv.call ⟨rfl, rfl, rfl⟩ ?_ | (refine Owes.mk (by simp; omega) ?_) | (refine step_kinds 2 ?hk ?_; (case hk => decide +kernel)) | refine Num.id (by omega) (by omega) ?_); conv => whnf) | (refine Case.mk (fun _ => ?_) (fun _ => ?_) <;> conv => whnf)
   all_goals refine ⟨(i + 1, out ++ set1 d), ⟨by dsimp only; omega, by rw [List.length_append]; dsimp only; omega, by rw [List.append_assoc]; exact h3⟩, by dsimp only; omega, ?_⟩
   ·have e : set1 d = [{ prop := (propW d.name).1, kind := (parseW (propW d.name).1 d.value).1, n := (parseW (propW d.name).1 d.value).2.1, imp := d.imp }] := by
     unfold set1
     rw [if_pos (by assumption), if_pos (by assumption)]
    rw [e]
    repeat' first | exact trivial | exact rfl | exact (by decide : 0 < 1) | apply And.intro | exact congrArg (D.own _ _ _) (by simp [SetV.row]; done)
   ·have e : set1 d = [] := by
     unfold set1
     rw [if_pos (by assumption), if_neg (by simp [*])]
    rw [e, List.append_nil]
    repeat' first | exact trivial | exact rfl | exact (by decide : 0 < 1) | apply And.intro
   ·have e : set1 d = [] := by
     unfold set1
     rw [if_neg (by simp [*])]
    rw [e, List.append_nil]
    repeat' first | exact trivial | exact rfl | exact (by decide : 0 < 1) | apply And.intro
  ·rw [show l.drop i = [] by rw [List.drop_eq_nil_iff]; omega] at h3
   simp [setsW] at h3
   conv => whnf
   exact Fin.sets ⟨rfl, by rw [h3]; rfl⟩
theorem sameSets_spec (l : List SetV) (hl : l.length < 1000000000) : Pure 12 [.f (.sl (setsF l)), .f (.sl (setsF l))] (bool true) := by
 have hlen : (setsF l).length = l.length := by simp
 refine .mk trivial (spec_mk tab_ok Tryz.func12 (by rfl) rfl ?_)
 conv => whnf
 repeat' ((first | refine Case.not ?_ | refine Case.decT (by omega) ?_); conv => whnf)
 refine step_loop tab_ok (fun i : Nat => padK [.f (.sl (setsF l)), .f (.sl (setsF l)), .junk, .junk, .junk, int i] 26) (fun _ => []) 0 (fun i => i ≤ l.length) (fun i => l.length - i) 0 (by omega) (fun _ => rfl) ?_ ?_
 ·
  repeat' first | exact trivial | exact rfl | apply And.intro
 ·intro i hi
  conv => whnf
  refine Case.dec (fun h0 => ?_) (fun h0 => ?_)
  ·obtain ⟨k, hk⟩ : ∃ k, l[i]? = some k := ⟨_, List.getElem?_eq_getElem (by omega)⟩
   conv => whnf
   repeat' ((first | refine Case.not ?_ | (refine step_kinds 2 ?hk ?_; (case hk => decide +kernel)) | refine Owes.mk setsF_row ?_ | refine Elem.mk i _ rfl (setsF_get hk) ?_ | refine Case.isTrue (by simp) ?_ | refine Num.id (by omega) (by omega) ?_); conv => whnf)
   refine ⟨i + 1, by omega, by omega, ?_⟩
   repeat' first | exact trivial | exact rfl | apply And.intro
  ·conv => whnf
   exact Fin.isB rfl
theorem sameStrings_spec (l : List (List UInt8)) (hl : l.length < 1000000000) : Pure 58 [.f (.sl (strs l)), .f (.sl (strs l))] (bool true) := by
 have hlen := strs_length l
 refine .mk trivial (spec_mk tab_ok Tryz.func58 (by rfl) rfl ?_)
 conv => whnf
 repeat' ((first | refine Case.not ?_ | refine Case.decT (by omega) ?_); conv => whnf)
 refine step_loop tab_ok (fun i : Nat => padK [.f (.sl (strs l)), .f (.sl (strs l)), .junk, .junk, .junk, int i] 26) (fun _ => []) 0 (fun i => i ≤ l.length) (fun i => l.length - i) 0 (by omega) (fun _ => rfl) ?_ ?_
 ·
  repeat' first | exact trivial | exact rfl | apply And.intro
 ·intro i hi
  conv => whnf
  refine Case.dec (fun h0 => ?_) (fun h0 => ?_)
  ·obtain ⟨k, hk⟩ : ∃ k, l[i]? = some k := ⟨_, List.getElem?_eq_getElem (by omega)⟩
   conv => whnf
   repeat' ((first | refine Case.not ?_ | (refine step_kinds 2 ?hk ?_; (case hk => decide +kernel)) | refine Case.strT rfl ?_ | refine Owes.mk strs_row ?_ | refine Elem.mk i _ rfl (strs_get hk) ?_ | refine Num.id (by omega) (by omega) ?_); conv => whnf)
   refine ⟨i + 1, by omega, by omega, ?_⟩
   repeat' first | exact trivial | exact rfl | apply And.intro
  ·conv => whnf
   exact Fin.isB rfl
def SelOk : Nat → List Selr → Prop
 | 0, l => l.length < 1000000000 ∧ ∀ s ∈ l, s.length < 1000000000 ∧ ∀ p ∈ s, p.2.ids.length < 1000000000 ∧ p.2.cls.length < 1000000000 ∧ p.2.atts.length < 1000000000 ∧ p.2.pss.length < 1000000000 ∧ ∀ x ∈ p.2.pss, x.list = []
 | k + 1, l => l.length < 1000000000 ∧ ∀ s ∈ l, s.length < 1000000000 ∧ ∀ p ∈ s, p.2.ids.length < 1000000000 ∧ p.2.cls.length < 1000000000 ∧ p.2.atts.length < 1000000000 ∧ p.2.pss.length < 1000000000 ∧ ∀ x ∈ p.2.pss, ∃ l', x.list = l'.map selRow ∧ SelOk k l'
abbrev Cmp.cells (c : Cmp) : Cells := [.str ⟨c.tag.toArray⟩, .f (.sl (strs c.ids)), .f (.sl (strs c.cls)), .f (.sl (c.atts.map Att.row)), .f (.sl (c.pss.map Psd.row))]
structure CmpOk (Q : List (List F) → Prop) (c : Cmp) : Prop where
 ids : c.ids.length < 1000000000
 cls : c.cls.length < 1000000000
 atts : c.atts.length < 1000000000
 pss : c.pss.length < 1000000000
 list : ∀ x ∈ c.pss, Q x.list
theorem atts_row {l : List Att} : ∀ e ∈ l.map Att.row, e.length = 3 := by simp [Att.row]
theorem pss_row {l : List Psd} : ∀ e ∈ l.map Psd.row, e.length = 4 := by simp [Psd.row]
theorem parts_row {l : Selr} : ∀ e ∈ l.map partRow, e.length = 6 := fun e h => by
 obtain ⟨p, _, rfl⟩ := List.mem_map.1 h
 rfl
theorem sels_row {l : List Selr} : ∀ e ∈ l.map selRow, e.length = 1 := by simp [selRow]
theorem map_get {α β : Type} {f : α → β} {l : List α} {i : Nat} {x : α} (h : l[i]? = some x) : (l.map f)[i]? = some (f x) := by simp [h]
set_option maxHeartbeats 2000000 in
theorem sameCompound_spec (Q : List (List F) → Prop) (hQ : ∀ l, Q l → Pure 11 [.f (.sl l), .f (.sl l)] (bool true)) (c : Cmp) (hc : CmpOk Q c) : Pure 25 [c.d, c.d] (bool true) := by
 obtain ⟨z1, z2, z3, z4, z5⟩ := hc
 have l3 : (c.atts.map Att.row).length = c.atts.length := List.length_map ..
 have l4 : (c.pss.map Psd.row).length = c.pss.length := List.length_map ..
 refine .mk trivial (spec_mk tab_ok Tryz.func25 (by rfl) rfl ?_)
 conv => whnf
 repeat' ((first | refine Case.not ?_ | refine Case.yes ?_ | refine Case.decT (by omega) ?_ | refine Case.strT rfl ?_ | refine (sameStrings_spec c.ids z1).call ⟨rfl, rfl, rfl⟩ ?_ | refine (sameStrings_spec c.cls z2).call ⟨rfl, rfl, rfl⟩ ?_); conv => whnf)
 refine step_loop tab_ok (fun i : Nat => padK [.junk, .junk, .ptr 0 0, .ptr 1 0, .junk, int i] 110) (fun _ => [some c.cells, some c.cells]) 0 (fun i => i ≤ c.atts.length) (fun i => c.atts.length - i) 0 (by omega) (fun _ => rfl) ?_ ?_
 ·
  repeat' first | exact trivial | exact rfl | exact Nat.zero_lt_succ _ | exact (by decide : 1 < 2) | apply And.intro
 ·intro i hi
  conv => whnf
  refine Case.dec (fun h0 => ?_) (fun h0 => ?_)
  ·obtain ⟨k, hk⟩ : ∃ k, c.atts[i]? = some k := ⟨_, List.getElem?_eq_getElem (by omega)⟩
   conv => whnf
   repeat' ((first | refine Case.not ?_ | (refine step_kinds 2 ?hk ?_; (case hk => decide +kernel)) | (refine Case.isTrue (by first | (simp; done) | fail "x") ?_) | refine Owes.mk atts_row ?_ | refine Elem.mk i _ rfl (map_get hk) ?_ | refine Num.id (by omega) (by omega) ?_); conv => whnf)
   refine ⟨i + 1, by omega, by omega, ?_⟩
   repeat' first | exact trivial | exact rfl | exact Nat.zero_lt_succ _ | exact (by decide : 1 < 2) | apply And.intro
  ·conv => whnf
   repeat' first
    | (refine Case.not ?_; conv => whnf)
    | (refine Case.yes ?_; conv => whnf)
    | (refine Case.no ?_; conv => whnf)
    | (refine Case.isTrue (by assumption) ?_; conv => whnf)
    | (refine Case.isFalse (by assumption) ?_; conv => whnf)
    | (refine Case.decT (by assumption) ?_; conv => whnf)
    | (refine Case.decF (by assumption) ?_; conv => whnf)
    | (refine Case.decT (by omega) ?_; conv => whnf)
    | (refine Case.decF (by omega) ?_; conv => whnf)
    | (refine Case.beqT (by omega) ?_; conv => whnf)
    | (refine Case.beqF (by omega) ?_; conv => whnf)
    | (refine Case.strT (by assumption) ?_; conv => whnf)
    | (refine Case.strF (by assumption) ?_; conv => whnf)
    | (refine Case.strF (by simp only [*]; decide) ?_; conv => whnf)
    | (refine step_kinds 2 ?hk ?_; (case hk => decide +kernel); conv => whnf)
    | (refine step_kinds 3 ?hk ?_; (case hk => decide +kernel); conv => whnf)
    | (refine Num.id (by omega) (by omega) ?_; conv => whnf)
    | (refine Case.strI (fun _ => ?_) (fun _ => ?_) <;> conv => whnf)
    | (refine Both.mk ?_ ?_ <;> conv => whnf)
    | (refine Case.dec (fun _ => ?_) (fun _ => ?_) <;> conv => whnf)
    | (refine Case.beqI (fun _ => ?_) (fun _ => ?_) <;> conv => whnf)
    | (refine Case.mk (fun _ => ?_) (fun _ => ?_) <;> conv => whnf)
    | (refine Way.fst ?_; conv => whnf)
   refine step_loop tab_ok (fun i : Nat => padK [.junk, .junk, .ptr 0 0, .ptr 1 0, .junk, .junk, int i] 110) (fun _ => [some c.cells, some c.cells]) 0 (fun i => i ≤ c.pss.length) (fun i => c.pss.length - i) 0 (by omega) (fun _ => rfl) ?_ ?_
   ·
    repeat' first | exact trivial | exact rfl | exact Nat.zero_lt_succ _ | exact (by decide : 1 < 2) | apply And.intro
   ·intro i hi
    conv => whnf
    refine Case.dec (fun h0 => ?_) (fun h0 => ?_)
    ·obtain ⟨k, hk⟩ : ∃ k, c.pss[i]? = some k := ⟨_, List.getElem?_eq_getElem (by omega)⟩
     have hq := hQ k.list (z5 k (List.mem_of_getElem? hk))
     conv => whnf
     repeat' ((first | refine Case.not ?_ | refine Case.yes ?_ | refine Case.decT (by omega) ?_ | refine Owes.mk pss_row ?_ | refine Elem.mk i _ rfl (map_get hk) ?_ | refine hq.call ⟨rfl, rfl, rfl⟩ ?_ | refine Num.id (by omega) (by omega) ?_); conv => whnf)
     refine ⟨i + 1, by omega, by omega, ?_⟩
     repeat' first | exact trivial | exact rfl | exact Nat.zero_lt_succ _ | exact (by decide : 1 < 2) | apply And.intro
    ·conv => whnf
     exact Fin.isB rfl
set_option maxHeartbeats 2000000 in
theorem sameSelectors_step (Q : List (List F) → Prop) (hQ : ∀ l, Q l → Pure 11 [.f (.sl l), .f (.sl l)] (bool true)) (l : List Selr) (hl : l.length < 1000000000) (hs : ∀ s ∈ l, s.length < 1000000000 ∧ ∀ p ∈ s, CmpOk Q p.2) : Pure 11 [.f (.sl (l.map selRow)), .f (.sl (l.map selRow))] (bool true) := by
 have l1 : (l.map selRow).length = l.length := List.length_map ..
 refine .mk trivial (spec_mk tab_ok Tryz.func11 (by rfl) rfl ?_)
 conv => whnf
 repeat' ((first | refine Case.not ?_ | refine Case.decT (by omega) ?_); conv => whnf)
 refine step_loop tab_ok (fun i : Nat => padK [.f (.sl (l.map selRow)), .f (.sl (l.map selRow)), .junk, .junk, .junk, int i] 82) (fun _ => []) 0 (fun i => i ≤ l.length) (fun i => l.length - i) 0 (by omega) (fun _ => rfl) ?_ ?_
 ·
  repeat' first | exact trivial | exact rfl | apply And.intro
 ·intro i hi
  conv => whnf
  refine Case.dec (fun h0 => ?_) (fun h0 => ?_)
  ·obtain ⟨s, hk⟩ : ∃ s, l[i]? = some s := ⟨_, List.getElem?_eq_getElem (by omega)⟩
   obtain ⟨hs1, hs2⟩ := hs s (List.mem_of_getElem? hk)
   have l2 : (s.map partRow).length = s.length := List.length_map ..
   conv => whnf
   repeat' ((first | refine Case.not ?_ | refine Case.decT (by omega) ?_ | (refine step_kinds 2 ?hk ?_; (case hk => decide +kernel)) | refine Owes.mk sels_row ?_ | refine Elem.mk i _ rfl (map_get hk) ?_); conv => whnf)
   refine step_loop tab_ok (fun k : Nat => padK [.f (.sl (l.map selRow)), .f (.sl (l.map selRow)), .junk, .junk, .junk, int i, int k] 82) (fun _ => []) 0 (fun k => k ≤ s.length) (fun k => s.length - k) 0 (by omega) (fun _ => rfl) ?_ ?_
   ·
    repeat' first | exact trivial | exact rfl | apply And.intro
   ·intro k hk1
    conv => whnf
    repeat' first | ((first | (refine step_kinds 2 ?hk ?_; (case hk => decide +kernel)) | refine Owes.mk sels_row ?_ | refine Elem.mk i _ rfl (map_get hk) ?_ | refine Num.id (by omega) (by omega) ?_); conv => whnf) | (refine Case.dec (fun _ => ?_) (fun _ => ?_) <;> conv => whnf)
    ·obtain ⟨p, hp⟩ : ∃ p, s[k]? = some p := ⟨_, List.getElem?_eq_getElem (by omega)⟩
     have hcc := sameCompound_spec Q hQ p.2 (hs2 p (List.mem_of_getElem? hp))
     repeat' ((first | refine Case.not ?_ | refine Case.yes ?_ | refine Case.decT (by omega) ?_ | refine Owes.mk sels_row ?_ | refine Owes.mk parts_row ?_ | refine Elem.mk i _ rfl (map_get hk) ?_ | refine Elem.mk k _ rfl (map_get hp) ?_ | refine hcc.callB ⟨⟨rfl, rfl, rfl, rfl, rfl, rfl⟩, ⟨rfl, rfl, rfl, rfl, rfl, rfl⟩, rfl⟩ ?_ | refine Num.id (by omega) (by omega) ?_); conv => whnf)
     refine ⟨k + 1, by omega, by omega, ?_⟩
     repeat' first | exact trivial | exact rfl | apply And.intro
    ·refine ⟨i + 1, by omega, by omega, ?_⟩
     repeat' first | exact trivial | exact rfl | apply And.intro
  ·conv => whnf
   exact Fin.isB rfl
theorem sameSelectors_nil : Pure 11 [.f (.sl []), .f (.sl [])] (bool true) :=
 sameSelectors_step (fun _ => False) (fun _ h => h.elim) [] (by simp) (by simp)
theorem sameSelectors_spec : ∀ (k : Nat) (l : List Selr), SelOk k l → Pure 11 [.f (.sl (l.map selRow)), .f (.sl (l.map selRow))] (bool true)
 | 0, l, h => by
  unfold SelOk at h
  refine sameSelectors_step (fun r => r = []) (fun _ h => by subst h; exact sameSelectors_nil) l h.1 (fun s hs => ⟨(h.2 s hs).1, fun p hp => ?_⟩)
  obtain ⟨g1, g2, g3, g4, g5⟩ := (h.2 s hs).2 p hp
  exact ⟨g1, g2, g3, g4, g5⟩
 | k + 1, l, h => by
  unfold SelOk at h
  refine sameSelectors_step (fun r => ∃ l', r = l'.map selRow ∧ SelOk k l') (fun _ h => by obtain ⟨l', rfl, h⟩ := h; exact sameSelectors_spec k l' h) l h.1 (fun s hs => ⟨(h.2 s hs).1, fun p hp => ?_⟩)
  obtain ⟨g1, g2, g3, g4, g5⟩ := (h.2 s hs).2 p hp
  exact ⟨g1, g2, g3, g4, g5⟩
def allC (w : World) : Cx := ⟨fun _ => 0, fun _ => nilS, fun b => b < w.heap.size, 0, 0⟩
theorem calls_of_spec {g : FuncId} {args : List D} {y : Value} (h : Spec P g args [] 0 (fun d H => H = [] ∧ d = .f (.v y))) (w : World) (hG : Glob (fun b => b < w.heap.size) w) (vs : List Value) (hr : RepL (allC w) w args vs) : Calls P g vs.toArray w fun e w' => e = .returned y ∧ Below w.heap.size w w' := by
 have hC : Con (base (allC w) w []) (allC w) w [] 0 :=
  ⟨rfl, rfl, rfl, Nat.le_refl _, fun _ _ _ => rfl, fun _ h => h, fun b hb => ⟨hb, .inl hb⟩, rfl, rfl, Nat.le_refl _, fun _ _ => rfl, fun k cs h => (by simp at h), fun k cs h => (by simp at h), fun j k cs ds h => (by simp at h), fun k b hb => (by cases hb), fun j k b hb => (by cases hb), fun _ _ => rfl, hG⟩
 refine (h.2 (allC w) w vs hC hr).mono ?_
 rintro e w' ⟨d, v, H', c2, ⟨rfl, rfl⟩, rfl, hl, hC2, hd⟩
 have hno : ∀ b, ¬ mine (allC w) [] b := fun b hb => by
  rcases hb with ⟨k, cs, h1, _⟩ | ⟨k, h1⟩
  ·simp at h1
  ·cases h1
 have := rep_v hd
 subst this
 exact ⟨rfl, hC2.os, hC2.tape, hC2.output, hC2.size, fun b hb => hC2.old b hb (hno b)⟩
def fitB (t : List Tok) : Bool := decide (t.length < 100000000) && t.all fun k => decide (k.text.length < 1000000000) && decide (-9223372036854775808 ≤ k.n) && decide (k.n < 9223372036854775808)
theorem fit_of {t : List Tok} (h : fitB t = true) : Fit t := by
 simp only [fitB, Bool.and_eq_true, decide_eq_true_eq, List.all_eq_true] at h
 refine ⟨h.1, fun i => ?_, fun i => ?_⟩
 ·unfold tk
  split
  ·simp
  ·rename_i k hk
   exact (h.2 k (List.mem_of_getElem? hk)).1.1
 ·unfold tk
  split
  ·simp
  ·rename_i k hk
   have := h.2 k (List.mem_of_getElem? hk)
   exact ⟨this.1.2, this.2⟩
theorem tokens_val (l : List Int) (hl : l.length < 100000000) : Val 19 [.f (.sl (ptsF l))] (.f (.sl (toksF (tokens l)))) :=
 ⟨rfl, ⟨trivial, trivial⟩, rfl, (tokens_spec l hl).mono fun d H h => ⟨h.2, h.1⟩⟩
def ofT (b : ByteArray) : List Tok := tokens (prepare b.data.toList)
theorem of_spec (b : ByteArray) (hb : b.size < 1000000) : Val 10 [.str b] (.f (.sl (toksF (ofT b)))) := by
 have hb' : b.data.toList.length < 1000000 := hb
 have hl := prepare_len b.data.toList
 refine ⟨rfl, ⟨trivial, trivial⟩, rfl, spec_mk tab_ok Tryz.func10 (by rfl) rfl ?_⟩
 conv => whnf
 repeat' ((first | refine (prepare_spec b.data.toList (by omega)).call ?_ | refine (tokens_val (prepare b.data.toList) (by omega)).call ?_ | refine Way.fst ?_); conv => whnf)
 refine Fin.val ?_ ⟨rfl, rfl⟩
 exact rfl
def aliveB : ByteArray := ⟨#[97, 32, 62, 32, 46, 98]⟩
def aliveS : List Selr := [[(0, { tag := [97] }), (2, { cls := [[98]] })]]
theorem alive_toks : ofT aliveB = [{ kind := 1, text := [97] }, { kind := 9 }, { kind := 10, c := 62 }, { kind := 9 }, { kind := 10, c := 46 }, { kind := 1, text := [98] }] := by decide +kernel
theorem alive_parse : sParse (ofT aliveB) = (aliveS, true) := by
 rw [alive_toks]
 kernel_rfl
theorem alive_spec : Pure 5 [] (bool true) := by
 have ho := of_spec aliveB (by decide)
 have hp := parse_spec (t := ofT aliveB) (fit_of (by rw [alive_toks]; decide))
 rw [alive_parse] at hp
 refine ⟨trivial, spec_mk tab_ok Tryz.func5 (by rfl) rfl ?_⟩
 conv => whnf
 repeat' ((first | refine Case.yes ?_ | refine ho.call ?_ | refine hp.call ?_ | refine Owes.mk sels_row ?_ | refine Owes.mk parts_row ?_ | refine Elem.mk 0 _ rfl rfl ?_ | refine Elem.mk 1 _ rfl rfl ?_); conv => whnf)
 exact Fin.isB rfl
structure TokFit (m : Nat) (k : Tok) : Prop where
 text : k.text.length ≤ m
 lo : -2147483647 ≤ k.n
 hi : k.n ≤ 2147483647
theorem nameRun_len (l : List Int) : ∀ (f p : Nat) (bs : List UInt8), (nameRun l f p bs).1.length ≤ bs.length + 4 * f
 | 0, p, bs => by simp [nameRun]
 | f + 1, p, bs => by
  unfold nameRun
  split
  ·have := nameRun_len l f (p + 1) (bs ++ putB (see l p))
   have := putB_le (see l p)
   rw [List.length_append] at *
   omega
  split
  ·have := nameRun_len l f (escapedP l p) (bs ++ putB (escapedV l p))
   have := putB_le (escapedV l p)
   rw [List.length_append] at *
   omega
  ·dsimp only; omega
theorem nameS_len (l : List Int) (p : Nat) : (nameS l p).length ≤ 4 * (l.length + 1) := by
 have := nameRun_len l (l.length + 1) p []
 unfold nameS
 simp at this
 omega
theorem strRun_fit (l : List Int) (e : Int) (m : Nat) : ∀ (f p : Nat) (bs : List UInt8), bs.length + 4 * f ≤ m → TokFit m (strRun l e f p bs).1
 | 0, p, bs, h => ⟨by simp [strRun], by simp [strRun], by simp [strRun]⟩
 | f + 1, p, bs, h => by
  have h1 := putB_le (see l p)
  have h2 := putB_le (escapedV l p)
  unfold strRun
  split
  ·exact ⟨by dsimp only; omega, by dsimp only; omega, by dsimp only; omega⟩
  split
  ·exact ⟨by dsimp only; omega, by dsimp only; omega, by dsimp only; omega⟩
  split
  ·exact ⟨by simp, by dsimp only; omega, by dsimp only; omega⟩
  split
  ·split
   ·exact strRun_fit l e m f _ _ (by omega)
   split
   ·exact strRun_fit l e m f _ _ (by omega)
   ·exact strRun_fit l e m f _ _ (by rw [List.length_append]; omega)
  ·exact strRun_fit l e m f _ _ (by rw [List.length_append]; omega)
theorem cap_le (n : Int) : -2147483647 ≤ cap n ∧ cap n ≤ 2147483647 := by
 unfold cap
 repeat' split
 all_goals omega
theorem numTail_le (b : Bool) (n : Int) (x : Bool) : -2147483647 ≤ (numTail b n x).1 ∧ (numTail b n x).1 ≤ 2147483647 := by
 unfold numTail
 split
 ·exact ⟨by dsimp only; omega, by dsimp only; omega⟩
 ·exact cap_le _
theorem numV_le (bs : List UInt8) : -2147483647 ≤ (numV bs).1 ∧ (numV bs).1 ≤ 2147483647 := by
 unfold numV
 generalize wholeRun (bs.drop (numSign bs).2) 0 0 = x
 obtain ⟨r, n, k⟩ := x
 dsimp only
 unfold numPoint
 split
 ·exact numTail_le ..
 ·split
  ·rename_i b r' _
   generalize fracRun r' (n * 1000) 100 0 = y
   obtain ⟨r2, n2, k2⟩ := y
   exact numTail_le ..
  ·exact ⟨by dsimp only; omega, by dsimp only; omega⟩
theorem numericT_fit (l : List Int) (p : Nat) : TokFit (4 * (l.length + 1)) (numericT l p) := by
 unfold numericT
 generalize numB l p = x
 obtain ⟨bs, q, w⟩ := x
 have h := numV_le bs
 dsimp only
 split
 ·exact ⟨nameS_len l q, h.1, h.2⟩
 split
 ·exact ⟨by simp, h.1, h.2⟩
 ·exact ⟨by simp, h.1, h.2⟩
theorem tokNext_fit (l : List Int) (p : Nat) : ∀ k ∈ (tokNext l p).1, TokFit (4 * (l.length + 1)) k := by
 have plain : ∀ (kd c : Int), TokFit (4 * (l.length + 1)) { kind := kd, c := c } := fun _ _ => ⟨by simp, by simp, by simp⟩
 have named : ∀ (kd : Int) (q : Nat), TokFit (4 * (l.length + 1)) { kind := kd, text := nameS l q } := fun _ q => ⟨nameS_len l q, by simp, by simp⟩
 intro k hk
 have hC := tokC l p
 generalize tokNext l p = Y at hk hC
 cases hC
 case comment => simp at hk
 case quote => simp at hk; subst hk; exact strRun_fit l _ _ _ _ [] (by simp)
 case quote1 => simp at hk; subst hk; exact strRun_fit l _ _ _ _ [] (by simp)
 case num => simp at hk; subst hk; exact numericT_fit l p
 case hash => simp at hk; subst hk; exact named _ _
 case hashE => simp at hk; subst hk; exact named _ _
 case atk => simp at hk; subst hk; exact named _ _
 case name => simp at hk; subst hk; exact named _ _
 case name1 => simp at hk; subst hk; exact named _ _
 all_goals (simp at hk; subst hk; exact plain _ _)
theorem tokRun_fit (l : List Int) : ∀ (f p : Nat) (ts : List Tok), (∀ k ∈ ts, TokFit (4 * (l.length + 1)) k) → (∀ k ∈ tokRun l f p ts, TokFit (4 * (l.length + 1)) k) ∧ (tokRun l f p ts).length ≤ ts.length + f
 | 0, p, ts, h => ⟨h, by simp [tokRun]⟩
 | f + 1, p, ts, h => by
  unfold tokRun
  split
  ·rename_i h0
   have hl := (tokNext_gt h0).2.2
   obtain ⟨h1, h2⟩ := tokRun_fit l f (tokNext l p).2 (ts ++ (tokNext l p).1) (fun k hk => by
    rcases List.mem_append.1 hk with hk | hk
    ·exact h k hk
    ·exact tokNext_fit l p k hk)
   refine ⟨h1, ?_⟩
   rw [List.length_append] at h2
   omega
  ·exact ⟨h, by omega⟩
theorem tokens_fit (l : List Int) (hl : l.length < 10000000) : Fit (tokens l) := by
 obtain ⟨h1, h2⟩ := tokRun_fit l (l.length + 1) 0 [] (by simp)
 rw [← tokens] at h1 h2
 simp at h2
 refine ⟨by omega, fun i => ?_, fun i => ?_⟩
 ·unfold tk
  split
  ·simp
  ·rename_i k hk
   have := (h1 k (List.mem_of_getElem? hk)).text
   omega
 ·unfold tk
  split
  ·simp
  ·rename_i k hk
   have := h1 k (List.mem_of_getElem? hk)
   exact ⟨by have := this.lo; omega, by have := this.hi; omega⟩
theorem ydigit_spec (c : Int) : Pure 124 [int c] (bool (digit c)) := by
 refine .mk trivial (spec_mk tab_ok Tryz.func124 (by rfl) rfl ?_)
 conv => whnf
 repeat' first | ((first | refine Case.decT (by assumption) ?_ | refine Case.decF (by assumption) ?_); conv => whnf) | (refine Case.dec (fun _ => ?_) (fun _ => ?_) <;> conv => whnf)
 all_goals (refine Fin.isB ?_; rw [Bool.eq_iff_iff]; simp only [digit, Bool.and_eq_true, Bool.or_eq_true, Bool.not_eq_true', decide_eq_true_eq, decide_eq_false_iff_not, beq_iff_eq, beq_eq_false_iff_ne, bne_iff_ne, ne_eq, Bool.false_eq_true, reduceCtorEq, iff_true, true_iff, iff_false, false_iff, not_true_eq_false, not_false_eq_true] at *; try omega)
theorem ywhite_spec (c : Int) : Pure 100 [int c] (bool (white c)) := by
 refine .mk trivial (spec_mk tab_ok Tryz.func100 (by rfl) rfl ?_)
 conv => whnf
 repeat' first | ((first | refine Case.yes ?_ | refine Case.decT (by assumption) ?_ | refine Case.decF (by assumption) ?_); conv => whnf) | (refine Case.dec (fun _ => ?_) (fun _ => ?_) <;> conv => whnf)
 all_goals (refine Fin.isB ?_; rw [Bool.eq_iff_iff]; simp only [white, Bool.and_eq_true, Bool.or_eq_true, Bool.not_eq_true', decide_eq_true_eq, decide_eq_false_iff_not, beq_iff_eq, beq_eq_false_iff_ne, bne_iff_ne, ne_eq, Bool.false_eq_true, reduceCtorEq, iff_true, true_iff, iff_false, false_iff, not_true_eq_false, not_false_eq_true] at *; try omega)
theorem ystart_spec (c : Int) : Pure 123 [int c] (bool (nameStart c)) := by
 refine .mk trivial (spec_mk tab_ok Tryz.func123 (by rfl) rfl ?_)
 conv => whnf
 repeat' first | ((first | refine Case.yes ?_ | refine Case.no ?_ | refine Case.decT (by assumption) ?_ | refine Case.decF (by assumption) ?_ | refine Case.decT (by omega) ?_ | refine Case.decF (by omega) ?_); conv => whnf) | (refine Case.dec (fun _ => ?_) (fun _ => ?_) <;> conv => whnf)
 all_goals (refine Fin.isB ?_; rw [Bool.eq_iff_iff]; simp only [nameStart, Bool.and_eq_true, Bool.or_eq_true, Bool.not_eq_true', decide_eq_true_eq, decide_eq_false_iff_not, beq_iff_eq, beq_eq_false_iff_ne, bne_iff_ne, ne_eq, Bool.false_eq_true, reduceCtorEq, iff_true, true_iff, iff_false, false_iff, not_true_eq_false, not_false_eq_true] at *; try omega)
theorem ypoint_spec (c : Int) : Pure 102 [int c] (bool (namePoint c)) := by
 refine .mk trivial (spec_mk tab_ok Tryz.func102 (by rfl) rfl ?_)
 conv => whnf
 repeat' first | ((first | refine Case.yes ?_ | refine Case.isTrue (by assumption) ?_ | refine Case.isFalse (by assumption) ?_ | refine (ystart_spec c).call ⟨rfl, rfl⟩ ?_ | refine (ydigit_spec c).call ⟨rfl, rfl⟩ ?_); conv => whnf) | (refine Case.mk (fun _ => ?_) (fun _ => ?_) <;> conv => whnf)
 all_goals refine Fin.isB ?_
 all_goals first | (simp_all [namePoint]; done) | (simp_all [namePoint]; rfl)
theorem yhex_spec (c : Int) : Pure 140 [int c] (int (hex c)) := by
 refine .mk trivial (spec_mk tab_ok Tryz.func140 (by rfl) rfl ?_)
 cases hd : digit c
 ·have h2 : ¬ (48 ≤ c ∧ c ≤ 57) := by
   intro h
   rw [show digit c = true by simp [digit, h]] at hd
   cases hd
  have hs := ydigit_spec c
  rw [hd] at hs
  conv => whnf
  repeat' first | ((first | refine Case.no ?_ | refine Case.decT (by assumption) ?_ | refine Case.decF (by assumption) ?_ | refine Case.decT (by omega) ?_ | refine Case.decF (by omega) ?_ | refine hs.call ⟨rfl, rfl⟩ ?_ | refine Num.id (by omega) (by omega) ?_); conv => whnf) | (refine Case.dec (fun _ => ?_) (fun _ => ?_) <;> conv => whnf)
  all_goals (refine Fin.isI ?_; unfold hex; first | omega | (repeat' split) <;> first | omega | rfl)
 ·have h2 : 48 ≤ c ∧ c ≤ 57 := by simpa [digit] using hd
  have hs := ydigit_spec c
  rw [hd] at hs
  conv => whnf
  repeat' ((first | refine Case.yes ?_ | refine hs.call ⟨rfl, rfl⟩ ?_ | refine Num.id (by omega) (by omega) ?_); conv => whnf)
  all_goals (refine Fin.isI ?_; unfold hex; first | omega | (repeat' split) <;> first | omega | rfl)
theorem yat_at (l : List Int) (hl : l.length < 1000000000) (a : Nat) (ha : a < 2000000000) (k : Int) (i : Nat) (hi : (a : Int) + k = i) (h0 : 0 ≤ k) (hk : k < 1000) : Pure 99 [rip l a, int k] (int (see l i)) := by
 have hp := ptsF_length l
 refine .mk trivial (spec_mk tab_ok Tryz.func99 (by rfl) rfl ?_)
 conv => whnf
 repeat' first | ((first | (refine step_kinds 2 ?hk ?_; (case hk => decide +kernel)) | refine Num.id (by omega) (by omega) ?_); conv => whnf) | (refine Case.dec (fun _ => ?_) (fun _ => ?_) <;> conv => whnf)
 ·exact Fin.isI (by unfold see; rw [List.getElem?_eq_none (by omega)])
 all_goals skip
 ·obtain ⟨c, hc⟩ : ∃ c, l[i]? = some c := ⟨_, List.getElem?_eq_getElem (by omega)⟩
  repeat' first | ((first | refine Case.yes ?_ | refine Case.no ?_ | refine Case.decT (by assumption) ?_ | refine Case.decF (by assumption) ?_ | refine Owes.mk (by simp [ptsF]) ?_ | refine Elem.mk i _ (by omega) (ptsF_get hc) ?_); conv => whnf) | (refine Case.dec (fun _ => ?_) (fun _ => ?_) <;> conv => whnf)
  all_goals (refine Fin.isI ?_; unfold see right; rw [hc]; simp_all <;> omega)
theorem see_ge (l : List Int) (i : Nat) : -1 ≤ see l i := by
 unfold see right
 split
 ·omega
 ·split
  ·rename_i h
   simp only [Bool.and_eq_true, decide_eq_true_eq] at h
   omega
  ·omega
theorem yescape_at (l : List Int) (hl : l.length < 1000000000) (a : Nat) (ha : a < 2000000000) (k : Int) (i : Nat) (hi : (a : Int) + k = i) (h0 : 0 ≤ k) (hk : k < 900) : Pure 103 [rip l a, int k] (bool (escape l i)) := by
 refine .mk trivial (spec_mk tab_ok Tryz.func103 (by rfl) rfl ?_)
 have h1 : -1 ≤ see l (i + 1) := see_ge l (i + 1)
 conv => whnf
 repeat' first | ((first | refine Case.not ?_ | refine Case.no ?_ | refine Case.decT (by assumption) ?_ | refine Case.decF (by assumption) ?_ | refine (yat_at l hl a ha _ i (by omega) (by omega) (by omega)).call ⟨rfl, rfl, rfl⟩ ?_ | refine (yat_at l hl a ha _ (i + 1) (by omega) (by omega) (by omega)).call ⟨rfl, rfl, rfl⟩ ?_ | refine Num.id (by omega) (by omega) ?_); conv => whnf) | (refine Case.dec (fun _ => ?_) (fun _ => ?_) <;> conv => whnf)
 all_goals (refine Fin.isB ?_; rw [Bool.eq_iff_iff]; simp only [escape, Bool.and_eq_true, Bool.or_eq_true, Bool.not_eq_true', decide_eq_true_eq, decide_eq_false_iff_not, beq_iff_eq, beq_eq_false_iff_ne, bne_iff_ne, ne_eq, Bool.false_eq_true, reduceCtorEq, iff_true, true_iff, iff_false, false_iff, not_true_eq_false, not_false_eq_true] at *; try omega)
theorem yname_at (l : List Int) (hl : l.length < 1000000000) (a : Nat) (ha : a < 2000000000) (k : Int) (i : Nat) (hi : (a : Int) + k = i) (h0 : 0 ≤ k) (hk : k < 800) : Pure 107 [rip l a, int k] (bool (begins l i)) := by
 refine .mk trivial (spec_mk tab_ok Tryz.func107 (by rfl) rfl ?_)
 conv => whnf
 repeat' first
  | (refine Case.yes ?_; conv => whnf)
  | (refine Case.isTrue (by assumption) ?_; conv => whnf)
  | (refine Case.isFalse (by assumption) ?_; conv => whnf)
  | (refine Case.decT (by assumption) ?_; conv => whnf)
  | (refine Case.decF (by assumption) ?_; conv => whnf)
  | (refine (yat_at l hl a ha _ i (by omega) (by omega) (by omega)).call ⟨rfl, rfl, rfl⟩ ?_; conv => whnf)
  | (refine (yat_at l hl a ha _ (i + 1) (by omega) (by omega) (by omega)).call ⟨rfl, rfl, rfl⟩ ?_; conv => whnf)
  | (refine (yescape_at l hl a ha _ i (by omega) (by omega) (by omega)).call ⟨rfl, rfl, rfl⟩ ?_; conv => whnf)
  | (refine (yescape_at l hl a ha _ (i + 1) (by omega) (by omega) (by omega)).call ⟨rfl, rfl, rfl⟩ ?_; conv => whnf)
  | (refine (ystart_spec _).call ⟨rfl, rfl⟩ ?_; conv => whnf)
  | (refine Num.id (by omega) (by omega) ?_; conv => whnf)
  | (refine Case.dec (fun _ => ?_) (fun _ => ?_) <;> conv => whnf)
  | (refine Case.mk (fun _ => ?_) (fun _ => ?_) <;> conv => whnf)
 all_goals (refine Fin.isB ?_; simp_all [begins])
theorem ynumber_spec (l : List Int) (hl : l.length < 1000000000) (a : Nat) (ha : a < 2000000000) : Pure 105 [rip l a] (bool (number l a)) := by
 refine .mk trivial (spec_mk tab_ok Tryz.func105 (by rfl) rfl ?_)
 conv => whnf
 repeat' first | ((first | refine Case.yes ?_ | refine Case.isTrue (by assumption) ?_ | refine Case.isFalse (by assumption) ?_ | refine Case.decT (by assumption) ?_ | refine Case.decF (by assumption) ?_ | refine (yat_at l hl a ha _ a (by omega) (by omega) (by omega)).call ⟨rfl, rfl, rfl⟩ ?_ | refine (yat_at l hl a ha _ (a + 1) (by omega) (by omega) (by omega)).call ⟨rfl, rfl, rfl⟩ ?_ | refine (yat_at l hl a ha _ (a + 2) (by omega) (by omega) (by omega)).call ⟨rfl, rfl, rfl⟩ ?_ | refine (ydigit_spec _).call ⟨rfl, rfl⟩ ?_ | refine Num.id (by omega) (by omega) ?_); conv => whnf) | (refine Case.dec (fun _ => ?_) (fun _ => ?_) <;> conv => whnf) | (refine Case.mk (fun _ => ?_) (fun _ => ?_) <;> conv => whnf)
 all_goals (refine Fin.isB ?_; simp_all [number])
def signK (c : Int) : Int := if c = 58 then 11 else if c = 59 then 12 else if c = 44 then 13 else if c = 123 then 14 else if c = 125 then 15 else if c = 40 then 16 else if c = 41 then 17 else if c = 91 then 18 else if c = 93 then 19 else 10
theorem ysigns_spec (c : Int) : Pure 128 [int c] (int (signK c)) := by
 refine .mk trivial (spec_mk tab_ok Tryz.func128 (by rfl) rfl ?_)
 conv => whnf
 repeat' (refine Case.dec (fun _ => ?_) (fun _ => ?_) <;> conv => whnf)
 all_goals (refine Fin.isI ?_; unfold signK; first | omega | (repeat' split) <;> first | omega | rfl)
theorem shr32 {c : Int} (n : Nat) (hn : n ≤ 32) : shrI .i32 c n = c / 2 ^ n := by
 unfold shrI
 rw [show min (n : Int).toNat IntKind.i32.bits = n by show min (n : Int).toNat 32 = n; omega]
 rw [Int.fdiv_eq_ediv_of_nonneg _ (by have : (0 : Int) < 2 ^ n := Int.pow_pos (by decide); omega)]
theorem wrapU8 (x : Int) : IntKind.u8.wrap x = x % 256 := by
 have e1 : (2 ^ IntKind.u8.bits : Int) = 256 := by decide
 unfold IntKind.wrap
 rw [e1]
 simp only [show IntKind.u8.signed = false from rfl, Bool.false_and, Bool.false_eq_true, if_false]
theorem wrapU32 {x : Int} (h1 : 0 ≤ x) (h2 : x < 4294967296) : IntKind.u32.wrap x = x := by
 have e1 : (2 ^ IntKind.u32.bits : Int) = 4294967296 := by decide
 unfold IntKind.wrap
 rw [e1]
 simp only [show IntKind.u32.signed = false from rfl, Bool.false_and, Bool.false_eq_true, if_false]
 omega
theorem and8_all : ∀ x : _root_.Fin 256, andI .u8 (x.val : Int) 63 = (x.val : Int) % 64 := by decide +kernel
theorem or8_192 : ∀ x : _root_.Fin 32, orI .u8 192 (x.val : Int) = 192 + x.val := by decide +kernel
theorem or8_224 : ∀ x : _root_.Fin 16, orI .u8 224 (x.val : Int) = 224 + x.val := by decide +kernel
theorem or8_240 : ∀ x : _root_.Fin 8, orI .u8 240 (x.val : Int) = 240 + x.val := by decide +kernel
theorem or8_128 : ∀ x : _root_.Fin 64, orI .u8 128 (x.val : Int) = 128 + x.val := by decide +kernel
theorem or8_fin (k : Int) (n : Nat) (h : ∀ x : _root_.Fin n, orI .u8 k (x.val : Int) = k + x.val) {y : Int} (h0 : 0 ≤ y) (h1 : y < n) : orI .u8 k y = k + y := by
 obtain ⟨m, rfl⟩ : ∃ m : Nat, y = m := ⟨y.toNat, by omega⟩
 exact h ⟨m, by omega⟩
theorem cont8 (x : Int) : IntKind.u8.wrap (orI .u8 128 (IntKind.u8.wrap (andI .u8 (IntKind.u8.wrap x) 63))) = 128 + x % 64 := by
 have e : andI .u8 (IntKind.u8.wrap x) 63 = x % 64 := by
  rw [wrapU8]
  obtain ⟨m, hm⟩ : ∃ m : Nat, x % 256 = m := ⟨(x % 256).toNat, by omega⟩
  rw [hm]
  have := and8_all ⟨m, by omega⟩
  simp only at this
  rw [this]
  omega
 rw [e, wrapU8 (x % 64), Int.emod_eq_of_lt (a := x % 64) (by omega) (by omega), or8_fin 128 64 or8_128 (by omega) (by omega), wrapU8]
 omega
theorem lead8 (k : Int) (n : Nat) (h : ∀ x : _root_.Fin n, orI .u8 k (x.val : Int) = k + x.val) {y : Int} (h0 : 0 ≤ y) (h1 : y < n) (hk : 0 ≤ k ∧ k + n ≤ 256) : IntKind.u8.wrap (orI .u8 k (IntKind.u8.wrap y)) = k + y := by
 rw [wrapU8, wrapU8, Int.emod_eq_of_lt h0 (by omega), or8_fin k n h h0 h1]
 omega
theorem Fin.bytesK {bs xs : List UInt8} {rows : List (List F)} {H : Hp} {n : Nat} (e : rows = xs.map byteRow) : Fin (.own 0 5 1 (bs.map byteRow ++ rows)) (killH 0 H) n 0 1 (fun d H => H = [] ∧ d = .own 0 5 1 ((bs ++ xs).map byteRow)) := Fin.bytes e
theorem byteRow_of {x : Int} (h0 : 0 ≤ x) (h1 : x < 256) : [F.v (.int .u8 x)] = byteRow (b8 x) := (b8_row h0 h1).symm
theorem yrune2_spec (bs : List UInt8) (hb : bs.length < 1000000000) (c : Int) (h0 : 0 ≤ c) (h1 : c ≤ 1114111) (h2 : 128 ≤ c) : Spec P 157 [.own 0 5 1 (bs.map byteRow), .f (.v (.int .i32 c))] [] 1 (fun d H => H = [] ∧ d = .own 0 5 1 ((bs ++ putB c).map byteRow)) := by
 have hw := wrapU32 h0 (by omega)
 have s6 : shrI .i32 c 6 = c / 64 := shr32 6 (by omega)
 have s12 : shrI .i32 c 12 = c / 4096 := shr32 12 (by omega)
 have s18 : shrI .i32 c 18 = c / 262144 := shr32 18 (by omega)
 refine spec_mk tab_ok Tryz.func157 (by rfl) rfl ?_
 conv => whnf
 repeat' first | ((first | refine Case.no ?_ | refine Case.decT (by assumption) ?_ | refine Case.decF (by assumption) ?_ | refine Case.decT (by omega) ?_ | refine Case.decF (by omega) ?_ | (refine Owes.mk (by first | omega | (simp; omega)) ?_) | refine Num.wrap ?_); conv => whnf) | (refine Case.dec (fun _ => ?_) (fun _ => ?_) <;> conv => whnf)
 all_goals refine Fin.bytesK ?_
 all_goals rw [hw] at *
 all_goals unfold putB right
 ·rw [if_pos (by simp; omega), cont8, s6, lead8 192 32 or8_192 (by omega) (by omega) (by omega), byteRow_of (by omega) (by omega), byteRow_of (by omega) (by omega)]
  unfold utfB
  rw [if_neg (by omega), if_pos (by omega)]
  rfl
 ·rw [if_pos (by simp; omega), cont8, cont8, s6, s12, lead8 224 16 or8_224 (by omega) (by omega) (by omega), byteRow_of (by omega) (by omega), byteRow_of (by omega) (by omega), byteRow_of (by omega) (by omega)]
  unfold utfB
  rw [if_neg (by omega), if_neg (by omega), if_pos (by omega)]
  rfl
 ·rw [if_pos (by simp; omega), cont8, cont8, s6, s12, lead8 224 16 or8_224 (by omega) (by omega) (by omega), byteRow_of (by omega) (by omega), byteRow_of (by omega) (by omega), byteRow_of (by omega) (by omega)]
  unfold utfB
  rw [if_neg (by omega), if_neg (by omega), if_pos (by omega)]
  rfl
 ·rw [if_pos (by simp; omega), cont8, cont8, cont8, s6, s12, s18, lead8 240 8 or8_240 (by omega) (by omega) (by omega), byteRow_of (by omega) (by omega), byteRow_of (by omega) (by omega), byteRow_of (by omega) (by omega), byteRow_of (by omega) (by omega)]
  unfold utfB
  rw [if_neg (by omega), if_neg (by omega), if_neg (by omega)]
  rfl
 ·rw [if_neg (by simp; omega)]
  rfl
theorem yrune2_call {bs : List UInt8} {c : Int} {E : List D} {H : Hp} {K : KD} (hb : bs.length < 1000000000) (h0 : 0 ≤ c) (h1 : c ≤ 1114111) (h2 : 128 ≤ c) (k : killsK [0] E fun E => killsHK [0] H fun H => K (.own 0 5 1 ((bs ++ putB c).map byteRow)) E H 1) : Call P 157 [.own 0 5 1 (bs.map byteRow), .f (.v (.int .i32 c))] E H 1 K := by
 rw [killsK_eq, killsHK_eq] at k
 refine call_gen («as» := [.own 0 5 1 (bs.map byteRow), .f (.v (.int .i32 c))]) [] [0] (yrune2_spec bs hb c h0 h1 h2) (by simp) (by simp) (by simp) (by simp) trivial ⟨Nat.zero_lt_one, trivial, trivial⟩ ?_
 rintro d Hs' ⟨rfl, rfl⟩ _
 exact k
theorem Fin.bytesO {bs : List UInt8} {H : Hp} {n : Nat} {R : D → Hp → Prop} (hR : R (.own 0 5 1 (bs.map byteRow)) []) : Fin (.own 0 5 1 (bs.map byteRow)) H n 0 1 R :=
 Fin.mk (.own 0 5 1 (bs.map byteRow)) [] hR rfl ⟨by unfold intoL intoL intoD; exact ⟨⟨rfl, by decide⟩, rfl⟩, by unfold intoH; cases H <;> trivial⟩
theorem yrune_spec (bs : List UInt8) (hb : bs.length < 1000000000) (c : Int) (h0 : 0 ≤ c) (h1 : c ≤ 1114111) : Spec P 139 [.own 0 5 1 (bs.map byteRow), .f (.v (.int .i32 c))] [] 1 (fun d H => H = [] ∧ d = .own 0 5 1 ((bs ++ putB c).map byteRow)) := by
 have hw := wrapU32 h0 (by omega)
 refine spec_mk tab_ok Tryz.func139 (by rfl) rfl ?_
 conv => whnf
 repeat' first | ((first | (refine Owes.mk (by first | omega | (simp; omega)) ?_) | refine Num.wrap ?_); conv => whnf) | (refine Case.dec (fun _ => ?_) (fun _ => ?_) <;> conv => whnf)
 all_goals rw [hw] at *
 ·refine Fin.bytesK ?_
  unfold putB right
  rw [if_pos (by simp; omega), wrapU8, Int.emod_eq_of_lt (by omega) (by omega), byteRow_of (by omega) (by omega)]
  unfold utfB
  rw [if_pos (by omega)]
  rfl
 ·refine yrune2_call hb h0 h1 (by omega) ?_
  conv => whnf
  repeat' first
   | (refine Case.not ?_; conv => whnf)
   | (refine Case.yes ?_; conv => whnf)
   | (refine Case.no ?_; conv => whnf)
   | (refine Case.isTrue (by assumption) ?_; conv => whnf)
   | (refine Case.isFalse (by assumption) ?_; conv => whnf)
   | (refine Case.decT (by assumption) ?_; conv => whnf)
   | (refine Case.decF (by assumption) ?_; conv => whnf)
   | (refine Case.decT (by omega) ?_; conv => whnf)
   | (refine Case.decF (by omega) ?_; conv => whnf)
   | (refine Case.beqT (by omega) ?_; conv => whnf)
   | (refine Case.beqF (by omega) ?_; conv => whnf)
   | (refine Num.id (by omega) (by omega) ?_; conv => whnf)
   | (refine Case.dec (fun _ => ?_) (fun _ => ?_) <;> conv => whnf)
   | (refine Case.beqI (fun _ => ?_) (fun _ => ?_) <;> conv => whnf)
   | (refine Case.mk (fun _ => ?_) (fun _ => ?_) <;> conv => whnf)
   | (refine Way.fst ?_; conv => whnf)
  exact Fin.bytesO ⟨rfl, rfl⟩
theorem wrapI32 {x : Int} (h1 : -2147483648 ≤ x) (h2 : x < 2147483648) : IntKind.i32.wrap x = x := by
 have e1 : (2 ^ IntKind.i32.bits : Int) = 4294967296 := by decide
 have e2 : (2 ^ (IntKind.i32.bits - 1) : Int) = 2147483648 := by decide
 unfold IntKind.wrap
 rw [e1, e2]
 simp only [show IntKind.i32.signed = true from rfl, Bool.true_and, decide_eq_true_eq]
 split <;> omega
theorem Num.id32 {x : Int} {K : Int → Prop} (h1 : -2147483648 ≤ x) (h2 : x < 2147483648) (h : K x) : Num .i32 x K := Num.wrap (by rw [wrapI32 h1 h2]; exact h)
def bytesOf (l : List Int) : List UInt8 := l.flatMap putB
structure BytI (l : List Int) (s : Nat × List UInt8) : Prop where
 i : s.1 ≤ l.length
 o : s.2.length ≤ 4 * s.1
 run : s.2 ++ bytesOf (l.drop s.1) = bytesOf l
theorem bytesOf_cons (c : Int) (l : List Int) : bytesOf (c :: l) = putB c ++ bytesOf l := by simp [bytesOf]
theorem putB_out {c : Int} (h : c < 0 ∨ 1114111 < c) : putB c = putB 65533 := by
 have e : right c = false := by
  rw [Bool.eq_false_iff]
  intro hr
  have := right_le hr
  omega
 unfold putB
 rw [e]
 rfl
theorem yrune_callK {bs : List UInt8} {c : Int} {E : List D} {H : Hp} {K : KD} {k n : Nat} (hk : k < n) (hb : bs.length < 1000000000) (h0 : 0 ≤ c) (h1 : c ≤ 1114111) (h : killsK [k] E fun E => killsHK [k] H fun H => K (.own k 5 1 ((bs ++ putB c).map byteRow)) E H n) : Call P 139 [.own k 5 1 (bs.map byteRow), .f (.v (.int .i32 c))] E H n K := by
 rw [killsK_eq, killsHK_eq] at h
 refine call_gen («as» := [.own 0 5 1 (bs.map byteRow), .f (.v (.int .i32 c))]) [] [k] (yrune_spec bs hb c h0 h1) (by simp) (by simp) (by simp) (by simpa using hk) trivial ⟨Nat.zero_lt_one, trivial, trivial⟩ ?_
 rintro d Hs' ⟨rfl, rfl⟩ _
 exact h
theorem ybytes_own (l : List Int) (hl : l.length < 200000000) : Spec P 121 [.own 0 3 1 (ptsF l)] [] 1 (fun d H => H = [] ∧ d = .f (.sl ((bytesOf l).map byteRow))) := by
 have hp := ptsF_length l
 refine spec_mk tab_ok Tryz.func121 (by rfl) rfl ?_
 conv => whnf
 refine step_loop tab_ok (fun s : Nat × List UInt8 => padK [.own 0 3 1 (ptsF l), .junk, .junk, .own 1 5 1 (s.2.map byteRow), .junk, .junk, .own 0 3 1 (ptsF l), int l.length, int s.1] 24) (fun _ => []) 2 (BytI l) (fun s => l.length - s.1) (0, []) ⟨by simp, by simp, rfl⟩ (fun _ => rfl) ?_ ?_
 ·
  repeat' first | exact trivial | exact rfl | exact Nat.zero_lt_succ _ | exact (by decide : 1 < 2) | exact congrArg int (by (try dsimp only); omega) | apply And.intro
 ·rintro ⟨i, out⟩ ⟨h1, h2, h3⟩
  simp only at h1 h2 h3
  dsimp only
  conv => whnf
  refine Case.dec (fun h0 => ?_) (fun h0 => ?_)
  ·obtain ⟨c, hc⟩ : ∃ c, l[i]? = some c := ⟨_, List.getElem?_eq_getElem (by omega)⟩
   have hb := putB_le c
   have gl : (ptsF l)[(i : Int).toNat]? = some [.v (.int .i64 c)] := ptsF_get hc
   rw [drop_step hc, bytesOf_cons] at h3
   conv => whnf
   repeat' first | ((first | refine Case.yes ?_ | refine Case.decT (by assumption) ?_ | refine Case.decF (by assumption) ?_ | refine Elem.mk i _ rfl (ptsF_get hc) ?_ | rw [gl] | refine Owes.mk rfl ?_ | refine Num.id32 (by omega) (by omega) ?_ | refine yrune_callK (by omega) (by omega) (by omega) (by omega) ?_ | refine Num.id (by omega) (by omega) ?_); conv => whnf) | (refine Case.dec (fun _ => ?_) (fun _ => ?_) <;> conv => whnf)
   all_goals refine ⟨(i + 1, out ++ putB c), ⟨by dsimp only; omega, by dsimp only; rw [List.length_append]; omega, by dsimp only; rw [List.append_assoc]; exact h3⟩, by dsimp only; omega, ?_⟩
   ·rw [putB_out (c := c) (by omega)]
    repeat' first | exact trivial | exact rfl | exact Nat.zero_lt_succ _ | exact (by decide : 1 < 2) | apply And.intro
   ·rw [putB_out (c := c) (by omega)]
    repeat' first | exact trivial | exact rfl | exact Nat.zero_lt_succ _ | exact (by decide : 1 < 2) | apply And.intro
   ·
    repeat' first | exact trivial | exact rfl | exact Nat.zero_lt_succ _ | exact (by decide : 1 < 2) | apply And.intro
  ·rw [show l.drop i = [] by rw [List.drop_eq_nil_iff]; omega] at h3
   simp [bytesOf] at h3
   conv => whnf
   refine Fin.frz 1 (Fin.mk (.f (.sl ((bytesOf l).map byteRow))) [] ⟨rfl, rfl⟩ rfl ⟨?_, by unfold intoH; cases frzH 1 [] <;> trivial⟩)
   unfold intoL intoL intoD
   exact ⟨by rw [h3]; rfl, rfl⟩
theorem ybytes_call {l : List Int} {E : List D} {H : Hp} {K : KD} {k n : Nat} (hk : k < n) (hl : l.length < 200000000) (h : killsK [k] E fun E => killsHK [k] H fun H => K (.f (.sl ((bytesOf l).map byteRow))) E H n) : Call P 121 [.own k 3 1 (ptsF l)] E H n K := by
 rw [killsK_eq, killsHK_eq] at h
 refine call_gen («as» := [.own 0 3 1 (ptsF l)]) [] [k] (ybytes_own l hl) (by simp) (by simp) (by simp) (by simpa using hk) trivial ⟨Nat.zero_lt_one, trivial⟩ ?_
 rintro d Hs' ⟨rfl, rfl⟩ _
 exact h
theorem escapedV_of2 {l : List Int} {a p : Nat} {n : Int} (h0 : 0 ≤ n) (h : ¬ hex (see l (a + 1)) < 0) (hx : hexRun l 6 (a + 1) 0 = (p, n)) : escapedV l a = if n = 0 ∨ 1114111 < n ∨ (55296 ≤ n ∧ n ≤ 57343) then 65533 else n := by
  rw [escapedV_of h hx]
  have e : (n = 0 ∨ right n = false) ↔ (n = 0 ∨ 1114111 < n ∨ (55296 ≤ n ∧ n ≤ 57343)) := by
    unfold right
    simp only [Bool.and_eq_false_iff, Bool.or_eq_false_iff, decide_eq_false_iff_not]
    omega
  by_cases h2 : n = 0 ∨ right n = false
  · rw [if_pos h2, if_pos (e.1 h2)]
  · rw [if_neg h2, if_neg (fun h3 => h2 (e.2 h3))]
set_option maxHeartbeats 1000000 in
theorem yescaped (l : List Int) (hl : l.length < 1000000000) (a : Nat) (ha : a < 1900000000) : Meth 122 l (a + 1) (int (escapedV l a)) (escapedP l a) := by
  refine ⟨trivial, spec_mk tab_ok Tryz.func122 (by rfl) rfl ?_⟩
  have hh := hex_le (see l (a + 1))
  conv => whnf
  repeat' first | ((first | refine (yat_at l hl (a+1) (by omega) _ (a + 1) (by omega) (by omega) (by omega)).call ⟨⟨rfl, rfl, trivial⟩, rfl, rfl⟩ ?_ | refine (yhex_spec _).call ⟨rfl, rfl⟩ ?_ | refine Num.id (by omega) (by omega) ?_); conv => whnf) | (refine Case.dec (fun _ => ?_) (fun _ => ?_) <;> conv => whnf)
  · refine Fin.rd (a + 2) trivial (by omega) ⟨?_, ?_⟩
    · unfold escapedV; rw [if_pos (by omega)]
    · unfold escapedP; rw [if_pos (by omega)]
  · refine step_loop tab_ok (fun s => padK [.ptr 0 0, .junk, .junk, .junk, int s.2.2, int s.1] 68) (fun s => [some (rdr l s.2.1)]) 0 (EscI l a) (fun s => 6 - s.1) (0, a + 1, 0) ⟨by simp, by simp, by simp, by simp, rfl⟩ (fun _ => rfl) ?_ ?_
    ·
      repeat' first | exact trivial | exact rfl | exact (by decide : 0 < 1) | apply And.intro
    · rintro ⟨j, p, n⟩ ⟨h1, h2, h3, h4, h5⟩
      simp only at h1 h2 h3 h4 h5
      dsimp only
      have hb := p16 j h1
      have hh2 := hex_le (see l p)
      conv => whnf
      repeat' first | ((first | refine Case.not ?_ | refine Case.yes ?_ | refine Case.no ?_ | refine Case.decT (by assumption) ?_ | refine Case.decF (by assumption) ?_ | refine (yat_at l (by omega) p (by omega) _ p (by omega) (by omega) (by omega)).call ⟨⟨rfl, rfl, trivial⟩, rfl, rfl⟩ ?_ | refine (yhex_spec _).call ⟨rfl, rfl⟩ ?_ | refine (ywhite_spec _).call ⟨rfl, rfl⟩ ?_ | refine Num.id (by omega) (by omega) ?_); conv => whnf) | (refine Case.dec (fun _ => ?_) (fun _ => ?_) <;> conv => whnf) | (refine Case.mk (fun _ => ?_) (fun _ => ?_) <;> conv => whnf)
      rotate_right
      rotate_right
      all_goals first
        | (have hx := hexRun_end h5 h1 (by omega)
           have eV := escapedV_of2 h3 (by omega) hx
           have eP := escapedP_of (by omega) hx
           rw [eV, eP]
           first
             | (refine Fin.rd (p + 1) trivial (by omega) ⟨?_, ?_⟩
                · first | rw [if_pos (by omega)] | rw [if_neg (by omega)]
                · rw [if_pos (by assumption)]
                done)
             | (refine Fin.rd p trivial (by omega) ⟨?_, ?_⟩
                · first | rw [if_pos (by omega)] | rw [if_neg (by omega)]
                · rw [if_neg (by simp [*])]
                done))
        | skip
      refine ⟨(j + 1, p + 1, n * 16 + hex (see l p)), ⟨by dsimp only; omega, by dsimp only; omega, by dsimp only; omega, by dsimp only; rw [Int.pow_succ]; omega, ?_⟩, by dsimp only; omega, ?_⟩
      · dsimp only
        rw [← h5, show 6 - j = (6 - (j + 1)) + 1 by omega, hexRun, if_pos (by omega)]
      ·
        repeat' first | exact trivial | exact rfl | exact (by decide : 0 < 1) | apply And.intro
structure YptI (l : List Int) (a : Nat) (s : Nat × List Int) : Prop where
  p : s.1 ≤ l.length
  b : s.2.length ≤ s.1
  run : ∀ f, l.length - s.1 < f → nameRun l f s.1 (bytesOf s.2) = nameRun l (l.length + 1) a []
theorem bytesOf_snoc (l : List Int) (c : Int) : bytesOf (l ++ [c]) = bytesOf l ++ putB c := by simp [bytesOf]
theorem escape_not {l : List Int} {p : Nat} (h : escape l p = true) : namePoint (see l p) = false := by
  simp only [escape, Bool.and_eq_true, decide_eq_true_eq] at h
  rw [h.1.1]
  decide
theorem bytesOf_le (l : List Int) : (bytesOf l).length ≤ 4 * l.length := by
  induction l with
  | nil => simp [bytesOf]
  | cons c l ih =>
    rw [bytesOf_cons, List.length_append]
    have := putB_le c
    simp only [List.length_cons]
    omega
set_option maxHeartbeats 1000000 in
theorem ypoints (l : List Int) (hl : l.length < 100000000) (a : Nat) (ha : a ≤ l.length) : Meth 125 l a (.str ⟨(nameS l a).toArray⟩) (nameP l a) := by
  refine ⟨trivial, spec_mk tab_ok Tryz.func125 (by rfl) rfl ?_⟩
  conv => whnf
  refine step_loop tab_ok (fun s : Nat × List Int => padK [.ptr 0 0, .junk, .junk, intsD s.2] 38) (fun s => [some (rdr l s.1)]) 1 (YptI l a) (fun s => l.length - s.1) (a, []) ⟨ha, by simp, fun f hf => nameRun_fuel l _ _ _ _ hf (by dsimp only at hf; omega)⟩ (fun _ => rfl) ?_ ?_
  ·
    repeat' first | exact trivial | exact rfl | exact (by decide : 0 < 1) | exact Nat.le_refl _ | apply And.intro
  · rintro ⟨p, out⟩ ⟨h1, h2, h3⟩
    simp only at h1 h2 h3
    dsimp only
    have hbl := bytesOf_le out
    conv => whnf
    repeat' first | ((first | refine (yat_at l (by omega) p (by omega) _ p (by omega) (by omega) (by omega)).call ⟨⟨rfl, rfl, trivial⟩, rfl, rfl⟩ ?_ | refine (yescape_at l (by omega) p (by omega) _ p (by omega) (by omega) (by omega)).call ⟨⟨rfl, rfl, trivial⟩, rfl, rfl⟩ ?_ | refine (ypoint_spec _).call ⟨rfl, rfl⟩ ?_ | refine (yescaped l (by omega) p (by omega)).call ?_ | (refine Owes.mk (by simp [ptsF]; omega) ?_) | refine ybytes_call (by omega) (by omega) ?_ | refine AsBytes.mk (bytesOf out) rfl ?_ | refine Num.id (by omega) (by omega) ?_); conv => whnf) | (refine Case.mk (fun _ => ?_) (fun _ => ?_) <;> conv => whnf)
    · have h := escapedP_le (by assumption)
      refine ⟨(escapedP l p, out ++ [escapedV l p]), ⟨by dsimp only; omega, by dsimp only; rw [List.length_append]; simp; omega, fun f hf => ?_⟩, by dsimp only; omega, ?_⟩
      · dsimp only at hf ⊢
        rw [bytesOf_snoc, ← h3 (l.length - p + 1) (by omega), nameRun, if_neg (by simp [escape_not (by assumption)]), if_pos (by assumption)]
        exact nameRun_fuel l f _ _ _ hf (by omega)
      ·
        repeat' first | exact trivial | exact rfl | exact (by decide : 0 < 1) | apply And.intro | exact congrArg (D.own _ _ _) (by simp [ptsF]; done)
    · have h := namePoint_lt (by assumption)
      refine ⟨(p + 1, out ++ [see l p]), ⟨by dsimp only; omega, by dsimp only; rw [List.length_append]; simp; omega, fun f hf => ?_⟩, by dsimp only; omega, ?_⟩
      · dsimp only at hf ⊢
        rw [bytesOf_snoc, ← h3 (f + 1) (by omega), nameRun, if_pos (by assumption)]
      ·
        repeat' first | exact trivial | exact rfl | exact (by decide : 0 < 1) | apply And.intro | exact congrArg (D.own _ _ _) (by simp [ptsF]; done)
    · have e := h3 (l.length - p + 1) (by omega)
      rw [nameRun, if_neg (by simp [*]), if_neg (by simp [*])] at e
      refine Fin.rd p trivial rfl ⟨?_, ?_⟩
      · unfold nameS; rw [← e]
      · unfold nameP; rw [← e]
theorem tok_scal (t : Tok) : scalD t.d := ⟨trivial, trivial, trivial, trivial, trivial, trivial⟩
def signT (c : Int) : Tok := { kind := signK c, c := if signK c = 10 then c else 0 }
theorem ysign (l : List Int) (hl : l.length < 100000000) (a : Nat) (ha : a ≤ l.length) : Meth 109 l a (signT (see l a)).d (a + 1) := by
 refine ⟨⟨trivial, trivial, trivial, trivial, trivial, trivial⟩, spec_mk tab_ok Tryz.func109 (by rfl) rfl ?_⟩
 conv => whnf
 repeat' first | ((first | refine (yat_at l (by omega) a (by omega) _ a (by omega) (by omega) (by omega)).call ⟨⟨rfl, rfl, trivial⟩, rfl, rfl⟩ ?_ | refine (ysigns_spec _).call ⟨rfl, rfl⟩ ?_ | refine Num.id (by omega) (by omega) ?_); conv => whnf) | (refine Case.dec (fun _ => ?_) (fun _ => ?_) <;> conv => whnf)
 ·exact Fin.rd (a + 1) ⟨trivial, trivial, trivial, trivial, trivial, trivial⟩ (by omega) ⟨by unfold signT; rw [if_pos (by assumption), (by assumption : signK _ = 10)]; rfl, rfl⟩
 ·exact Fin.rd (a + 1) ⟨trivial, trivial, trivial, trivial, trivial, trivial⟩ (by omega) ⟨by unfold signT; rw [if_neg (by assumption)]; rfl, rfl⟩
theorem yword (l : List Int) (hl : l.length < 100000000) (a : Nat) (ha : a ≤ l.length) : Meth 108 l a (if see l (nameP l a) = 40 then ({ kind := 20, text := nameS l a } : Tok) else { kind := 1, text := nameS l a }).d (if see l (nameP l a) = 40 then nameP l a + 1 else nameP l a) := by
 have hp := nameP_le ha
 refine ⟨tok_scal _, spec_mk tab_ok Tryz.func108 (by rfl) rfl ?_⟩
 conv => whnf
 repeat' first | ((first | refine (ypoints l hl a ha).call ?_ | refine (yat_at l (by omega) (nameP l a) (by omega) _ (nameP l a) (by omega) (by omega) (by omega)).call ⟨⟨rfl, rfl, trivial⟩, rfl, rfl⟩ ?_ | refine Num.id (by omega) (by omega) ?_); conv => whnf) | (refine Case.dec (fun _ => ?_) (fun _ => ?_) <;> conv => whnf)
 ·rw [if_pos (by assumption), if_pos (by assumption)]
  exact Fin.rd (nameP l a + 1) ⟨trivial, trivial, trivial, trivial, trivial, trivial⟩ (by omega) ⟨rfl, rfl⟩
 ·rw [if_neg (by assumption), if_neg (by assumption)]
  exact Fin.rd (nameP l a) ⟨trivial, trivial, trivial, trivial, trivial, trivial⟩ (by omega) ⟨rfl, rfl⟩
def Meth1 (g : FuncId) (x : Int) (l : List Int) (a : Nat) (V : D) (p : Nat) : Prop := scalD V ∧ Spec P g [.ptr 0 0, int x] [some (rdr l a)] 0 (fun d H => d = V ∧ H = [some (rdr l p)])
theorem Meth1.call {g : FuncId} {x : Int} {l : List Int} {a p : Nat} {V : D} {E : List D} {H : Hp} {n : Nat} {K : KD} (h : Meth1 g x l a V p) (k : K V E (some (rdr l p) :: H) n) : Call P g [.ptr 0 0, int x] E (some (rdr l a) :: H) n K := by
 refine call_gen («as» := [.ptr 0 0, int x]) [0] [] h.2 (by simp) (by simp) (by simp) (by simp) ?_ ?_ ?_
 ·unfold fitH fitH; exact ⟨⟨rfl, ⟨trivial, trivial, trivial⟩⟩, trivial⟩
 ·exact ⟨Nat.zero_lt_one, trivial, trivial⟩
 ·rintro d Hs' ⟨rfl, rfl⟩ _
  rw [ren_scal _ _ _ h.1, killsL_nil, killsH_nil]
  exact k
theorem ybehind (l : List Int) (hl : l.length < 100000000) (a : Nat) (ha : a < l.length) (x : Int) : Meth1 104 x l a ({ kind := x, text := nameS l (a + 1) } : Tok).d (nameP l (a + 1)) := by
 have hp := nameP_le (l := l) (p := a + 1) ha
 refine ⟨tok_scal _, spec_mk tab_ok Tryz.func104 (by rfl) rfl ?_⟩
 conv => whnf
 repeat' ((first | refine (ypoints l hl (a + 1) (by omega)).call ?_ | refine Num.id (by omega) (by omega) ?_); conv => whnf)
 exact Fin.rd (nameP l (a + 1)) ⟨trivial, trivial, trivial, trivial, trivial, trivial⟩ (by omega) ⟨rfl, rfl⟩
structure YstI (l : List Int) (a : Nat) (s : Nat × List Int) : Prop where
 p : s.1 ≤ l.length
 b : s.2.length ≤ s.1
 run : ∀ f, l.length - s.1 < f → strRun l (see l a) f s.1 (bytesOf s.2) = strRun l (see l a) (l.length + 1) (a + 1) []
set_option maxHeartbeats 1000000 in
theorem yquoted (l : List Int) (hl : l.length < 100000000) (a : Nat) (ha : a < l.length) (hq : see l a = 34 ∨ see l a = 39) : Meth 101 l a (strT l a).d (strP l a) := by
 refine ⟨tok_scal _, spec_mk tab_ok Tryz.func101 (by rfl) rfl ?_⟩
 conv => whnf
 repeat' ((first | refine (yat_at l (by omega) a (by omega) _ a (by omega) (by omega) (by omega)).call ⟨⟨rfl, rfl, trivial⟩, rfl, rfl⟩ ?_ | refine Num.id (by omega) (by omega) ?_); conv => whnf)
 refine step_loop tab_ok (fun s : Nat × List Int => padK [.ptr 0 0, .junk, .ptr 1 0, int (see l a), intsD s.2] 70) (fun s => [some (rdr l s.1), some tok0]) 1 (YstI l a) (fun s => l.length - s.1) (a + 1, []) ⟨by dsimp only; omega, by simp, fun f hf => strRun_fuel l _ _ _ _ _ hf (by dsimp only at hf; omega)⟩ (fun _ => rfl) ?_ ?_
 ·
  repeat' first | exact trivial | exact rfl | exact (by decide : 0 < 1) | exact Nat.le_refl _ | exact Nat.zero_lt_succ _ | apply And.intro
 ·rintro ⟨p, out⟩ ⟨h1, h2, h3⟩
  simp only at h1 h2 h3
  have e0 := h3 (l.length - p + 1) (by omega)
  rw [strRun] at e0
  have hg := see_ge l p
  have hg1 := see_ge l (p + 1)
  have hbl := bytesOf_le out
  dsimp only
  conv => whnf
  repeat' first | ((first | refine Case.not ?_ | refine (yat_at l (by omega) p (by omega) _ p (by omega) (by omega) (by omega)).call ⟨⟨rfl, rfl, trivial⟩, rfl, rfl⟩ ?_ | refine (yat_at l (by omega) (p + 1) (by omega) _ (p + 1) (by omega) (by omega) (by omega)).call ⟨⟨rfl, rfl, trivial⟩, rfl, rfl⟩ ?_ | refine (yescaped l (by omega) p (by omega)).call ?_ | (refine Owes.mk (by simp [ptsF]; omega) ?_) | refine ybytes_call (by omega) (by omega) ?_ | refine AsBytes.mk (bytesOf out) rfl ?_ | refine Num.id (by omega) (by omega) ?_); conv => whnf) | (refine Case.dec (fun _ => ?_) (fun _ => ?_) <;> conv => whnf)
  ·rw [if_neg (by omega), if_neg (by omega), if_pos (by assumption)] at e0
   exact Fin.rd p (tok_scal { kind := 5 }) rfl ⟨by unfold strT; rw [← e0]; rfl, by unfold strP; rw [← e0]⟩
  ·rw [if_pos (by omega)] at e0
   exact Fin.rd p (tok_scal { kind := 4, text := bytesOf out }) rfl ⟨by unfold strT; rw [← e0]; rfl, by unfold strP; rw [← e0]⟩
  ·rw [if_neg (by omega), if_pos (by assumption)] at e0
   exact Fin.rd (p + 1) (tok_scal { kind := 4, text := bytesOf out }) rfl ⟨by unfold strT; rw [← e0]; rfl, by unfold strP; rw [← e0]⟩
  ·rw [if_neg (by omega), if_neg (by assumption), if_neg (by assumption), if_pos (by assumption), if_neg (by omega), if_pos (by assumption)] at e0
   have h4 := see_lt (l := l) (i := p + 1) (by omega)
   refine ⟨(p + 2, out), ⟨by dsimp only; omega, by dsimp only; omega, fun f hf => ?_⟩, by dsimp only; omega, ?_⟩
   ·dsimp only at hf ⊢
    rw [← e0]
    exact strRun_fuel l _ f _ _ _ hf (by omega)
   ·
    repeat' first | exact trivial | exact rfl | exact (by decide : 0 < 1) | exact Nat.le_refl _ | exact Nat.zero_lt_succ _ | apply And.intro
  ·rw [if_neg (by omega), if_neg (by assumption), if_neg (by assumption), if_pos (by assumption), if_pos (by omega)] at e0
   have h4 := see_lt (l := l) (i := p) (by omega)
   refine ⟨(p + 1, out), ⟨by dsimp only; omega, by dsimp only; omega, fun f hf => ?_⟩, by dsimp only; omega, ?_⟩
   ·dsimp only at hf ⊢
    rw [← e0]
    exact strRun_fuel l _ f _ _ _ hf (by omega)
   ·
    repeat' first | exact trivial | exact rfl | exact (by decide : 0 < 1) | exact Nat.le_refl _ | exact Nat.zero_lt_succ _ | apply And.intro
  ·rw [if_neg (by omega), if_neg (by assumption), if_neg (by assumption), if_pos (by assumption), if_neg (by omega), if_neg (by assumption)] at e0
   have h4 := escapedP_le (escape_of (l := l) (p := p) (by assumption) (by omega) (by assumption))
   refine ⟨(escapedP l p, out ++ [escapedV l p]), ⟨by dsimp only; omega, by dsimp only; rw [List.length_append]; simp; omega, fun f hf => ?_⟩, by dsimp only; omega, ?_⟩
   ·dsimp only at hf ⊢
    rw [bytesOf_snoc, ← e0]
    exact strRun_fuel l _ f _ _ _ hf (by omega)
   ·
    repeat' first | exact trivial | exact rfl | exact (by decide : 0 < 1) | exact Nat.le_refl _ | exact Nat.zero_lt_succ _ | apply And.intro | exact congrArg (D.own _ _ _) (by simp [ptsF]; done)
  ·rw [if_neg (by omega), if_neg (by assumption), if_neg (by assumption), if_neg (by assumption)] at e0
   have h4 := see_lt (l := l) (i := p) (by omega)
   refine ⟨(p + 1, out ++ [see l p]), ⟨by dsimp only; omega, by dsimp only; rw [List.length_append]; simp; omega, fun f hf => ?_⟩, by dsimp only; omega, ?_⟩
   ·dsimp only at hf ⊢
    rw [bytesOf_snoc, ← e0]
    exact strRun_fuel l _ f _ _ _ hf (by omega)
   ·
    repeat' first | exact trivial | exact rfl | exact (by decide : 0 < 1) | exact Nat.le_refl _ | exact Nat.zero_lt_succ _ | apply And.intro | exact congrArg (D.own _ _ _) (by simp [ptsF]; done)
end Go.Proofs.YtlhegfkpgchaeaaGreatDoor.Aw
