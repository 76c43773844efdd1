/- SameRules; SelSheet. -/
import Derived.Test.YtlhegfkpgchaeaaGreatDoorXqP
import Derived.Test.YtlhegfkpgchaeaaGreatDoorXyD
import Derived.Test.YtlhegfkpgchaeaaGreatDoorXlC
namespace Go.Proofs.YtlhegfkpgchaeaaGreatDoor.Aw
open Go Go.RowKit Go.Lib
set_option linter.unusedVariables false
set_option linter.unusedSimpArgs false
set_option maxRecDepth 100000
structure RuleOk (x : RuleV) : Prop where
 sels : SelOk 8 x.sels
 sets : x.sets.length < 1000000000
theorem rulesF_row {l : List RuleV} : ∀ e ∈ rulesF l, e.length = 2 := by simp [RuleV.row]
theorem setsW_len (l : List Dcl) : (setsW l).length ≤ l.length := by
 induction l with
 | nil => simp [setsW]
 | cons d l ih =>
  rw [setsW_cons, List.length_append]
  have := set1_len d
  simp
  omega
theorem rule1_ok {t : List Tok} (hl : t.length < 100000000) {x : RawV} (hx : RawOk t x) : ∀ r ∈ rule1 x, RuleOk r := by
 intro r hr
 unfold rule1 at hr
 split at hr
 ·have e := List.mem_singleton.1 hr
  have h1 := hx.pl
  have h2 := hx.bl
  have h3 := declsV_len x.block
  have h4 := setsW_len (declsV x.block)
  rw [e]
  refine ⟨?_, by dsimp only; omega⟩
  dsimp only
  rw [parse_same]
  exact rSelectors_ok (by omega)
 ·simp at hr
theorem sheetT_ok {t : List Tok} (hl : t.length < 100000000) : ∀ r ∈ sheetT t, RuleOk r := by
 intro r hr
 obtain ⟨x, hx, h⟩ := List.mem_flatMap.1 hr
 exact rule1_ok hl (rulesV_ok t x hx) r h
theorem rule1_len (x : RawV) : (rule1 x).length ≤ 1 := by
 unfold rule1
 split <;> simp
theorem flatMap_len (l : List RawV) : (l.flatMap rule1).length ≤ l.length := by
 induction l with
 | nil => simp
 | cons x l ih =>
  rw [List.flatMap_cons, List.length_append]
  have := rule1_len x
  rw [List.length_cons]
  omega
theorem sheetT_len (t : List Tok) : (sheetT t).length ≤ t.length := Nat.le_trans (flatMap_len _) (rulesV_len t)
set_option maxHeartbeats 2000000 in
theorem sameRules_spec (l : List RuleV) (hl : l.length < 1000000000) (ho : ∀ r ∈ l, RuleOk r) : Pure 6 [.f (.sl (rulesF l)), .f (.sl (rulesF l))] (bool true) := by
 have hlen : (rulesF l).length = l.length := List.length_map ..
 refine .mk trivial (spec_mk tab_ok Tryz.func6 (by rfl) rfl ?_)
 conv => whnf
 repeat' ((first | refine Case.not ?_ | refine Case.decT (by omega) ?_); conv => whnf)
 refine step_loop tab_ok (fun i : Nat => padK [.f (.sl (rulesF l)), .f (.sl (rulesF l)), .junk, .junk, .junk, int i] 43) (fun _ => []) 0 (fun i => i ≤ l.length) (fun i => l.length - i) 0 (by omega) (fun _ => rfl) ?_ ?_
 ·
  repeat' first | exact trivial | exact rfl | apply And.intro
 ·intro i hi
  by_cases h0 : i < l.length
  ·obtain ⟨r, hr⟩ : ∃ r, l[i]? = some r := ⟨_, List.getElem?_eq_getElem h0⟩
   have hok := ho r (List.mem_of_getElem? hr)
   have h1 := sameSelectors_spec 8 r.sels hok.sels
   have h2 := sameSets_spec r.sets hok.sets
   have hrr : (rulesF l)[i]? = some [.sl (r.sels.map selRow), .sl (setsF r.sets)] := by simp [hr, RuleV.row]
   conv => whnf
   repeat' ((first | refine Case.not ?_ | refine Case.yes ?_ | refine Case.decT (by omega) ?_ | refine Owes.mk rulesF_row ?_ | refine Elem.mk i _ rfl hrr ?_ | refine h1.callB ⟨rfl, rfl, rfl⟩ ?_ | refine h2.callB ⟨rfl, rfl, rfl⟩ ?_ | (refine step_kinds 2 ?hk ?_; (case hk => decide +kernel)) | refine Num.id (by omega) (by omega) ?_); conv => whnf)
   refine ⟨i + 1, by omega, by omega, ?_⟩
   repeat' first | exact trivial | exact rfl | apply And.intro
  ·conv => whnf
   repeat' (refine Case.decF (by omega) ?_; conv => whnf)
   exact Fin.isB rfl
theorem ofB_fit (bs : List UInt8) (hb : bs.length < 1000000) : Fit (ofB bs) := by
 have h2 := prepare_len bs
 exact tokens_fit _ (by omega)
set_option maxHeartbeats 2000000 in
theorem selSheet_spec (bs : List UInt8) : Pure 3 [.f (.sl (bs.map byteRow))] (bool true) := by
 have hlen : (bs.map byteRow).length = bs.length := by simp
 refine ⟨trivial, spec_mk tab_ok Tryz.func3 (by rfl) rfl ?_⟩
 by_cases hb : bs.length ≤ 70000
 ·have hf := ofB_fit bs (by omega)
  have h1 := ysheet_val bs (by omega) hf
  have h2 := rsheet_val bs (by omega) hf
  have h3 : ∀ r ∈ (if bs.length > 65536 then [] else sheetT (ofB bs)), RuleOk r := by
   split
   ·exact fun r h => by simp at h
   ·exact sheetT_ok hf.len
  have h4 : (if bs.length > 65536 then [] else sheetT (ofB bs)).length < 1000000000 := by
   have := sheetT_len (ofB bs)
   have := hf.len
   split
   ·simp
   ·omega
  have hq := sameRules_spec _ h4 h3
  generalize (if bs.length > 65536 then [] else sheetT (ofB bs)) = S at *
  conv => whnf
  repeat' first | ((first | refine Case.not ?_ | refine Case.yes ?_ | refine Case.no ?_ | refine Case.decT (by with_reducible assumption) ?_ | refine Case.decF (by with_reducible assumption) ?_ | refine Case.decF (by omega) ?_ | refine alive_spec.call rfl ?_ | refine h1.call ?_ | refine h2.call ?_ | refine hq.call ⟨rfl, rfl, rfl⟩ ?_); conv => whnf) | (refine Case.dec (fun _ => ?_) (fun _ => ?_) <;> conv => whnf)
  all_goals exact Fin.isB rfl
 ·conv => whnf
  repeat' ((first | refine Case.not ?_ | refine Case.yes ?_ | refine Case.decT (by omega) ?_ | refine Case.decF (by omega) ?_ | refine alive_spec.call rfl ?_); conv => whnf)
  all_goals exact Fin.isB rfl
end Go.Proofs.YtlhegfkpgchaeaaGreatDoor.Aw
