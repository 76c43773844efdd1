/- SelRules. -/
import Derived.Test.YtlhegfkpgchaeaaGreatDoorXqQ
import Derived.Test.YtlhegfkpgchaeaaGreatDoorXnB
import Derived.Test.YtlhegfkpgchaeaaGreatDoorXyQ
namespace Go.Proofs.YtlhegfkpgchaeaaGreatDoor.Aw
open Go Go.RowKit Go.Lib
set_option linter.unusedVariables false
set_option linter.unusedSimpArgs false
set_option maxRecDepth 100000
def qB : ByteArray := ⟨#[32, 113, 123, 125]⟩
theorem prepare_q (a b : List UInt8) : prepare (a ++ 32 :: 113 :: 123 :: 125 :: b) = prepare a ++ [32, 113, 123, 125] ++ prepare b := by
 rw [prepare_app (by decide) (by decide), prepare_cons (by decide) (by decide), prepare_cons (by decide) (by decide), prepare_cons (by decide) (by decide), prepare_cons (by decide) (by decide), List.append_assoc]
 rfl
def nRule (x : RawV) : Nat := (rule1 x).length
theorem nRule_pre (x y : RawV) (h : x.pre = y.pre) : nRule x = nRule y := by
 unfold nRule rule1
 rw [h]
 split <;> rfl
theorem cntR_len (l : List RawV) : cntR nRule l = (l.flatMap rule1).length := by
 induction l with
 | nil => rfl
 | cons x l ih =>
  rw [cntR_cons, ih, List.flatMap_cons, List.length_append]
  rfl
theorem sheet_parts (a b : List UInt8) (h : (sheetT (ofB (a ++ [32, 113, 123, 125]))).length = (sheetT (ofB a)).length + 1) :
  sheetT (ofB (a ++ [32, 113, 123, 125] ++ b)) = sheetT (ofB (a ++ [32, 113, 123, 125])) ++ sheetT (ofB b) := by
 have e0 : prepare (a ++ [32, 113, 123, 125]) = prepare a ++ [32, 113, 123, 125] := by
  have := prepare_q a []
  rw [show prepare [] = [] from rfl, List.append_nil] at this
  exact this
 have e1 : prepare (a ++ [32, 113, 123, 125] ++ b) = prepare a ++ [32, 113, 123, 125] ++ prepare b := by
  rw [List.append_assoc]
  exact prepare_q a b
 unfold ofB at *
 rw [e0] at h ⊢
 rw [e1]
 unfold sheetT at *
 rw [← cntR_len, ← cntR_len] at h
 rw [rules_seam nRule_pre _ _ h, List.flatMap_append]
set_option maxHeartbeats 4000000 in
theorem selRules_spec (a b : List UInt8) : Pure 4 [.f (.sl (a.map byteRow)), .f (.sl (b.map byteRow))] (bool true) := by
 have hal : (a.map byteRow).length = a.length := List.length_map ..
 have hbl : (b.map byteRow).length = b.length := List.length_map ..
 refine ⟨trivial, spec_mk tab_ok Tryz.func4 (by rfl) rfl ?_⟩
 conv => whnf
 repeat' first | ((first | refine Case.not ?_ | refine Case.yes ?_ | refine Case.decT (by with_reducible assumption) ?_ | refine Case.decF (by with_reducible assumption) ?_ | refine alive_spec.call rfl ?_); conv => whnf) | (refine Case.dec (fun _ => ?_) (fun _ => ?_) <;> conv => whnf)
 ·exact Fin.isB rfl
 ·exact Fin.isB rfl
 ·have hl : a.length ≤ 600 ∧ b.length ≤ 600 := by omega
  have lx : (a ++ [32, 113, 123, 125]).length = a.length + 4 := by simp
  have ly : (a ++ [32, 113, 123, 125] ++ b).length = a.length + 4 + b.length := by rw [List.length_append, lx]
  have hfx := ofB_fit (a ++ [32, 113, 123, 125]) (by omega)
  have hfy := ofB_fit (a ++ [32, 113, 123, 125] ++ b) (by omega)
  have hfa := ofB_fit a (by omega)
  have hfb := ofB_fit b (by omega)
  have vx := rsheet_val _ (by omega) hfx
  have va := rsheet_val _ (by omega) hfa
  have vy := ysheet_val _ (by omega) hfy
  have vb := ysheet_val _ (by omega) hfb
  rw [if_neg (by omega)] at vx va vy vb
  have nx := sheetT_len (ofB (a ++ [32, 113, 123, 125]))
  have nb := sheetT_len (ofB b)
  have na := sheetT_len (ofB a)
  have tx := tokens_len (prepare (a ++ [32, 113, 123, 125]))
  have px := prepare_len (a ++ [32, 113, 123, 125])
  have tb := tokens_len (prepare b)
  have pb := prepare_len b
  have hsame := sheet_parts a b
  have okx := sheetT_ok (t := ofB (a ++ [32, 113, 123, 125])) hfx.len
  have okb := sheetT_ok (t := ofB b) hfb.len
  have zx : (ofB (a ++ [32, 113, 123, 125])).length ≤ 700 := by unfold ofB; omega
  have zb : (ofB b).length ≤ 700 := by unfold ofB; omega
  have za := hfa.len
  have eX : (a ++ [32, 113, 123, 125] : List UInt8).map byteRow = a.map byteRow ++ qB.data.toList.map byteRow := by simp [qB]
  have eY : (a ++ [32, 113, 123, 125] ++ b : List UInt8).map byteRow = a.map byteRow ++ qB.data.toList.map byteRow ++ b.map byteRow := by simp [qB]
  rw [eX] at vx
  rw [eY] at vy
  generalize sheetT (ofB (a ++ [32, 113, 123, 125])) = SX at *
  generalize sheetT (ofB (a ++ [32, 113, 123, 125] ++ b)) = SY at *
  generalize sheetT (ofB a) = SA at *
  generalize sheetT (ofB b) = SB at *
  have lA : (rulesF SA).length = SA.length := List.length_map ..
  have lX : (rulesF SX).length = SX.length := List.length_map ..
  have lB : (rulesF SB).length = SB.length := List.length_map ..
  by_cases hn : SX.length = SA.length + 1
  ·have eS := hsame hn
   rw [eS] at vy
   have hq := sameRules_spec (SX ++ SB) (by rw [List.length_append]; omega) (fun r hr => (List.mem_append.1 hr).elim (okx r) (okb r))
   have hq2 : Pure 6 [.f (.sl (rulesF (SX ++ SB))), .f (.sl (rulesF SX ++ rulesF SB))] (bool true) := by
    have e : rulesF SX ++ rulesF SB = rulesF (SX ++ SB) := by simp [rulesF]
    rw [e]
    exact hq
   clear hq hsame eS
   obtain ⟨r, hr⟩ : ∃ r, SX[SA.length]? = some r := ⟨_, List.getElem?_eq_getElem (by omega)⟩
   obtain ⟨sels, sets⟩ := r
   have hrr : (rulesF SX)[SA.length]? = some [.sl (sels.map selRow), .sl (setsF sets)] := by simp [hr, RuleV.row]
   clear hr
   have hxr : ∀ r ∈ a.map byteRow ++ qB.data.toList.map byteRow, r.length = 1 := fun r hr => (List.mem_append.1 hr).elim (byteRow_len r) (byteRow_len r)
   rcases sets with _ | ⟨x, sets⟩
   ·rcases sels with _ | ⟨s, ss⟩
    ·
     repeat' ((first | refine Case.not ?_ | refine Case.yes ?_ | refine Case.no ?_ | refine Case.decT (by omega) ?_ | refine Owes.mk byteRow_len ?_ | (refine Owes.mk (by simp; omega) ?_) | refine call_freeze 0 (vx.call ?_) | refine va.call ?_ | refine Owes.mk rulesF_row ?_ | refine Elem.mk SA.length _ (by omega) hrr ?_ | refine Num.id (by omega) (by omega) ?_); conv => whnf)
     all_goals exact Fin.isB rfl
    ·rcases s with _ | ⟨p, ps⟩
     ·
      repeat' first
       | (refine Case.not ?_; conv => whnf)
       | (refine Case.yes ?_; conv => whnf)
       | (refine Case.no ?_; conv => whnf)
       | (refine Case.decT (by with_reducible assumption) ?_; conv => whnf)
       | (refine Case.decF (by with_reducible assumption) ?_; conv => whnf)
       | (refine Case.decT (by omega) ?_; conv => whnf)
       | (refine Owes.mk byteRow_len ?_; conv => whnf)
       | (refine Owes.mk (by simp; omega) ?_; conv => whnf)
       | (refine call_freeze 0 (vx.call ?_); conv => whnf)
       | (refine va.call ?_; conv => whnf)
       | (refine Owes.mk rulesF_row ?_; conv => whnf)
       | (refine Elem.mk SA.length _ (by omega) hrr ?_; conv => whnf)
       | (refine Owes.mk sels_row ?_; conv => whnf)
       | (refine Elem.mk 0 _ rfl rfl ?_; conv => whnf)
       | (refine Num.id (by omega) (by omega) ?_; conv => whnf)
       | (refine Case.dec (fun _ => ?_) (fun _ => ?_) <;> conv => whnf)
      all_goals exact Fin.isB rfl
     ·
      repeat' first
       | (refine Case.not ?_; conv => whnf)
       | (refine Case.yes ?_; conv => whnf)
       | (refine Case.no ?_; conv => whnf)
       | (refine Case.decT (by with_reducible assumption) ?_; conv => whnf)
       | (refine Case.decF (by with_reducible assumption) ?_; conv => whnf)
       | (refine Case.decT (by omega) ?_; conv => whnf)
       | (refine Owes.mk byteRow_len ?_; conv => whnf)
       | (refine Owes.mk hxr ?_; conv => whnf)
       | (refine Owes.mk (by simp; omega) ?_; conv => whnf)
       | (refine call_freeze 0 (vx.call ?_); conv => whnf)
       | (refine va.call ?_; conv => whnf)
       | (refine Owes.mk rulesF_row ?_; conv => whnf)
       | (refine Elem.mk SA.length _ (by omega) hrr ?_; conv => whnf)
       | (refine Owes.mk sels_row ?_; conv => whnf)
       | (refine Owes.mk parts_row ?_; conv => whnf)
       | (refine Elem.mk 0 _ rfl rfl ?_; conv => whnf)
       | (refine Elem.mk 0 _ rfl (rowAt (by omega)) ?_; conv => whnf)
       | (refine call_freeze 1 (vy.call ?_); conv => whnf)
       | (refine vb.call ?_; conv => whnf)
       | (refine hq2.call ⟨rfl, rfl, rfl⟩ ?_; conv => whnf)
       | (refine Num.id (by omega) (by omega) ?_; conv => whnf)
       | (refine Case.strI (fun _ => ?_) (fun _ => ?_) <;> conv => whnf)
       | (refine Case.dec (fun _ => ?_) (fun _ => ?_) <;> conv => whnf)
      all_goals exact Fin.isB rfl
   ·
    repeat' ((first | refine Case.not ?_ | refine Case.yes ?_ | refine Case.no ?_ | refine Case.decT (by omega) ?_ | refine Owes.mk byteRow_len ?_ | (refine Owes.mk (by simp; omega) ?_) | refine call_freeze 0 (vx.call ?_) | refine va.call ?_ | refine Owes.mk rulesF_row ?_ | refine Elem.mk SA.length _ (by omega) hrr ?_ | refine Num.id (by omega) (by omega) ?_); conv => whnf)
    all_goals exact Fin.isB rfl
  ·
   repeat' ((first | refine Case.not ?_ | refine Case.yes ?_ | refine Case.decF (by omega) ?_ | refine Owes.mk byteRow_len ?_ | (refine Owes.mk (by simp; omega) ?_) | refine call_freeze 0 (vx.call ?_) | refine va.call ?_ | refine Num.id (by omega) (by omega) ?_); conv => whnf)
   all_goals exact Fin.isB rfl
end Go.Proofs.YtlhegfkpgchaeaaGreatDoor.Aw
