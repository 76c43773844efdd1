/- The tokens' laws' own small functions: Of, alive. -/
import Derived.Test.YtlhegfkpgchaeaaGreatDoorAwB
import Derived.Test.YtlhegfkpgchaeaaGreatDoorAwGl
import Derived.Test.YtlhegfkpgchaeaaGreatDoorAwVD
import Derived.Test.YtlhegfkpgchaeaaGreatDoorXyK
import Derived.Test.YtlhegfkpgchaeaaGreatDoorXkT
import Derived.Shelf.Spec.DecodeRune
import Derived.Tactics
import Derived.WalkKit
import Derived.KernelRfl
namespace Go.Proofs.YtlhegfkpgchaeaaGreatDoor.Aw
open Go Go.RowKit Go.Lib Go.Shelf
set_option linter.unusedVariables false
set_option maxRecDepth 100000
def ydec_ren : Go.Shelf.Ren := ⟨fun | 32 => 65 | 49 => 110 | n => n, fun | 0 => 0 | 3 => 3 | 4 => 4 | 5 => 5 | 21 => 21 | 25 => 143 | 30 => 22 | 33 => 112 | 66 => 150 | 68 => 152 | 69 => 153 | n => n, fun | 2 => 0 | 3 => 1 | n => n⟩
theorem ydec_lays : Go.Proofs.Lays7.n32 Tryz.prog ydec_ren := {
 mixed := by kernel_rfl
 f32 := Tryz.func65.trans (congrArg some (by kernel_rfl))
 f49 := Tryz.func110.trans (congrArg some (by kernel_rfl))
 t0 := Tryz.underlying0
 a0 := Tryz.isAgg0
 z0 := Tryz.sizeOf0
 v0 := Tryz.zeroValue0
 i0 := by kernel_rfl
 t3 := Tryz.underlying3
 a3 := Tryz.isAgg3
 z3 := Tryz.sizeOf3
 v3 := Tryz.zeroValue3
 i3 := by kernel_rfl
 t4 := Tryz.underlying4
 a4 := Tryz.isAgg4
 z4 := Tryz.sizeOf4
 v4 := Tryz.zeroValue4
 i4 := by kernel_rfl
 t5 := Tryz.underlying5
 a5 := Tryz.isAgg5
 z5 := Tryz.sizeOf5
 v5 := Tryz.zeroValue5
 i5 := by kernel_rfl
 t21 := Tryz.underlying21
 a21 := Tryz.isAgg21
 z21 := Tryz.sizeOf21
 v21 := Tryz.zeroValue21
 i21 := by kernel_rfl
 t25 := Tryz.underlying143
 a25 := Tryz.isAgg143
 z25 := Tryz.sizeOf143
 v25 := Tryz.zeroValue143
 i25 := by kernel_rfl
 t30 := Tryz.underlying22
 a30 := Tryz.isAgg22
 z30 := Tryz.sizeOf22
 v30 := Tryz.zeroValue22
 i30 := by kernel_rfl
 t33 := Tryz.underlying112
 a33 := Tryz.isAgg112
 z33 := Tryz.sizeOf112
 v33 := Tryz.zeroValue112
 i33 := by kernel_rfl
 t66 := Tryz.underlying150
 a66 := Tryz.isAgg150
 z66 := Tryz.sizeOf150
 t68 := Tryz.underlying152
 a68 := Tryz.isAgg152
 z68 := Tryz.sizeOf152
 v68 := Tryz.zeroValue152
 i68 := by kernel_rfl
 t69 := Tryz.underlying153
 a69 := Tryz.isAgg153
 z69 := Tryz.sizeOf153
 v69 := Tryz.zeroValue153
 i69 := by kernel_rfl
 g2 := by kernel_rfl
 g3 := by kernel_rfl }
theorem ydec (s : ByteArray) (b off cap : Nat) (w : World) (hT : Lib.Utf8Tabs 0 1 w) (hp : ∀ j, j < s.size → w.cell? ⟨b, off + j, none⟩ = some (.int .u8 (s.get! j).toNat)) : Calls Tryz.prog 65 #[.slice (some ⟨b, off, none⟩) s.size cap] w fun e w' => e = .returned (.tuple #[.int .i32 (Lib.decodeGo s).1, .int .i64 (Lib.decodeGo s).2]) ∧ Below w.heap.size w w' := Any7.utf8_DecodeRune (ρ := ydec_ren) ydec_lays s b off cap w hT hp
theorem ydecode (bs : List UInt8) (h0 : 1 ≤ bs.length) : Val 65 [.f (.sl (bs.map byteRow))] (.tup [.f (.v (.int .i32 (pointV bs).1)), int (pointV bs).2]) := by
 refine ⟨rfl, ⟨trivial, trivial⟩, rfl, ⟨_, Tryz.func65, by rfl, rfl⟩, fun c w vs hC hr => ?_⟩
 unfold RepL at hr
 obtain ⟨v, vs', rfl, h1, h2⟩ := hr
 unfold RepL at h2
 subst h2
 have hp : (bs.map byteRow).length = bs.length := by simp
 unfold Rep RepF at h1
 rcases h1 with ⟨⟨a, rfl⟩, he⟩ | ⟨b, o, cap, rfl, hc, him, hrr⟩
 ·rw [he] at hp
  simp at hp
  omega
 ·rw [hp]
  have hz : (⟨bs.toArray⟩ : ByteArray).size = bs.length := rfl
  have hd : (((Lib.decodeGo ⟨bs.toArray⟩).1 : Int), (Lib.decodeGo ⟨bs.toArray⟩).2) = pointV bs := by
   unfold Lib.decodeGo
   rw [if_neg (by rw [hz]; omega), decode_decL, decL_point]
  have hw := ydec ⟨bs.toArray⟩ b o cap w hC.glob.tab.utf (fun j hj => by
   have hj' : j < bs.length := hj
   have hg : (bs.map byteRow)[j]? = some (byteRow (bs.getD j 0)) := by
    rw [List.getElem?_map, List.getD_eq_getElem?_getD, List.getElem?_eq_getElem hj']
    rfl
   have h3 := hrr.get (s := 1) (by intro e he; obtain ⟨x, _, rfl⟩ := List.mem_map.1 he; rfl) j _ hg
   unfold byteRow RepC at h3
   obtain ⟨⟨y, h4, h5⟩, _⟩ := h3
   unfold RepF at h5
   rw [h5.1] at h4
   have h6 := get_at bs j
   rw [Nat.zero_add] at h6
   rw [h6]
   unfold bAt
   simpa using h4)
  rw [hz] at hw
  refine hw.mono ?_
  rintro e w' ⟨rfl, hb⟩
  obtain ⟨hC', hk⟩ := hC.grow hb
  refine ⟨_, _, [], c, ⟨rfl, rfl⟩, rfl, rfl, hC', ?_⟩
  unfold Rep
  refine ⟨_, rfl, ?_⟩
  rw [show (Lib.decodeGo ⟨bs.toArray⟩).2 = (pointV bs).2 by rw [← hd], show ((Lib.decodeGo ⟨bs.toArray⟩).1 : Int) = (pointV bs).1 by rw [← hd]]
  exact repL_cons (rep_of _ rfl) (repL_cons (rep_of _ rfl) repL_nil)
open Go Go.RowKit Go.Lib
set_option linter.unusedSimpArgs false
structure CapOk3 (cap : List D) : Prop where
 ren : renL [0, 1, 2] [0] cap = cap
 kill : killsL [0] cap = cap
 ref : refL 3 1 cap
 into : ∀ a, intoL a 1 3 cap cap
abbrev bbox (bs : List UInt8) : Option Cells := some [.f (.sl (bs.map byteRow))]
def TextY (lb : Nat) (ps : List Nat) (x y : Code) (cap : List D) : Prop := ∀ (out : List Int) (last c : Int) (bs : List UInt8), out.length < 200000000 →
 YSpec P lb ps x y cap [int c] [some [intsD out], some [int last], bbox bs] 1 (fun d H => d = .f (.v (.bool true)) ∧ H = [some [intsD (out ++ lineC last c)], some [int c], bbox bs])
theorem text_yield {lb : Nat} {ps : List Nat} {x y : Code} {cap : List D} (hc : CapOk3 cap) (hY : TextY lb ps x y cap) {out : List Int} {last c : Int} {bs : List UInt8} (ho : out.length < 200000000) {E : List D} {H : Hp} {K : KD}
  (h : killsK [0] E fun E => killsHK [0] H fun H => K (.f (.v (.bool true))) E (some [intsD (out ++ lineC last c)] :: some [int c] :: bbox bs :: H) 1) : YStep P lb ps x y cap [int c] E (some [intsD out] :: some [int last] :: bbox bs :: H) 1 K := by
 rw [killsK_eq, killsHK_eq] at h
 have := YSpec.step (E := E) (H := some [intsD out] :: some [int last] :: bbox bs :: H) (n := 1) (K := K) [0, 1, 2] [0] (hY out last c bs ho) (by simp) (by simp) (by simp) (by simp) (by
  unfold fitH fitH fitH fitH
  exact ⟨⟨rfl, ⟨Nat.zero_lt_one, trivial⟩⟩, ⟨rfl, ⟨trivial, trivial⟩⟩, ⟨rfl, ⟨trivial, trivial⟩⟩, trivial⟩) ⟨hc.ref, trivial, trivial⟩ (by
  rintro d Hs' ⟨rfl, rfl⟩ _
  exact h)
 rw [hc.ren] at this
 exact this
theorem lineC_len (last c : Int) : (lineC last c).length ≤ 1 := by
 unfold lineC
 repeat' split
 all_goals simp
theorem pointV_range (bs : List UInt8) : 0 ≤ (pointV bs).1 ∧ (pointV bs).1 ≤ 1114111 := by
 have b0 := bAt_le bs 0
 have b1 := bAt_le bs 1
 have b2 := bAt_le bs 2
 have b3 := bAt_le bs 3
 unfold pointV
 rw [pointK2, pointK3, pointK4]
 repeat' split
 all_goals dsimp only
 all_goals first
  | omega
  | (rename_i h; rw [not_or] at h; have h' := h.2; rw [Bool.not_eq_false] at h'; have := right_le h'; omega)
theorem bytes_row {l : List UInt8} : ∀ e ∈ l.map byteRow, e.length = 1 := by simp [byteRow]
structure EachT (bs : List UInt8) (s : Nat × List Int × Int) : Prop where
 p : s.1 ≤ bs.length
 o : s.2.1.length ≤ s.1
 run : ∀ f, bs.length - s.1 < f → s.2.1 ++ pprep s.2.2 (ptsRun bs f s.1 []) = prep (points bs)
set_option maxHeartbeats 1000000 in
theorem seach1 (bs : List UInt8) (hl : bs.length < 100000000) {lb : Nat} {ps : List Nat} {x y : Code} {cap : List D} (hc : CapOk3 cap) (hY : TextY lb ps x y cap) :
  Spec P 64 [.yl lb ps x y cap, .ptr 2 0] [some [intsD []], some [int 0], bbox bs] 1 (fun d H => ∃ last, H = [some [intsD (prep (points bs))], some [int last], bbox []]) := by
 refine spec_mkY tab_ok Tryz.func64 (by rfl) rfl ?_
 conv => whnf
 repeat' first
  | (refine Case.not ?_; conv => whnf)
  | (refine Case.yes ?_; conv => whnf)
  | (refine Case.no ?_; conv => whnf)
  | (refine Case.isTrue (by assumption) ?_; conv => whnf)
  | (refine Case.isFalse (by assumption) ?_; conv => whnf)
  | (refine Case.decT (by assumption) ?_; conv => whnf)
  | (refine Case.decF (by assumption) ?_; conv => whnf)
  | (refine Case.decT (by omega) ?_; conv => whnf)
  | (refine Case.decF (by omega) ?_; conv => whnf)
  | (refine Case.beqT (by omega) ?_; conv => whnf)
  | (refine Case.beqF (by omega) ?_; conv => whnf)
  | (refine Num.id (by omega) (by omega) ?_; conv => whnf)
  | (refine Case.dec (fun _ => ?_) (fun _ => ?_) <;> conv => whnf)
  | (refine Case.beqI (fun _ => ?_) (fun _ => ?_) <;> conv => whnf)
  | (refine Case.mk (fun _ => ?_) (fun _ => ?_) <;> conv => whnf)
  | (refine Way.fst ?_; conv => whnf)
 refine step_loopY tab_ok (fun s : Nat × List Int × Int => padK [.yl lb ps x y cap, .ptr 2 0] 21) (fun s => [some [intsD s.2.1], some [int s.2.2], bbox (bs.drop s.1)]) 1 (EachT bs) (fun s => bs.length - s.1) (0, [], 0) ⟨by simp, by simp, fun f hf => by
  dsimp only
  rw [List.nil_append, pprep_prep]
  unfold points
  rw [ptsRun_fuel bs f (bs.length + 1) 0 [] hf (by omega)]⟩ (fun _ => rfl) ?_ ?_
 ·
  repeat' first | exact trivial | exact rfl | exact Nat.zero_lt_succ _ | exact (by decide : 2 < 3) | apply And.intro
  all_goals exact hc.into _
 ·rintro ⟨i, out, last⟩ ⟨h1, h2, h3⟩
  simp only at h1 h2 h3
  have hlen : ((bs.drop i).map byteRow).length = bs.length - i := by simp
  have e0 := h3 (bs.length - i + 1) (by omega)
  rw [ptsRun] at e0
  dsimp only
  conv => whnf
  by_cases hin : i < bs.length
  ·have hpv := pointV_drop hin
   have hr := pointV_range (bs.drop i)
   rw [if_pos hin, ptsRun_acc, List.nil_append, List.singleton_append, pprep, ← List.append_assoc] at e0
   have hll := lineC_len last (pointV (bs.drop i)).1
   have hsl : (((bs.drop i).map byteRow).take (bs.length - i)).drop (pointV (bs.drop i)).2 = (bs.drop (i + (pointV (bs.drop i)).2)).map byteRow := by
    rw [List.take_of_length_le (by rw [hlen]; exact Nat.le_refl _), ← List.map_drop, List.drop_drop]
   repeat' ((first | refine Case.not ?_ | refine Case.yes ?_ | refine Case.decT (by omega) ?_ | (refine (ydecode (bs.drop i) (by rw [List.length_drop]; omega)).call ?_) | refine Num.id (by omega) (by omega) ?_ | refine text_yield hc hY (by omega) ?_ | refine Owes.mk bytes_row ?_ | (refine Part.mk (pointV (bs.drop i)).2 (bs.length - i) rfl (by rw [hlen]) (by omega) (by rw [hlen]; omega) ?_) | rw [hsl]); conv => whnf)
   refine ⟨(i + (pointV (bs.drop i)).2, out ++ lineC last (pointV (bs.drop i)).1, (pointV (bs.drop i)).1), ⟨hpv.2, by dsimp only; rw [List.length_append]; omega, fun f hf => ?_⟩, by dsimp only; omega, ?_⟩
   ·dsimp only at hf ⊢
    rw [← e0, ptsRun_fuel bs f (bs.length - i) _ [] hf (by omega)]
   ·rw [hc.kill]
    repeat' first | exact trivial | exact rfl | exact Nat.zero_lt_succ _ | exact (by decide : 2 < 3) | apply And.intro
    all_goals exact hc.into _
  ·have hpe : i = bs.length := by omega
   have hd : bs.drop i = [] := by rw [hpe]; simp
   rw [if_neg hin, pprep, List.append_nil] at e0
   repeat' (refine Case.decF (by omega) ?_; conv => whnf)
   refine Fin.mk (.tup []) [some [intsD (prep (points bs))], some [int last], bbox []] ⟨last, rfl⟩ rfl ?_
   rw [← e0, ← hd]
   repeat' first | exact trivial | exact rfl | exact Nat.zero_lt_succ _ | apply And.intro
theorem fnOk_eachS : FnOk P 33 := ⟨_, Tryz.func33, by rfl, rfl⟩
theorem yeachS (a : Option Addr) (n cap : Nat) (w : World) : Calls Tryz.prog 33 #[.slice a n cap] w fun e w' => e = .returned (.func (.func 64) #[] #[.pointer (some ⟨w.heap.size, 0, none⟩)]) ∧ w' = w.alloc (.cells #[.slice a n cap] 22) := by
 go_enter Tryz.func33, Tryz.ntmps33
 go_wp2
 go_ret
 exact ⟨rfl, rfl⟩
set_option maxHeartbeats 2000000 in
theorem yprepare (bs : List UInt8) (hl : bs.length < 100000000) : Spec P 15 [.f (.sl (bs.map byteRow))] [] 0 (fun d H => d = .f (.sl (ptsF (prep (points bs)))) ∧ H = []) := by
 refine spec_mkM tab_ok Tryz.func15 (by rfl) rfl ?_
 conv => whnf
 repeat' (refine box_call fnOk_eachS yeachS ?_; conv => whnf)
 refine RangeK.into (E' := padK [.f (.sl (bs.map byteRow)), .junk, .junk, .ptr 0 0, .ptr 1 0, .junk, .junk, .fn 64 [.ptr 2 0]] 38) (H' := [some [intsD []], some [int 0], bbox bs]) (n' := 1) rfl ?_ ?_
 ·
  repeat' first | exact trivial | exact rfl | exact Nat.zero_le _ | exact Nat.zero_lt_succ _ | exact (by decide : 2 < 3) | (show _ < List.length _; simp; done) | apply And.intro
  all_goals skip
 ·refine range_mk [0, 1, 2] [0] rfl (fun lb => seach1 bs hl (cap := padK [.f (.sl (bs.map byteRow)), .junk, .junk, .ptr 0 0, .ptr 1 0, .junk, .junk, .fn 64 [.ptr 2 0]] 38) ⟨rfl, rfl, ?_, fun a => ?_⟩ (fun out last c bs' ho => yspec_mk tab_ok rfl ?_)) (fun _ => rfl) (by simp) (by simp) (by simp) (by simp) ?_ ?_ ?_
  ·simp [refL, refD, padK]
  ·
   repeat' first | exact trivial | exact rfl | exact Nat.zero_lt_succ _ | exact (by decide : 2 < 3) | apply And.intro
   all_goals decide
  ·have l2 : (ptsF out).length = out.length := ptsF_length out
   conv => whnf
   repeat' first
    | (refine Case.not ?_; conv => whnf)
    | (refine Case.yes ?_; conv => whnf)
    | (refine Case.no ?_; conv => whnf)
    | (refine Case.isTrue (by assumption) ?_; conv => whnf)
    | (refine Case.isFalse (by assumption) ?_; conv => whnf)
    | (refine Case.decT (by assumption) ?_; conv => whnf)
    | (refine Case.decF (by assumption) ?_; conv => whnf)
    | (refine Case.decT (by omega) ?_; conv => whnf)
    | (refine Case.decF (by omega) ?_; conv => whnf)
    | (refine Case.beqT (by omega) ?_; conv => whnf)
    | (refine Case.beqF (by omega) ?_; conv => whnf)
    | (refine Num.id (by omega) (by omega) ?_; conv => whnf)
    | (refine Case.dec (fun _ => ?_) (fun _ => ?_) <;> conv => whnf)
    | (refine Case.beqI (fun _ => ?_) (fun _ => ?_) <;> conv => whnf)
    | (refine Case.mk (fun _ => ?_) (fun _ => ?_) <;> conv => whnf)
    | (refine Way.fst ?_; conv => whnf)
   refine ⟨rfl, rfl, ?_⟩
   conv => whnf
   by_cases a1 : c = 10
   ·by_cases a2 : last = 13
    ·have hb : lineC last c = [] := by simp [lineC, a1, a2]
     repeat' (refine Case.decT (by assumption) ?_; conv => whnf)
     all_goals refine ⟨rfl, Fin.mk (.f (.v (.bool true))) [some [intsD (out ++ lineC last c)], some [int c], bbox bs'] ⟨rfl, rfl⟩ rfl ?_⟩
     all_goals rw [hb, List.append_nil]
     all_goals
      repeat' first | exact trivial | exact rfl | exact Nat.zero_lt_succ _ | apply And.intro
    ·have hb : lineC last c = [c] := by simp [lineC, a1, a2]
     repeat' ((first | refine Case.decT (by assumption) ?_ | refine Case.decF (by assumption) ?_ | refine Case.decF (by omega) ?_ | (refine Owes.mk (by simp; omega) ?_)); conv => whnf)
     all_goals refine ⟨rfl, Fin.mk (.f (.v (.bool true))) [some [intsD (out ++ lineC last c)], some [int c], bbox bs'] ⟨rfl, rfl⟩ rfl ?_⟩
     all_goals rw [hb]
     all_goals
      repeat' first | exact trivial | exact rfl | exact Nat.zero_lt_succ _ | exact congrArg (D.own _ _ _) (by simp [ptsF]; done) | apply And.intro
   by_cases a3 : c = 13
   ·have hb : lineC last c = [10] := by simp [lineC, a3]
    repeat' ((first | refine Case.yes ?_ | refine Case.no ?_ | refine Case.decT (by assumption) ?_ | refine Case.decF (by assumption) ?_ | (refine Owes.mk (by simp; omega) ?_)); conv => whnf)
    all_goals refine ⟨rfl, Fin.mk (.f (.v (.bool true))) [some [intsD (out ++ lineC last c)], some [int c], bbox bs'] ⟨rfl, rfl⟩ rfl ?_⟩
    all_goals rw [hb]
    all_goals
     repeat' first | exact trivial | exact rfl | exact Nat.zero_lt_succ _ | exact congrArg (D.own _ _ _) (by simp [ptsF]; done) | apply And.intro
   by_cases a4 : c = 12
   ·have hb : lineC last c = [10] := by simp [lineC, a4]
    repeat' ((first | refine Case.no ?_ | refine Case.decT (by assumption) ?_ | refine Case.decF (by assumption) ?_ | (refine Owes.mk (by simp; omega) ?_)); conv => whnf)
    all_goals refine ⟨rfl, Fin.mk (.f (.v (.bool true))) [some [intsD (out ++ lineC last c)], some [int c], bbox bs'] ⟨rfl, rfl⟩ rfl ?_⟩
    all_goals rw [hb]
    all_goals
     repeat' first | exact trivial | exact rfl | exact Nat.zero_lt_succ _ | exact congrArg (D.own _ _ _) (by simp [ptsF]; done) | apply And.intro
   by_cases a5 : c = 0
   ·have hb : lineC last c = [65533] := by simp [lineC, a5]
    repeat' ((first | refine Case.no ?_ | refine Case.decT (by assumption) ?_ | refine Case.decF (by assumption) ?_ | (refine Owes.mk (by simp; omega) ?_)); conv => whnf)
    all_goals refine ⟨rfl, Fin.mk (.f (.v (.bool true))) [some [intsD (out ++ lineC last c)], some [int c], bbox bs'] ⟨rfl, rfl⟩ rfl ?_⟩
    all_goals rw [hb]
    all_goals
     repeat' first | exact trivial | exact rfl | exact Nat.zero_lt_succ _ | exact congrArg (D.own _ _ _) (by simp [ptsF]; done) | apply And.intro
   ·have hb : lineC last c = [c] := by simp [lineC, a1, a3, a4, a5]
    repeat' ((first | refine Case.no ?_ | refine Case.decF (by assumption) ?_ | (refine Owes.mk (by simp; omega) ?_)); conv => whnf)
    all_goals refine ⟨rfl, Fin.mk (.f (.v (.bool true))) [some [intsD (out ++ lineC last c)], some [int c], bbox bs'] ⟨rfl, rfl⟩ rfl ?_⟩
    all_goals rw [hb]
    all_goals
     repeat' first | exact trivial | exact rfl | exact Nat.zero_lt_succ _ | exact congrArg (D.own _ _ _) (by simp [ptsF]; done) | apply And.intro
  ·unfold fitH fitH fitH fitH
   exact ⟨⟨rfl, ⟨Nat.zero_lt_one, trivial⟩⟩, ⟨rfl, ⟨trivial, trivial⟩⟩, ⟨rfl, ⟨trivial, trivial⟩⟩, trivial⟩
  ·intro lb; simp [refL, refD, padK]
  ·rintro d Hs' ⟨last, rfl⟩ _
   refine ⟨rfl, rfl, fun D => ?_⟩
   conv => whnf
   repeat' first
    | (refine Case.not ?_; conv => whnf)
    | (refine Case.yes ?_; conv => whnf)
    | (refine Case.no ?_; conv => whnf)
    | (refine Case.isTrue (by assumption) ?_; conv => whnf)
    | (refine Case.isFalse (by assumption) ?_; conv => whnf)
    | (refine Case.decT (by assumption) ?_; conv => whnf)
    | (refine Case.decF (by assumption) ?_; conv => whnf)
    | (refine Case.decT (by omega) ?_; conv => whnf)
    | (refine Case.decF (by omega) ?_; conv => whnf)
    | (refine Case.beqT (by omega) ?_; conv => whnf)
    | (refine Case.beqF (by omega) ?_; conv => whnf)
    | (refine Num.id (by omega) (by omega) ?_; conv => whnf)
    | (refine Case.dec (fun _ => ?_) (fun _ => ?_) <;> conv => whnf)
    | (refine Case.beqI (fun _ => ?_) (fun _ => ?_) <;> conv => whnf)
    | (refine Case.mk (fun _ => ?_) (fun _ => ?_) <;> conv => whnf)
    | (refine Way.fst ?_; conv => whnf)
   refine ⟨rfl, rfl, ?_⟩
   conv => whnf
   repeat' first
    | (refine Case.not ?_; conv => whnf)
    | (refine Case.yes ?_; conv => whnf)
    | (refine Case.no ?_; conv => whnf)
    | (refine Case.isTrue (by assumption) ?_; conv => whnf)
    | (refine Case.isFalse (by assumption) ?_; conv => whnf)
    | (refine Case.decT (by assumption) ?_; conv => whnf)
    | (refine Case.decF (by assumption) ?_; conv => whnf)
    | (refine Case.decT (by omega) ?_; conv => whnf)
    | (refine Case.decF (by omega) ?_; conv => whnf)
    | (refine Case.beqT (by omega) ?_; conv => whnf)
    | (refine Case.beqF (by omega) ?_; conv => whnf)
    | (refine Num.id (by omega) (by omega) ?_; conv => whnf)
    | (refine Case.dec (fun _ => ?_) (fun _ => ?_) <;> conv => whnf)
    | (refine Case.beqI (fun _ => ?_) (fun _ => ?_) <;> conv => whnf)
    | (refine Case.mk (fun _ => ?_) (fun _ => ?_) <;> conv => whnf)
    | (refine Way.fst ?_; conv => whnf)
   refine Fin.frz 0 (Fin.mk (.f (.sl (ptsF (prep (points bs))))) [] ⟨rfl, rfl⟩ rfl ?_)
   repeat' first | exact trivial | exact rfl | apply And.intro
theorem prepare4_val (bs : List UInt8) (hl : bs.length < 100000000) : Val 15 [.f (.sl (bs.map byteRow))] (.f (.sl (ptsF (prepare bs)))) :=
 ⟨rfl, ⟨trivial, trivial⟩, rfl, (yprepare bs hl).mono fun d H h => ⟨h.2, h.1⟩⟩
theorem tokens4_val (l : List Int) (hl : l.length < 100000000) : Val 14 [.f (.sl (ptsF l))] (.f (.sl ((tokens l).map tokRow))) :=
 ⟨rfl, ⟨trivial, trivial⟩, rfl, (ytokens l hl).mono fun d H h => ⟨h.2, h.1⟩⟩
def ofB (bs : List UInt8) : List Tok := tokens (prepare bs)
end Go.Proofs.YtlhegfkpgchaeaaGreatDoor.Aw
