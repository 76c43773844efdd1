/- utf8.DecodeRune: laid by hand. -/
/- text.each's iterator. -/
/- text.Prepare, as a contract. -/
/- The tokens' laws' own small functions: Of, alive. -/
/- tapestrierlaw4.alive. -/
/- A contract at a frozen slice, called with an own slice, which turns no more. -/
import Derived.Test.YtdenafhfngnlfaaDoorAwC
import Derived.Test.YtdenafhfngnlfaaDoorAwT
import Derived.Test.YtdenafhfngnlfaaDoorXyK
import Derived.Test.YtdenafhfngnlfaaDoorXtA
import Derived.Test.YtdenafhfngnlfaaDoorXkT
import Derived.Shelf.Spec.DecodeRune
import Derived.Tactics
import Derived.WalkKit
import Derived.KernelRfl
namespace Go.Proofs.YtdenafhfngnlfaaDoor.Aw
open Go Go.RowKit Go.Lib Go.Shelf
set_option linter.unusedVariables false
set_option maxRecDepth 100000
def ydec_ren : Go.Shelf.Ren := ⟨fun | 32 => 28 | 49 => 40 | n => n, fun | 0 => 0 | 3 => 3 | 4 => 4 | 5 => 5 | 21 => 21 | 25 => 37 | 30 => 31 | 33 => 58 | 66 => 67 | 68 => 69 | 69 => 70 | n => n, fun | 2 => 0 | 3 => 1 | n => n⟩
theorem ydec_lays : Go.Proofs.Lays7.n32 Tryd.prog ydec_ren := {
  mixed := by kernel_rfl
  f32 := Tryd.func28.trans (congrArg some (by kernel_rfl))
  f49 := Tryd.func40.trans (congrArg some (by kernel_rfl))
  t0 := Tryd.underlying0
  a0 := Tryd.isAgg0
  z0 := Tryd.sizeOf0
  v0 := Tryd.zeroValue0
  i0 := by kernel_rfl
  t3 := Tryd.underlying3
  a3 := Tryd.isAgg3
  z3 := Tryd.sizeOf3
  v3 := Tryd.zeroValue3
  i3 := by kernel_rfl
  t4 := Tryd.underlying4
  a4 := Tryd.isAgg4
  z4 := Tryd.sizeOf4
  v4 := Tryd.zeroValue4
  i4 := by kernel_rfl
  t5 := Tryd.underlying5
  a5 := Tryd.isAgg5
  z5 := Tryd.sizeOf5
  v5 := Tryd.zeroValue5
  i5 := by kernel_rfl
  t21 := Tryd.underlying21
  a21 := Tryd.isAgg21
  z21 := Tryd.sizeOf21
  v21 := Tryd.zeroValue21
  i21 := by kernel_rfl
  t25 := Tryd.underlying37
  a25 := Tryd.isAgg37
  z25 := Tryd.sizeOf37
  v25 := Tryd.zeroValue37
  i25 := by kernel_rfl
  t30 := Tryd.underlying31
  a30 := Tryd.isAgg31
  z30 := Tryd.sizeOf31
  v30 := Tryd.zeroValue31
  i30 := by kernel_rfl
  t33 := Tryd.underlying58
  a33 := Tryd.isAgg58
  z33 := Tryd.sizeOf58
  v33 := Tryd.zeroValue58
  i33 := by kernel_rfl
  t66 := Tryd.underlying67
  a66 := Tryd.isAgg67
  z66 := Tryd.sizeOf67
  t68 := Tryd.underlying69
  a68 := Tryd.isAgg69
  z68 := Tryd.sizeOf69
  v68 := Tryd.zeroValue69
  i68 := by kernel_rfl
  t69 := Tryd.underlying70
  a69 := Tryd.isAgg70
  z69 := Tryd.sizeOf70
  v69 := Tryd.zeroValue70
  i69 := by kernel_rfl
  g2 := by kernel_rfl
  g3 := by kernel_rfl }
theorem ydec (s : ByteArray) (b off cap : Nat) (w : World) (hT : Lib.Utf8Tabs 0 1 w) (hp : ∀ j, j < s.size → w.cell? ⟨b, off + j, none⟩ = some (.int .u8 (s.get! j).toNat)) : Calls Tryd.prog 28 #[.slice (some ⟨b, off, none⟩) s.size cap] w fun e w' => e = .returned (.tuple #[.int .i32 (Lib.decodeGo s).1, .int .i64 (Lib.decodeGo s).2]) ∧ Below w.heap.size w w' := Any7.utf8_DecodeRune (ρ := ydec_ren) ydec_lays s b off cap w hT hp
theorem ydecode (bs : List UInt8) (h0 : 1 ≤ bs.length) : Val 28 [.f (.sl (bs.map byteRow))] (.tup [.f (.v (.int .i32 (pointV bs).1)), int (pointV bs).2]) := by
  refine ⟨rfl, ⟨trivial, trivial⟩, rfl, ⟨_, Tryd.func28, by rfl, rfl⟩, fun c w vs hC hr => ?_⟩
  unfold RepL at hr
  obtain ⟨v, vs', rfl, h1, h2⟩ := hr
  unfold RepL at h2
  subst h2
  have hp : (bs.map byteRow).length = bs.length := by simp
  unfold Rep RepF at h1
  rcases h1 with ⟨⟨a, rfl⟩, he⟩ | ⟨b, o, cap, rfl, hc, him, hrr⟩
  · rw [he] at hp
    simp at hp
    omega
  · rw [hp]
    have hz : (⟨bs.toArray⟩ : ByteArray).size = bs.length := rfl
    have hd : (((Lib.decodeGo ⟨bs.toArray⟩).1 : Int), (Lib.decodeGo ⟨bs.toArray⟩).2) = pointV bs := by
      unfold Lib.decodeGo
      rw [if_neg (by rw [hz]; omega), decode_decL, decL_point]
    have hw := ydec ⟨bs.toArray⟩ b o cap w hC.glob.tab.utf (fun j hj => by
      have hj' : j < bs.length := hj
      have hg : (bs.map byteRow)[j]? = some (byteRow (bs.getD j 0)) := by
        rw [List.getElem?_map, List.getD_eq_getElem?_getD, List.getElem?_eq_getElem hj']
        rfl
      have h3 := hrr.get (s := 1) (by intro e he; obtain ⟨x, _, rfl⟩ := List.mem_map.1 he; rfl) j _ hg
      unfold byteRow RepC at h3
      obtain ⟨⟨y, h4, h5⟩, _⟩ := h3
      unfold RepF at h5
      rw [h5.1] at h4
      have h6 := get_at bs j
      rw [Nat.zero_add] at h6
      rw [h6]
      unfold bAt
      simpa using h4)
    rw [hz] at hw
    refine hw.mono ?_
    rintro e w' ⟨rfl, hb⟩
    obtain ⟨hC', hk⟩ := hC.grow hb
    refine ⟨_, _, [], c, ⟨rfl, rfl⟩, rfl, rfl, hC', ?_⟩
    unfold Rep
    refine ⟨_, rfl, ?_⟩
    rw [show (Lib.decodeGo ⟨bs.toArray⟩).2 = (pointV bs).2 by rw [← hd], show ((Lib.decodeGo ⟨bs.toArray⟩).1 : Int) = (pointV bs).1 by rw [← hd]]
    exact repL_cons (rep_of _ rfl) (repL_cons (rep_of _ rfl) repL_nil)
end Go.Proofs.YtdenafhfngnlfaaDoor.Aw

namespace Go.Proofs.YtdenafhfngnlfaaDoor.Aw
open Go Go.RowKit Go.Lib
set_option linter.unusedVariables false
set_option linter.unusedSimpArgs false
set_option maxRecDepth 100000
structure CapOk3 (cap : List D) : Prop where
  ren : renL [0, 1, 2] [0] cap = cap
  kill : killsL [0] cap = cap
  ref : refL 3 1 cap
  into : ∀ a, intoL a 1 3 cap cap
abbrev bbox (bs : List UInt8) : Option Cells := some [.f (.sl (bs.map byteRow))]
def TextY (ps : List Nat) (x y : Code) (cap : List D) : Prop := ∀ (out : List Int) (last c : Int) (bs : List UInt8), out.length < 200000000 →
  YSpec P ps x y cap [int c] [some [intsD out], some [int last], bbox bs] 1 (fun d H => d = .f (.v (.bool true)) ∧ H = [some [intsD (out ++ lineC last c)], some [int c], bbox bs])
theorem text_yield {ps : List Nat} {x y : Code} {cap : List D} (hc : CapOk3 cap) (hY : TextY ps x y cap) {out : List Int} {last c : Int} {bs : List UInt8} (ho : out.length < 200000000) {E : List D} {H : Hp} {K : KD}
    (h : killsK [0] E fun E => killsHK [0] H fun H => K (.f (.v (.bool true))) E (some [intsD (out ++ lineC last c)] :: some [int c] :: bbox bs :: H) 1) : YStep P ps x y cap [int c] E (some [intsD out] :: some [int last] :: bbox bs :: H) 1 K := by
  rw [killsK_eq, killsHK_eq] at h
  have := YSpec.step (E := E) (H := some [intsD out] :: some [int last] :: bbox bs :: H) (n := 1) (K := K) [0, 1, 2] [0] (hY out last c bs ho) (by simp) (by simp) (by simp) (by simp) (by
    unfold fitH fitH fitH fitH
    exact ⟨⟨rfl, ⟨Nat.zero_lt_one, trivial⟩⟩, ⟨rfl, ⟨trivial, trivial⟩⟩, ⟨rfl, ⟨trivial, trivial⟩⟩, trivial⟩) ⟨hc.ref, trivial, trivial⟩ (by
    rintro d Hs' ⟨rfl, rfl⟩ _
    exact h)
  rw [hc.ren] at this
  exact this
theorem lineC_len (last c : Int) : (lineC last c).length ≤ 1 := by
  unfold lineC
  repeat' split
  all_goals simp
theorem pointV_range (bs : List UInt8) : 0 ≤ (pointV bs).1 ∧ (pointV bs).1 ≤ 1114111 := by
  have b0 := bAt_le bs 0
  have b1 := bAt_le bs 1
  have b2 := bAt_le bs 2
  have b3 := bAt_le bs 3
  unfold pointV
  rw [pointK2, pointK3, pointK4]
  repeat' split
  all_goals dsimp only
  all_goals first
    | omega
    | (rename_i h; rw [not_or] at h; have h' := h.2; rw [Bool.not_eq_false] at h'; have := right_le h'; omega)
theorem bytes_row {l : List UInt8} : ∀ e ∈ l.map byteRow, e.length = 1 := by simp [byteRow]
structure EachT (bs : List UInt8) (s : Nat × List Int × Int) : Prop where
  p : s.1 ≤ bs.length
  o : s.2.1.length ≤ s.1
  run : ∀ f, bs.length - s.1 < f → s.2.1 ++ pprep s.2.2 (ptsRun bs f s.1 []) = prep (points bs)
set_option maxHeartbeats 1000000 in
theorem seach1 (bs : List UInt8) (hl : bs.length < 100000000) {ps : List Nat} {x y : Code} {cap : List D} (hc : CapOk3 cap) (hY : TextY ps x y cap) :
    Spec P 27 [.yl ps x y cap, .ptr 2 0] [some [intsD []], some [int 0], bbox bs] 1 (fun d H => ∃ last, H = [some [intsD (prep (points bs))], some [int last], bbox []]) := by
  refine spec_mkY tab_ok Tryd.func27 (by rfl) rfl ?_
  conv => whnf
  repeat' first
    | (refine Case.not ?_; conv => whnf)
    | (refine Case.yes ?_; conv => whnf)
    | (refine Case.no ?_; conv => whnf)
    | (refine Case.isTrue (by assumption) ?_; conv => whnf)
    | (refine Case.isFalse (by assumption) ?_; conv => whnf)
    | (refine Case.decT (by assumption) ?_; conv => whnf)
    | (refine Case.decF (by assumption) ?_; conv => whnf)
    | (refine Case.decT (by omega) ?_; conv => whnf)
    | (refine Case.decF (by omega) ?_; conv => whnf)
    | (refine Case.beqT (by omega) ?_; conv => whnf)
    | (refine Case.beqF (by omega) ?_; conv => whnf)
    | (refine Num.id (by omega) (by omega) ?_; conv => whnf)
    | (refine Case.dec (fun _ => ?_) (fun _ => ?_) <;> conv => whnf)
    | (refine Case.beqI (fun _ => ?_) (fun _ => ?_) <;> conv => whnf)
    | (refine Case.mk (fun _ => ?_) (fun _ => ?_) <;> conv => whnf)
    | (refine Way.fst ?_; conv => whnf)
  refine step_loopY tab_ok (fun s : Nat × List Int × Int => padK [.yl ps x y cap, .ptr 2 0] 21) (fun s => [some [intsD s.2.1], some [int s.2.2], bbox (bs.drop s.1)]) 1 (EachT bs) (fun s => bs.length - s.1) (0, [], 0) ⟨by simp, by simp, fun f hf => by
    dsimp only
    rw [List.nil_append, pprep_prep]
    unfold points
    rw [ptsRun_fuel bs f (bs.length + 1) 0 [] hf (by omega)]⟩ (fun _ => rfl) ?_ ?_
  ·
    repeat' first | exact trivial | exact rfl | exact Nat.zero_le _ | exact Nat.zero_lt_succ _ | exact (by decide : (0 : Nat) < 1) | exact (by decide : (1 : Nat) < 4) | exact (by decide : (2 : Nat) < 4) | exact (by decide : (3 : Nat) < 4) | exact (by decide : (1 : Nat) < 2) | exact (by decide : (2 : Nat) < 3) | exact congrArg int (by (try dsimp only); omega) | exact congrArg bool (by (try dsimp only); simp; omega) | (show _ < List.length _; simp; done) | apply And.intro
    all_goals exact hc.into _
  · rintro ⟨i, out, last⟩ ⟨h1, h2, h3⟩
    simp only at h1 h2 h3
    have hlen : ((bs.drop i).map byteRow).length = bs.length - i := by simp
    have e0 := h3 (bs.length - i + 1) (by omega)
    rw [ptsRun] at e0
    dsimp only
    conv => whnf
    by_cases hin : i < bs.length
    · have hpv := pointV_drop hin
      have hr := pointV_range (bs.drop i)
      rw [if_pos hin, ptsRun_acc, List.nil_append, List.singleton_append, pprep, ← List.append_assoc] at e0
      have hll := lineC_len last (pointV (bs.drop i)).1
      have hsl : (((bs.drop i).map byteRow).take (bs.length - i)).drop (pointV (bs.drop i)).2 = (bs.drop (i + (pointV (bs.drop i)).2)).map byteRow := by
        rw [List.take_of_length_le (by rw [hlen]; exact Nat.le_refl _), ← List.map_drop, List.drop_drop]
      repeat' first
        | (refine Case.not ?_; conv => whnf)
        | (refine Case.yes ?_; conv => whnf)
        | (refine Case.no ?_; conv => whnf)
        | (refine Case.isTrue (by assumption) ?_; conv => whnf)
        | (refine Case.isFalse (by assumption) ?_; conv => whnf)
        | (refine Case.decT (by assumption) ?_; conv => whnf)
        | (refine Case.decF (by assumption) ?_; conv => whnf)
        | (refine Case.decT (by omega) ?_; conv => whnf)
        | (refine Case.decF (by omega) ?_; conv => whnf)
        | (refine Case.beqT (by omega) ?_; conv => whnf)
        | (refine Case.beqF (by omega) ?_; conv => whnf)
        | ((refine StepY.plain (step_kinds 2 ?hk ?_); (case hk => decide +kernel)); conv => whnf)
        | (refine (ydecode (bs.drop i) (by rw [List.length_drop]; omega)).call ?_; conv => whnf)
        | (refine Num.id (by omega) (by omega) ?_; conv => whnf)
        | (refine text_yield hc hY (by omega) ?_; conv => whnf)
        | (refine Owes.mk bytes_row ?_; conv => whnf)
        | (refine Part.mk (pointV (bs.drop i)).2 (bs.length - i) rfl (by rw [hlen]) (by omega) (by rw [hlen]; omega) ?_; conv => whnf)
        | (rw [hsl]; conv => whnf)
        | (refine Num.id (by omega) (by omega) ?_; conv => whnf)
        | (refine Case.dec (fun _ => ?_) (fun _ => ?_) <;> conv => whnf)
        | (refine Case.beqI (fun _ => ?_) (fun _ => ?_) <;> conv => whnf)
        | (refine Case.mk (fun _ => ?_) (fun _ => ?_) <;> conv => whnf)
        | (refine Way.fst ?_; conv => whnf)
      refine ⟨(i + (pointV (bs.drop i)).2, out ++ lineC last (pointV (bs.drop i)).1, (pointV (bs.drop i)).1), ⟨hpv.2, by dsimp only; rw [List.length_append]; omega, fun f hf => ?_⟩, by dsimp only; omega, ?_⟩
      · dsimp only at hf ⊢
        rw [← e0, ptsRun_fuel bs f (bs.length - i) _ [] hf (by omega)]
      · rw [hc.kill]
        repeat' first | exact trivial | exact rfl | exact Nat.zero_le _ | exact Nat.zero_lt_succ _ | exact (by decide : (0 : Nat) < 1) | exact (by decide : (1 : Nat) < 4) | exact (by decide : (2 : Nat) < 4) | exact (by decide : (3 : Nat) < 4) | exact (by decide : (1 : Nat) < 2) | exact (by decide : (2 : Nat) < 3) | exact congrArg int (by (try dsimp only); omega) | exact congrArg bool (by (try dsimp only); simp; omega) | (show _ < List.length _; simp; done) | apply And.intro
        all_goals exact hc.into _
    · have hpe : i = bs.length := by omega
      have hd : bs.drop i = [] := by rw [hpe]; simp
      rw [if_neg hin, pprep, List.append_nil] at e0
      repeat' first
        | (refine Case.not ?_; conv => whnf)
        | (refine Case.yes ?_; conv => whnf)
        | (refine Case.no ?_; conv => whnf)
        | (refine Case.isTrue (by assumption) ?_; conv => whnf)
        | (refine Case.isFalse (by assumption) ?_; conv => whnf)
        | (refine Case.decT (by assumption) ?_; conv => whnf)
        | (refine Case.decF (by assumption) ?_; conv => whnf)
        | (refine Case.decT (by omega) ?_; conv => whnf)
        | (refine Case.decF (by omega) ?_; conv => whnf)
        | (refine Case.beqT (by omega) ?_; conv => whnf)
        | (refine Case.beqF (by omega) ?_; conv => whnf)
        | ((refine StepY.plain (step_kinds 2 ?hk ?_); (case hk => decide +kernel)); conv => whnf)
        | (refine Num.id (by omega) (by omega) ?_; conv => whnf)
        | (refine Case.dec (fun _ => ?_) (fun _ => ?_) <;> conv => whnf)
        | (refine Case.beqI (fun _ => ?_) (fun _ => ?_) <;> conv => whnf)
        | (refine Case.mk (fun _ => ?_) (fun _ => ?_) <;> conv => whnf)
        | (refine Way.fst ?_; conv => whnf)
      refine Fin.mk (.tup []) [some [intsD (prep (points bs))], some [int last], bbox []] ⟨last, rfl⟩ rfl ?_
      rw [← e0, ← hd]
      repeat' first | exact trivial | exact rfl | exact Nat.zero_le _ | exact Nat.zero_lt_succ _ | exact (by decide : (0 : Nat) < 1) | exact (by decide : (1 : Nat) < 4) | exact (by decide : (2 : Nat) < 4) | exact (by decide : (3 : Nat) < 4) | exact (by decide : (1 : Nat) < 2) | exact (by decide : (2 : Nat) < 3) | exact congrArg int (by (try dsimp only); omega) | exact congrArg bool (by (try dsimp only); simp; omega) | (show _ < List.length _; simp; done) | apply And.intro
end Go.Proofs.YtdenafhfngnlfaaDoor.Aw

namespace Go.Proofs.YtdenafhfngnlfaaDoor.Aw
open Go Go.RowKit Go.Lib
set_option linter.unusedVariables false
set_option linter.unusedSimpArgs false
set_option maxRecDepth 100000
theorem fnOk_eachS : FnOk P 22 := ⟨_, Tryd.func22, by rfl, rfl⟩
theorem yeachS (a : Option Addr) (n cap : Nat) (w : World) : Calls Tryd.prog 22 #[.slice a n cap] w fun e w' => e = .returned (.func (.func 27) #[] #[.pointer (some ⟨w.heap.size, 0, none⟩)]) ∧ w' = w.alloc (.cells #[.slice a n cap] 31) := by
  go_enter Tryd.func22, Tryd.ntmps22
  go_wp2
  go_ret
  exact ⟨rfl, rfl⟩
set_option maxHeartbeats 2000000 in
theorem yprepare (bs : List UInt8) (hl : bs.length < 100000000) : Spec P 18 [.f (.sl (bs.map byteRow))] [] 0 (fun d H => d = .f (.sl (ptsF (prep (points bs)))) ∧ H = []) := by
  refine spec_mkM tab_ok Tryd.func18 (by rfl) rfl ?_
  conv => whnf
  repeat' first
    | (refine Case.not ?_; conv => whnf)
    | (refine Case.yes ?_; conv => whnf)
    | (refine Case.no ?_; conv => whnf)
    | (refine Case.isTrue (by assumption) ?_; conv => whnf)
    | (refine Case.isFalse (by assumption) ?_; conv => whnf)
    | (refine Case.decT (by assumption) ?_; conv => whnf)
    | (refine Case.decF (by assumption) ?_; conv => whnf)
    | (refine Case.decT (by omega) ?_; conv => whnf)
    | (refine Case.decF (by omega) ?_; conv => whnf)
    | (refine Case.beqT (by omega) ?_; conv => whnf)
    | (refine Case.beqF (by omega) ?_; conv => whnf)
    | (refine box_call fnOk_eachS yeachS ?_; conv => whnf)
    | (refine Num.id (by omega) (by omega) ?_; conv => whnf)
    | (refine Case.dec (fun _ => ?_) (fun _ => ?_) <;> conv => whnf)
    | (refine Case.beqI (fun _ => ?_) (fun _ => ?_) <;> conv => whnf)
    | (refine Case.mk (fun _ => ?_) (fun _ => ?_) <;> conv => whnf)
    | (refine Way.fst ?_; conv => whnf)
  refine RangeK.into (E' := padK [.f (.sl (bs.map byteRow)), .junk, .junk, .ptr 0 0, .ptr 1 0, .junk, .junk, .fn 27 [.ptr 2 0]] 38) (H' := [some [intsD []], some [int 0], bbox bs]) (n' := 1) rfl ?_ ?_
  ·
    repeat' first | exact trivial | exact rfl | exact Nat.zero_le _ | exact Nat.zero_lt_succ _ | exact (by decide : (0 : Nat) < 1) | exact (by decide : (1 : Nat) < 4) | exact (by decide : (2 : Nat) < 4) | exact (by decide : (3 : Nat) < 4) | exact (by decide : (1 : Nat) < 2) | exact (by decide : (2 : Nat) < 3) | exact congrArg int (by (try dsimp only); omega) | exact congrArg bool (by (try dsimp only); simp; omega) | (show _ < List.length _; simp; done) | apply And.intro
    all_goals skip
  · refine range_mk [0, 1, 2] [0] rfl (seach1 bs hl (cap := padK [.f (.sl (bs.map byteRow)), .junk, .junk, .ptr 0 0, .ptr 1 0, .junk, .junk, .fn 27 [.ptr 2 0]] 38) ⟨rfl, rfl, ?_, fun a => ?_⟩ (fun out last c bs' ho => yspec_mk tab_ok rfl (fun lp => ?_))) rfl (by simp) (by simp) (by simp) (by simp) ?_ ?_ ?_
    · simp [refL, refD, padK]
    ·
      repeat' first | exact trivial | exact rfl | exact Nat.zero_le _ | exact Nat.zero_lt_succ _ | exact (by decide : (0 : Nat) < 1) | exact (by decide : (1 : Nat) < 4) | exact (by decide : (2 : Nat) < 4) | exact (by decide : (3 : Nat) < 4) | exact (by decide : (1 : Nat) < 2) | exact (by decide : (2 : Nat) < 3) | exact congrArg int (by (try dsimp only); omega) | exact congrArg bool (by (try dsimp only); simp; omega) | (show _ < List.length _; simp; done) | apply And.intro
      all_goals decide
    · have l2 : (ptsF out).length = out.length := ptsF_length out
      conv => whnf
      repeat' first
        | (refine Case.not ?_; conv => whnf)
        | (refine Case.yes ?_; conv => whnf)
        | (refine Case.no ?_; conv => whnf)
        | (refine Case.isTrue (by assumption) ?_; conv => whnf)
        | (refine Case.isFalse (by assumption) ?_; conv => whnf)
        | (refine Case.decT (by assumption) ?_; conv => whnf)
        | (refine Case.decF (by assumption) ?_; conv => whnf)
        | (refine Case.decT (by omega) ?_; conv => whnf)
        | (refine Case.decF (by omega) ?_; conv => whnf)
        | (refine Case.beqT (by omega) ?_; conv => whnf)
        | (refine Case.beqF (by omega) ?_; conv => whnf)
        | (refine Num.id (by omega) (by omega) ?_; conv => whnf)
        | (refine Case.dec (fun _ => ?_) (fun _ => ?_) <;> conv => whnf)
        | (refine Case.beqI (fun _ => ?_) (fun _ => ?_) <;> conv => whnf)
        | (refine Case.mk (fun _ => ?_) (fun _ => ?_) <;> conv => whnf)
        | (refine Way.fst ?_; conv => whnf)
      refine ⟨rfl, rfl, ?_⟩
      conv => whnf
      by_cases a1 : c = 10
      · by_cases a2 : last = 13
        · have hb : lineC last c = [] := by simp [lineC, a1, a2]
          repeat' first
            | (refine Case.not ?_; conv => whnf)
            | (refine Case.yes ?_; conv => whnf)
            | (refine Case.no ?_; conv => whnf)
            | (refine Case.isTrue (by assumption) ?_; conv => whnf)
            | (refine Case.isFalse (by assumption) ?_; conv => whnf)
            | (refine Case.decT (by assumption) ?_; conv => whnf)
            | (refine Case.decF (by assumption) ?_; conv => whnf)
            | (refine Case.decT (by omega) ?_; conv => whnf)
            | (refine Case.decF (by omega) ?_; conv => whnf)
            | (refine Case.beqT (by omega) ?_; conv => whnf)
            | (refine Case.beqF (by omega) ?_; conv => whnf)
            | (refine Num.id (by omega) (by omega) ?_; conv => whnf)
            | (refine Case.dec (fun _ => ?_) (fun _ => ?_) <;> conv => whnf)
            | (refine Case.beqI (fun _ => ?_) (fun _ => ?_) <;> conv => whnf)
            | (refine Case.mk (fun _ => ?_) (fun _ => ?_) <;> conv => whnf)
            | (refine Way.fst ?_; conv => whnf)
          all_goals refine ⟨rfl, Fin.mk (.f (.v (.bool true))) [some [intsD (out ++ lineC last c)], some [int c], bbox bs'] ⟨rfl, rfl⟩ rfl ?_⟩
          all_goals rw [hb, List.append_nil]
          all_goals
            repeat' first | exact trivial | exact rfl | exact Nat.zero_le _ | exact Nat.zero_lt_succ _ | exact (by decide : (0 : Nat) < 1) | exact (by decide : (1 : Nat) < 4) | exact (by decide : (2 : Nat) < 4) | exact (by decide : (3 : Nat) < 4) | exact (by decide : (1 : Nat) < 2) | exact (by decide : (2 : Nat) < 3) | exact congrArg int (by (try dsimp only); omega) | exact congrArg (D.own _ _ _) (by simp [ptsF]; done) | exact congrArg bool (by (try dsimp only); simp; omega) | (show _ < List.length _; simp; done) | apply And.intro
        · have hb : lineC last c = [c] := by simp [lineC, a1, a2]
          repeat' first
            | (refine Case.not ?_; conv => whnf)
            | (refine Case.yes ?_; conv => whnf)
            | (refine Case.no ?_; conv => whnf)
            | (refine Case.isTrue (by assumption) ?_; conv => whnf)
            | (refine Case.isFalse (by assumption) ?_; conv => whnf)
            | (refine Case.decT (by assumption) ?_; conv => whnf)
            | (refine Case.decF (by assumption) ?_; conv => whnf)
            | (refine Case.decT (by omega) ?_; conv => whnf)
            | (refine Case.decF (by omega) ?_; conv => whnf)
            | (refine Case.beqT (by omega) ?_; conv => whnf)
            | (refine Case.beqF (by omega) ?_; conv => whnf)
            | (refine Owes.mk (by simp; omega) ?_; conv => whnf)
            | (refine Num.id (by omega) (by omega) ?_; conv => whnf)
            | (refine Case.dec (fun _ => ?_) (fun _ => ?_) <;> conv => whnf)
            | (refine Case.beqI (fun _ => ?_) (fun _ => ?_) <;> conv => whnf)
            | (refine Case.mk (fun _ => ?_) (fun _ => ?_) <;> conv => whnf)
            | (refine Way.fst ?_; conv => whnf)
          all_goals refine ⟨rfl, Fin.mk (.f (.v (.bool true))) [some [intsD (out ++ lineC last c)], some [int c], bbox bs'] ⟨rfl, rfl⟩ rfl ?_⟩
          all_goals rw [hb]
          all_goals
            repeat' first | exact trivial | exact rfl | exact Nat.zero_le _ | exact Nat.zero_lt_succ _ | exact (by decide : (0 : Nat) < 1) | exact (by decide : (1 : Nat) < 4) | exact (by decide : (2 : Nat) < 4) | exact (by decide : (3 : Nat) < 4) | exact (by decide : (1 : Nat) < 2) | exact (by decide : (2 : Nat) < 3) | exact congrArg int (by (try dsimp only); omega) | exact congrArg (D.own _ _ _) (by simp [ptsF]; done) | exact congrArg bool (by (try dsimp only); simp; omega) | (show _ < List.length _; simp; done) | apply And.intro
      by_cases a3 : c = 13
      · have hb : lineC last c = [10] := by simp [lineC, a3]
        repeat' first
          | (refine Case.not ?_; conv => whnf)
          | (refine Case.yes ?_; conv => whnf)
          | (refine Case.no ?_; conv => whnf)
          | (refine Case.isTrue (by assumption) ?_; conv => whnf)
          | (refine Case.isFalse (by assumption) ?_; conv => whnf)
          | (refine Case.decT (by assumption) ?_; conv => whnf)
          | (refine Case.decF (by assumption) ?_; conv => whnf)
          | (refine Case.decT (by omega) ?_; conv => whnf)
          | (refine Case.decF (by omega) ?_; conv => whnf)
          | (refine Case.beqT (by omega) ?_; conv => whnf)
          | (refine Case.beqF (by omega) ?_; conv => whnf)
          | (refine Owes.mk (by simp; omega) ?_; conv => whnf)
          | (refine Num.id (by omega) (by omega) ?_; conv => whnf)
          | (refine Case.dec (fun _ => ?_) (fun _ => ?_) <;> conv => whnf)
          | (refine Case.beqI (fun _ => ?_) (fun _ => ?_) <;> conv => whnf)
          | (refine Case.mk (fun _ => ?_) (fun _ => ?_) <;> conv => whnf)
          | (refine Way.fst ?_; conv => whnf)
        all_goals refine ⟨rfl, Fin.mk (.f (.v (.bool true))) [some [intsD (out ++ lineC last c)], some [int c], bbox bs'] ⟨rfl, rfl⟩ rfl ?_⟩
        all_goals rw [hb]
        all_goals
          repeat' first | exact trivial | exact rfl | exact Nat.zero_le _ | exact Nat.zero_lt_succ _ | exact (by decide : (0 : Nat) < 1) | exact (by decide : (1 : Nat) < 4) | exact (by decide : (2 : Nat) < 4) | exact (by decide : (3 : Nat) < 4) | exact (by decide : (1 : Nat) < 2) | exact (by decide : (2 : Nat) < 3) | exact congrArg int (by (try dsimp only); omega) | exact congrArg (D.own _ _ _) (by simp [ptsF]; done) | exact congrArg bool (by (try dsimp only); simp; omega) | (show _ < List.length _; simp; done) | apply And.intro
      by_cases a4 : c = 12
      · have hb : lineC last c = [10] := by simp [lineC, a4]
        repeat' first
          | (refine Case.not ?_; conv => whnf)
          | (refine Case.yes ?_; conv => whnf)
          | (refine Case.no ?_; conv => whnf)
          | (refine Case.isTrue (by assumption) ?_; conv => whnf)
          | (refine Case.isFalse (by assumption) ?_; conv => whnf)
          | (refine Case.decT (by assumption) ?_; conv => whnf)
          | (refine Case.decF (by assumption) ?_; conv => whnf)
          | (refine Case.decT (by omega) ?_; conv => whnf)
          | (refine Case.decF (by omega) ?_; conv => whnf)
          | (refine Case.beqT (by omega) ?_; conv => whnf)
          | (refine Case.beqF (by omega) ?_; conv => whnf)
          | (refine Owes.mk (by simp; omega) ?_; conv => whnf)
          | (refine Num.id (by omega) (by omega) ?_; conv => whnf)
          | (refine Case.dec (fun _ => ?_) (fun _ => ?_) <;> conv => whnf)
          | (refine Case.beqI (fun _ => ?_) (fun _ => ?_) <;> conv => whnf)
          | (refine Case.mk (fun _ => ?_) (fun _ => ?_) <;> conv => whnf)
          | (refine Way.fst ?_; conv => whnf)
        all_goals refine ⟨rfl, Fin.mk (.f (.v (.bool true))) [some [intsD (out ++ lineC last c)], some [int c], bbox bs'] ⟨rfl, rfl⟩ rfl ?_⟩
        all_goals rw [hb]
        all_goals
          repeat' first | exact trivial | exact rfl | exact Nat.zero_le _ | exact Nat.zero_lt_succ _ | exact (by decide : (0 : Nat) < 1) | exact (by decide : (1 : Nat) < 4) | exact (by decide : (2 : Nat) < 4) | exact (by decide : (3 : Nat) < 4) | exact (by decide : (1 : Nat) < 2) | exact (by decide : (2 : Nat) < 3) | exact congrArg int (by (try dsimp only); omega) | exact congrArg (D.own _ _ _) (by simp [ptsF]; done) | exact congrArg bool (by (try dsimp only); simp; omega) | (show _ < List.length _; simp; done) | apply And.intro
      by_cases a5 : c = 0
      · have hb : lineC last c = [65533] := by simp [lineC, a5]
        repeat' first
          | (refine Case.not ?_; conv => whnf)
          | (refine Case.yes ?_; conv => whnf)
          | (refine Case.no ?_; conv => whnf)
          | (refine Case.isTrue (by assumption) ?_; conv => whnf)
          | (refine Case.isFalse (by assumption) ?_; conv => whnf)
          | (refine Case.decT (by assumption) ?_; conv => whnf)
          | (refine Case.decF (by assumption) ?_; conv => whnf)
          | (refine Case.decT (by omega) ?_; conv => whnf)
          | (refine Case.decF (by omega) ?_; conv => whnf)
          | (refine Case.beqT (by omega) ?_; conv => whnf)
          | (refine Case.beqF (by omega) ?_; conv => whnf)
          | (refine Owes.mk (by simp; omega) ?_; conv => whnf)
          | (refine Num.id (by omega) (by omega) ?_; conv => whnf)
          | (refine Case.dec (fun _ => ?_) (fun _ => ?_) <;> conv => whnf)
          | (refine Case.beqI (fun _ => ?_) (fun _ => ?_) <;> conv => whnf)
          | (refine Case.mk (fun _ => ?_) (fun _ => ?_) <;> conv => whnf)
          | (refine Way.fst ?_; conv => whnf)
        all_goals refine ⟨rfl, Fin.mk (.f (.v (.bool true))) [some [intsD (out ++ lineC last c)], some [int c], bbox bs'] ⟨rfl, rfl⟩ rfl ?_⟩
        all_goals rw [hb]
        all_goals
          repeat' first | exact trivial | exact rfl | exact Nat.zero_le _ | exact Nat.zero_lt_succ _ | exact (by decide : (0 : Nat) < 1) | exact (by decide : (1 : Nat) < 4) | exact (by decide : (2 : Nat) < 4) | exact (by decide : (3 : Nat) < 4) | exact (by decide : (1 : Nat) < 2) | exact (by decide : (2 : Nat) < 3) | exact congrArg int (by (try dsimp only); omega) | exact congrArg (D.own _ _ _) (by simp [ptsF]; done) | exact congrArg bool (by (try dsimp only); simp; omega) | (show _ < List.length _; simp; done) | apply And.intro
      · have hb : lineC last c = [c] := by simp [lineC, a1, a3, a4, a5]
        repeat' first
          | (refine Case.not ?_; conv => whnf)
          | (refine Case.yes ?_; conv => whnf)
          | (refine Case.no ?_; conv => whnf)
          | (refine Case.isTrue (by assumption) ?_; conv => whnf)
          | (refine Case.isFalse (by assumption) ?_; conv => whnf)
          | (refine Case.decT (by assumption) ?_; conv => whnf)
          | (refine Case.decF (by assumption) ?_; conv => whnf)
          | (refine Case.decT (by omega) ?_; conv => whnf)
          | (refine Case.decF (by omega) ?_; conv => whnf)
          | (refine Case.beqT (by omega) ?_; conv => whnf)
          | (refine Case.beqF (by omega) ?_; conv => whnf)
          | (refine Owes.mk (by simp; omega) ?_; conv => whnf)
          | (refine Num.id (by omega) (by omega) ?_; conv => whnf)
          | (refine Case.dec (fun _ => ?_) (fun _ => ?_) <;> conv => whnf)
          | (refine Case.beqI (fun _ => ?_) (fun _ => ?_) <;> conv => whnf)
          | (refine Case.mk (fun _ => ?_) (fun _ => ?_) <;> conv => whnf)
          | (refine Way.fst ?_; conv => whnf)
        all_goals refine ⟨rfl, Fin.mk (.f (.v (.bool true))) [some [intsD (out ++ lineC last c)], some [int c], bbox bs'] ⟨rfl, rfl⟩ rfl ?_⟩
        all_goals rw [hb]
        all_goals
          repeat' first | exact trivial | exact rfl | exact Nat.zero_le _ | exact Nat.zero_lt_succ _ | exact (by decide : (0 : Nat) < 1) | exact (by decide : (1 : Nat) < 4) | exact (by decide : (2 : Nat) < 4) | exact (by decide : (3 : Nat) < 4) | exact (by decide : (1 : Nat) < 2) | exact (by decide : (2 : Nat) < 3) | exact congrArg int (by (try dsimp only); omega) | exact congrArg (D.own _ _ _) (by simp [ptsF]; done) | exact congrArg bool (by (try dsimp only); simp; omega) | (show _ < List.length _; simp; done) | apply And.intro
    · unfold fitH fitH fitH fitH
      exact ⟨⟨rfl, ⟨Nat.zero_lt_one, trivial⟩⟩, ⟨rfl, ⟨trivial, trivial⟩⟩, ⟨rfl, ⟨trivial, trivial⟩⟩, trivial⟩
    · simp [refL, refD, padK]
    · rintro d Hs' ⟨last, rfl⟩ _
      refine ⟨rfl, rfl, fun D => ?_⟩
      conv => whnf
      repeat' first
        | (refine Case.not ?_; conv => whnf)
        | (refine Case.yes ?_; conv => whnf)
        | (refine Case.no ?_; conv => whnf)
        | (refine Case.isTrue (by assumption) ?_; conv => whnf)
        | (refine Case.isFalse (by assumption) ?_; conv => whnf)
        | (refine Case.decT (by assumption) ?_; conv => whnf)
        | (refine Case.decF (by assumption) ?_; conv => whnf)
        | (refine Case.decT (by omega) ?_; conv => whnf)
        | (refine Case.decF (by omega) ?_; conv => whnf)
        | (refine Case.beqT (by omega) ?_; conv => whnf)
        | (refine Case.beqF (by omega) ?_; conv => whnf)
        | (refine Num.id (by omega) (by omega) ?_; conv => whnf)
        | (refine Case.dec (fun _ => ?_) (fun _ => ?_) <;> conv => whnf)
        | (refine Case.beqI (fun _ => ?_) (fun _ => ?_) <;> conv => whnf)
        | (refine Case.mk (fun _ => ?_) (fun _ => ?_) <;> conv => whnf)
        | (refine Way.fst ?_; conv => whnf)
      refine ⟨rfl, rfl, ?_⟩
      conv => whnf
      repeat' first
        | (refine Case.not ?_; conv => whnf)
        | (refine Case.yes ?_; conv => whnf)
        | (refine Case.no ?_; conv => whnf)
        | (refine Case.isTrue (by assumption) ?_; conv => whnf)
        | (refine Case.isFalse (by assumption) ?_; conv => whnf)
        | (refine Case.decT (by assumption) ?_; conv => whnf)
        | (refine Case.decF (by assumption) ?_; conv => whnf)
        | (refine Case.decT (by omega) ?_; conv => whnf)
        | (refine Case.decF (by omega) ?_; conv => whnf)
        | (refine Case.beqT (by omega) ?_; conv => whnf)
        | (refine Case.beqF (by omega) ?_; conv => whnf)
        | (refine Num.id (by omega) (by omega) ?_; conv => whnf)
        | (refine Case.dec (fun _ => ?_) (fun _ => ?_) <;> conv => whnf)
        | (refine Case.beqI (fun _ => ?_) (fun _ => ?_) <;> conv => whnf)
        | (refine Case.mk (fun _ => ?_) (fun _ => ?_) <;> conv => whnf)
        | (refine Way.fst ?_; conv => whnf)
      refine Fin.frz 0 (Fin.mk (.f (.sl (ptsF (prep (points bs))))) [] ⟨rfl, rfl⟩ rfl ?_)
      repeat' first | exact trivial | exact rfl | exact Nat.zero_le _ | exact Nat.zero_lt_succ _ | exact (by decide : (0 : Nat) < 1) | exact (by decide : (1 : Nat) < 4) | exact (by decide : (2 : Nat) < 4) | exact (by decide : (3 : Nat) < 4) | exact (by decide : (1 : Nat) < 2) | exact (by decide : (2 : Nat) < 3) | exact congrArg int (by (try dsimp only); omega) | exact congrArg bool (by (try dsimp only); simp; omega) | (show _ < List.length _; simp; done) | apply And.intro
end Go.Proofs.YtdenafhfngnlfaaDoor.Aw

namespace Go.Proofs.YtdenafhfngnlfaaDoor.Aw
open Go Go.RowKit Go.Lib
set_option linter.unusedVariables false
set_option linter.unusedSimpArgs false
set_option maxRecDepth 100000
theorem prepare4_val (bs : List UInt8) (hl : bs.length < 100000000) : Val 18 [.f (.sl (bs.map byteRow))] (.f (.sl (ptsF (prepare bs)))) :=
  ⟨rfl, ⟨trivial, trivial⟩, rfl, (yprepare bs hl).mono fun d H h => ⟨h.2, h.1⟩⟩
theorem tokens4_val (l : List Int) (hl : l.length < 100000000) : Val 17 [.f (.sl (ptsF l))] (.f (.sl ((tokens l).map tokRow))) :=
  ⟨rfl, ⟨trivial, trivial⟩, rfl, (ytokens l hl).mono fun d H h => ⟨h.2, h.1⟩⟩
def ofB (bs : List UInt8) : List Tok := tokens (prepare bs)
theorem of4_val (bs : List UInt8) (hl : bs.length < 100000000) : Val 14 [.f (.sl (bs.map byteRow))] (.f (.sl ((ofB bs).map tokRow))) := by
  have hp := prepare_len bs
  refine ⟨rfl, ⟨trivial, trivial⟩, rfl, spec_mk tab_ok Tryd.func14 (by rfl) rfl ?_⟩
  conv => whnf
  repeat' first
    | (refine Case.not ?_; conv => whnf)
    | (refine Case.yes ?_; conv => whnf)
    | (refine Case.no ?_; conv => whnf)
    | (refine Case.isTrue (by assumption) ?_; conv => whnf)
    | (refine Case.isFalse (by assumption) ?_; conv => whnf)
    | (refine Case.decT (by assumption) ?_; conv => whnf)
    | (refine Case.decF (by assumption) ?_; conv => whnf)
    | (refine Case.decT (by omega) ?_; conv => whnf)
    | (refine Case.decF (by omega) ?_; conv => whnf)
    | (refine Case.beqT (by omega) ?_; conv => whnf)
    | (refine Case.beqF (by omega) ?_; conv => whnf)
    | (refine Case.strT (by assumption) ?_; conv => whnf)
    | (refine Case.strF (by assumption) ?_; conv => whnf)
    | (refine Case.strF (by simp only [*]; decide) ?_; conv => whnf)
    | (refine (prepare4_val bs hl).call ?_; conv => whnf)
    | (refine (tokens4_val (prepare bs) (by omega)).call ?_; conv => whnf)
    | (refine step_kinds 2 ?hk ?_; (case hk => decide +kernel); conv => whnf)
    | (refine step_kinds 3 ?hk ?_; (case hk => decide +kernel); conv => whnf)
    | (refine Num.id (by omega) (by omega) ?_; conv => whnf)
    | (refine Case.strI (fun _ => ?_) (fun _ => ?_) <;> conv => whnf)
    | (refine Both.mk ?_ ?_ <;> conv => whnf)
    | (refine Case.dec (fun _ => ?_) (fun _ => ?_) <;> conv => whnf)
    | (refine Case.beqI (fun _ => ?_) (fun _ => ?_) <;> conv => whnf)
    | (refine Case.mk (fun _ => ?_) (fun _ => ?_) <;> conv => whnf)
    | (refine Way.fst ?_; conv => whnf)
  refine Fin.mk (.f (.sl ((ofB bs).map tokRow))) [] ⟨rfl, rfl⟩ rfl ?_
  repeat' first | exact trivial | exact rfl | exact Nat.zero_le _ | exact Nat.zero_lt_succ _ | exact (by decide : (0 : Nat) < 1) | exact (by decide : (1 : Nat) < 4) | exact (by decide : (2 : Nat) < 4) | exact (by decide : (3 : Nat) < 4) | exact (by decide : (1 : Nat) < 2) | exact (by decide : (2 : Nat) < 3) | exact congrArg int (by (try dsimp only); omega) | exact congrArg bool (by (try dsimp only); simp; omega) | (show _ < List.length _; simp; done) | apply And.intro
theorem toks4_row {t : List Tok} : ∀ e ∈ t.map tokRow, e.length = 5 := by simp [tokRow]
def alive4B : List UInt8 := [97, 58, 49, 46, 53, 101, 109]
theorem alive4_toks : tokens (prepare alive4B) = [{ kind := 1, text := [97] }, { kind := 11 }, { kind := 8, n := 1500, text := [101, 109] }] := by decide +kernel
end Go.Proofs.YtdenafhfngnlfaaDoor.Aw

namespace Go.Proofs.YtdenafhfngnlfaaDoor.Aw
open Go Go.RowKit Go.Lib
set_option linter.unusedVariables false
set_option linter.unusedSimpArgs false
set_option maxRecDepth 100000
theorem alive4_spec : Pure 11 [] (bool true) := by
  have hp := prepare4_val alive4B (by decide)
  have ht := tokens4_val (prepare alive4B) (by have := prepare_len alive4B; have : alive4B.length = 7 := rfl; omega)
  rw [alive4_toks] at ht
  refine ⟨trivial, spec_mk tab_ok Tryd.func11 (by rfl) rfl ?_⟩
  conv => whnf
  repeat' first
    | (refine Case.not ?_; conv => whnf)
    | (refine Case.yes ?_; conv => whnf)
    | (refine Case.no ?_; conv => whnf)
    | (refine Case.isTrue (by assumption) ?_; conv => whnf)
    | (refine Case.isFalse (by assumption) ?_; conv => whnf)
    | (refine Case.decT (by assumption) ?_; conv => whnf)
    | (refine Case.decF (by assumption) ?_; conv => whnf)
    | (refine Case.decT (by omega) ?_; conv => whnf)
    | (refine Case.decF (by omega) ?_; conv => whnf)
    | (refine Case.beqT (by omega) ?_; conv => whnf)
    | (refine Case.beqF (by omega) ?_; conv => whnf)
    | (refine Case.strT (by assumption) ?_; conv => whnf)
    | (refine Case.strF (by assumption) ?_; conv => whnf)
    | (refine Case.strF (by simp only [*]; decide) ?_; conv => whnf)
    | (refine Owes.mk ⟨rfl, rfl, List.cons_ne_nil _ _⟩ ?_; conv => whnf)
    | (refine hp.call ?_; conv => whnf)
    | (refine ht.call ?_; conv => whnf)
    | (refine Owes.mk toks4_row ?_; conv => whnf)
    | (refine Elem.mk 0 _ rfl rfl ?_; conv => whnf)
    | (refine Elem.mk 1 _ rfl rfl ?_; conv => whnf)
    | (refine Elem.mk 2 _ rfl rfl ?_; conv => whnf)
    | (refine Case.isTrue (by decide +kernel) ?_; conv => whnf)
    | (refine step_kinds 2 ?hk ?_; (case hk => decide +kernel); conv => whnf)
    | (refine step_kinds 3 ?hk ?_; (case hk => decide +kernel); conv => whnf)
    | (refine Num.id (by omega) (by omega) ?_; conv => whnf)
    | (refine Case.strI (fun _ => ?_) (fun _ => ?_) <;> conv => whnf)
    | (refine Both.mk ?_ ?_ <;> conv => whnf)
    | (refine Case.dec (fun _ => ?_) (fun _ => ?_) <;> conv => whnf)
    | (refine Case.beqI (fun _ => ?_) (fun _ => ?_) <;> conv => whnf)
    | (refine Case.mk (fun _ => ?_) (fun _ => ?_) <;> conv => whnf)
    | (refine Way.fst ?_; conv => whnf)
  exact Fin.isB (by decide +kernel)
end Go.Proofs.YtdenafhfngnlfaaDoor.Aw

namespace Go.Proofs.YtdenafhfngnlfaaDoor.Aw
open Go Go.RowKit Go.Lib
set_option linter.unusedVariables false
set_option linter.unusedSimpArgs false
set_option maxRecDepth 100000
theorem Val.callO {g : FuncId} {es : List (List F)} {d : D} {k t s : Nat} {E : List D} {H : Hp} {n : Nat} {K : KD} (h : Val g [.f (.sl es)] d) (hk : K d (killL k E) (killH k H) n) : Call P g [.own k t s es] E H n K := by
  have h0 : Call P g [.f (.sl es)] (killL k E) (killH k H) n K := h.call hk
  obtain ⟨hf, h1⟩ := h0.out
  refine Call.mk ⟨hf, fun B c w ts vs hC hE ha => ?_⟩
  obtain ⟨hC', hk'⟩ := hC.freeze (k := k)
  refine h1 B _ w ts vs hC' (RepL.kill hk' _ _ hE) ?_
  unfold RepL at ha
  obtain ⟨v, vs', rfl, h2, h3⟩ := ha
  unfold RepL at h3
  subst h3
  unfold Rep at h2
  obtain ⟨h4, rfl, h5⟩ := h2
  refine repL_cons ?_ repL_nil
  unfold Rep
  exact h5.toF hk'.imm (fun b hb => .inr hb)
end Go.Proofs.YtdenafhfngnlfaaDoor.Aw

