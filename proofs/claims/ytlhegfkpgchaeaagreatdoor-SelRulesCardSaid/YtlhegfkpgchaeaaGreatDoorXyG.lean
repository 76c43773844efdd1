/- The program's scanner: tokens, comments. -/
import Derived.Test.YtlhegfkpgchaeaaGreatDoorXyD
import Derived.Test.YtlhegfkpgchaeaaGreatDoorXkN
import Derived.Test.YtlhegfkpgchaeaaGreatDoorXrP
import Derived.Test.YtlhegfkpgchaeaaGreatDoorShelf
import Derived.Test.YtlhegfkpgchaeaaGreatDoorAwVD
import Derived.Test.YtlhegfkpgchaeaaGreatDoorXrJ
namespace Go.Proofs.YtlhegfkpgchaeaaGreatDoor.Aw
open Go Go.RowKit Go.Lib
set_option linter.unusedVariables false
set_option linter.unnecessarySimpa false
set_option linter.unusedSimpArgs false
set_option maxRecDepth 100000
abbrev sB (l : List UInt8) : D := .str ⟨l.toArray⟩
theorem yindex (s : List UInt8) (c : UInt8) : Pure 164 [sB s, .str ⟨#[c]⟩] (int (Lib.indexByte s c)) :=
 pure_of_callsL (xs := [.string ⟨s.toArray⟩, .string ⟨#[c]⟩]) (y := .int .i64 (Lib.indexByte s c)) ⟨_, Tryz.func164, by rfl, rfl⟩ trivial (fun c w => rep_of _ rfl) fun w _ => by
  refine Calls.mono (Tryz.stringslite_Index_one ⟨s.toArray⟩ c w) ?_
  rintro e w' ⟨h1, h2⟩
  subst h2
  exact ⟨h1, Below.refl _ _⟩
theorem index_room (s : List UInt8) (c : UInt8) : -1 ≤ Lib.indexByte s c ∧ (0 ≤ Lib.indexByte s c → Lib.indexByte s c < s.length) := by
 refine ⟨Lib.indexByte_ge _ _, fun h => ?_⟩
 obtain ⟨j, hj⟩ := Int.eq_ofNat_of_zero_le h
 have := (Lib.indexByte_some (o := j) hj).1
 have h2 : j < s.length := (List.getElem?_eq_some_iff.1 this).1
 omega
theorem ext_listB (l : List UInt8) (a b : Nat) : (⟨l.toArray⟩ : ByteArray).extract a b = ⟨((l.take b).drop a).toArray⟩ := by
 apply ByteArray.ext
 apply Array.ext'
 simp [List.extract_eq_take_drop, List.drop_take]
theorem ycut3 (n : Int) : Pure 160 [int n, int (-2147483647), int 2147483647] (int (cap n)) := by
 refine .mk trivial (spec_mk tab_ok Tryz.func160 (by rfl) rfl ?_)
 conv => whnf
 repeat' first
  | (refine Case.not ?_; conv => whnf)
  | (refine Case.yes ?_; conv => whnf)
  | (refine Case.no ?_; conv => whnf)
  | (refine Case.isTrue (by assumption) ?_; conv => whnf)
  | (refine Case.isFalse (by assumption) ?_; conv => whnf)
  | (refine Case.decT (by assumption) ?_; conv => whnf)
  | (refine Case.decF (by assumption) ?_; conv => whnf)
  | (refine Case.decT (by omega) ?_; conv => whnf)
  | (refine Case.decF (by omega) ?_; conv => whnf)
  | (refine Case.beqT (by omega) ?_; conv => whnf)
  | (refine Case.beqF (by omega) ?_; conv => whnf)
  | (refine Num.id (by omega) (by omega) ?_; conv => whnf)
  | (refine Case.dec (fun _ => ?_) (fun _ => ?_) <;> conv => whnf)
  | (refine Case.beqI (fun _ => ?_) (fun _ => ?_) <;> conv => whnf)
  | (refine Case.mk (fun _ => ?_) (fun _ => ?_) <;> conv => whnf)
  | (refine Way.fst ?_; conv => whnf)
 all_goals (refine Fin.isI ?_; unfold cap; first | omega | (repeat' split) <;> first | omega | rfl)
theorem ycap (n : Int) : Pure 144 [int n] (int (cap n)) := by
 refine .mk trivial (spec_mk tab_ok Tryz.func144 (by rfl) rfl ?_)
 conv => whnf
 repeat' (refine (ycut3 n).call ⟨rfl, rfl, rfl, rfl⟩ ?_; conv => whnf)
 exact Fin.isI rfl
theorem bytes_get {s : List UInt8} {i : Nat} {c : UInt8} (h : s[i]? = some c) : (s.map byteRow)[i]? = some [.v (.int .u8 c.toNat)] := by simp [h, byteRow]
theorem ydigits (s : List UInt8) (hs : s.length < 1000000000) : Pure 143 [sB s] (bool (s.all dgB)) := by
 have hlen : (s.map byteRow).length = s.length := List.length_map ..
 refine .mk trivial (spec_mk tab_ok Tryz.func143 (by rfl) rfl ?_)
 conv => whnf
 repeat' (refine Way.fst ?_; conv => whnf)
 refine step_loop tab_ok (fun i : Nat => padK [sB s, .junk, .junk, .junk, .junk, .junk, .f (.sl (s.map byteRow)), int s.length, int i] 19) (fun _ => []) 0 (fun i => i ≤ s.length ∧ (s.drop i).all dgB = s.all dgB) (fun i => s.length - i) 0 ⟨by omega, rfl⟩ (fun _ => rfl) ?_ ?_
 ·
  repeat' first | exact trivial | exact rfl | exact congrArg int (by (try dsimp only); omega) | apply And.intro
 ·rintro i ⟨h1, h2⟩
  conv => whnf
  refine Case.dec (fun h0 => ?_) (fun h0 => ?_)
  ·obtain ⟨c, hc⟩ : ∃ c, s[i]? = some c := ⟨_, List.getElem?_eq_getElem (by omega)⟩
   have hd : s.drop i = c :: s.drop (i + 1) := drop_cons' hc
   rw [hd, List.all_cons] at h2
   have hc8 := c.toNat_lt
   conv => whnf
   repeat' first | ((first | refine Case.yes ?_ | refine Case.decT (by assumption) ?_ | refine Case.decF (by assumption) ?_ | refine Owes.mk byteRow_len ?_ | refine Elem.mk i _ rfl (bytes_get hc) ?_ | refine Num.id (by omega) (by omega) ?_); conv => whnf) | (refine Case.dec (fun _ => ?_) (fun _ => ?_) <;> conv => whnf)
   ·have : dgB c = false := by simp [dgB, digit]; omega
    exact Fin.isB (by rw [← h2, this]; rfl)
   ·have : dgB c = false := by simp [dgB, digit]; omega
    exact Fin.isB (by rw [← h2, this]; rfl)
   ·have : dgB c = true := by simp [dgB, digit]; omega
    rw [this, Bool.true_and] at h2
    refine ⟨i + 1, ⟨by omega, h2⟩, by omega, ?_⟩
    repeat' first | exact trivial | exact rfl | apply And.intro
  ·rw [show s.drop i = [] by rw [List.drop_eq_nil_iff]; omega] at h2
   conv => whnf
   exact Fin.isB (by rw [← h2]; rfl)
theorem size_sB (s : List UInt8) : (⟨s.toArray⟩ : ByteArray).size = s.length := rfl
theorem yhasp (s : List UInt8) (hs : s.length < 1000000000) (c : UInt8) : Pure 158 [sB s, .str ⟨#[c]⟩] (bool (decide (s.head? = some c))) := by
 have h1 : (⟨#[c]⟩ : ByteArray).size = 1 := rfl
 refine .mk trivial (spec_mk tab_ok Tryz.func158 (by rfl) rfl ?_)
 cases s with
 | nil =>
  have h2 : (⟨([] : List UInt8).toArray⟩ : ByteArray).size = 0 := rfl
  conv => whnf
  repeat' (refine Case.no ?_; conv => whnf)
  exact Fin.isB (by simp)
 | cons d r =>
  have h2 := size_sB (d :: r)
  conv => whnf
  repeat' first | ((first | refine Case.decT (by assumption) ?_ | refine Case.decF (by assumption) ?_ | (refine Owes.mk (by simp only [List.length_cons] at *; omega) ?_)); conv => whnf) | (refine Case.dec (fun _ => ?_) (fun _ => ?_) <;> conv => whnf)
  ·refine Fin.isB ?_
   rw [h1, ext_listB]
   simp [ByteArray.toList_eq]
   rw [Bool.eq_iff_iff]
   simp
  ·exfalso
   simp only [List.length_cons] at *
   omega
theorem yhaspS (s : List UInt8) (hs : s.length < 1000000000) (c : UInt8) : Pure 141 [sB s, .str ⟨#[c]⟩] (bool (decide (s.head? = some c))) := by
 refine .mk trivial (spec_mk tab_ok Tryz.func141 (by rfl) rfl ?_)
 conv => whnf
 repeat' (refine (yhasp s hs c).call ⟨rfl, rfl, rfl⟩ ?_; conv => whnf)
 exact Fin.isB rfl
theorem ycut (s : List UInt8) (hs : s.length < 1000000000) : Pure 159 [sB s, .str ⟨#[46]⟩] (.tup [sB (splitDot s).1, sB ((splitDot s).2.getD []), bool (splitDot s).2.isSome]) := by
 have h1 : (⟨#[46]⟩ : ByteArray).size = 1 := rfl
 have h2 := size_sB s
 have hr := index_room s 46
 refine .mk ⟨trivial, trivial, trivial, trivial⟩ (spec_mk tab_ok Tryz.func159 (by rfl) rfl ?_)
 conv => whnf
 repeat' first | ((first | refine (yindex s 46).call ⟨rfl, rfl, rfl⟩ ?_ | ((refine V3.step_draws tab_ok mix (.one 0 0 (.one 1 0 (.one 2 0 (.one 3 0 (.one 4 0 (.one 5 0 (.one 6 0 (.one 7 0 (.one 8 0 (.one 9 0 (.one 10 0 (.one 11 0 .done)))))))))))) [] ?hs ?_; (case hs => decide +kernel))) | refine Owes.mk (by omega) ?_ | refine Num.id (by omega) (by omega) ?_); conv => whnf) | (refine Case.dec (fun _ => ?_) (fun _ => ?_) <;> conv => whnf)
 ·obtain ⟨j, hj⟩ := Int.eq_ofNat_of_zero_le (by assumption)
  have e := splitDot_some s j hj
  rw [h1, h2, hj, ext_listB, ext_listB, e]
  refine Fin.scal ⟨trivial, trivial, trivial, trivial⟩ ⟨rfl, ?_⟩
  simp [List.take_of_length_le]
 ·have e := splitDot_none s (by omega)
  rw [e]
  exact Fin.scal ⟨trivial, trivial, trivial, trivial⟩ ⟨rfl, rfl⟩
theorem ycutS (s : List UInt8) (hs : s.length < 1000000000) : Pure 142 [sB s, .str ⟨#[46]⟩] (.tup [sB (splitDot s).1, sB ((splitDot s).2.getD []), bool (splitDot s).2.isSome]) := by
 refine .mk ⟨trivial, trivial, trivial, trivial⟩ (spec_mk tab_ok Tryz.func142 (by rfl) rfl ?_)
 conv => whnf
 repeat' (refine (ycut s hs).call ⟨rfl, rfl, rfl⟩ ?_; conv => whnf)
 exact Fin.scal ⟨trivial, trivial, trivial, trivial⟩ ⟨rfl, rfl⟩
theorem splitDot_le (s : List UInt8) : (splitDot s).1.length ≤ s.length ∧ ((splitDot s).2.getD []).length ≤ s.length := by
 induction s with
 | nil => simp [splitDot]
 | cons c r ih =>
  unfold splitDot
  split <;> simp_all <;> omega
theorem numSign_drop (s : List UInt8) : numSign s = (decide (s.head? = some 45), if s.head? = some 45 ∨ s.head? = some 43 then 1 else 0) := by
 cases s with
 | nil => rfl
 | cons b r =>
  have e1 : b.toNat = 45 ↔ b = 45 := ⟨fun h => UInt8.toNat_inj.1 h, fun h => by rw [h]; rfl⟩
  have e2 : b.toNat = 43 ↔ b = 43 := ⟨fun h => UInt8.toNat_inj.1 h, fun h => by rw [h]; rfl⟩
  unfold numSign
  dsimp only
  by_cases h1 : b = 45
  ·subst h1; rfl
  ·by_cases h2 : b = 43
   ·subst h2; rfl
   ·rw [if_neg (by rw [e1]; exact h1), if_neg (by rw [e2]; exact h2)]
    simp [h1, h2]
theorem Num.id8 {x : Int} {K : Int → Prop} (h1 : 0 ≤ x) (h2 : x < 256) (h : K x) : Num .u8 x K := Num.wrap (by rw [wrap8 h1 h2]; exact h)
def accL (n : Int) (p : List UInt8) : Nat → Int
 | 0 => n
 | k + 1 => accL n p k * 10 + dL p k
def bdK : Nat → Int
 | 0 => 1099511627776
 | 1 => 10995116277769
 | 2 => 109951162777699
 | _ => 1099511627776999
theorem bdK_le {k : Nat} (h : k < 3) : bdK k * 10 + 9 = bdK (k + 1) ∧ bdK k ≤ 109951162777699 := by
 have : k = 0 ∨ k = 1 ∨ k = 2 := by omega
 rcases this with rfl | rfl | rfl <;> decide
structure OfK (n0 : Int) (p : List UInt8) (s : Nat × Int) : Prop where
 k : s.1 ≤ 3
 n : s.2 = accL n0 p s.1
 n0 : 0 ≤ s.2
 n1 : s.2 ≤ bdK s.1
structure OfI (w : List UInt8) (s : Nat × Int) : Prop where
 i : s.1 ≤ w.length
 run : (w.drop s.1).foldl stepF s.2 = foldF w
 n0 : 0 ≤ s.2
 n1 : s.2 ≤ 1099511627776
set_option maxHeartbeats 1000000 in
theorem yof (s : List UInt8) (hs : s.length < 1000000000) : Pure 127 [sB s] (.tup [int (numL s).1, bool (numL s).2]) := by
 have h2 := size_sB s
 have hsg := numSign_drop s
 refine .mk ⟨trivial, trivial, trivial⟩ (spec_step tab_ok Tryz.func127 (by rfl) rfl ?_)
 conv => whnf
 refine step_seq tab_ok ?_
 conv => whnf
 refine step_seq tab_ok ?_
 conv => whnf
 repeat' (refine (yhaspS s hs 45).call ⟨rfl, rfl, rfl⟩ ?_; conv => whnf)
 refine step_cut tab_ok (fun _ : Unit => padK [sB (s.drop (numSign s).2), .junk, .junk, .junk, bool (numSign s).1] 87) (fun _ => []) 0 (fun _ => True) (fun _ => rfl) ?_ ?_
 ·conv => whnf
  by_cases h45 : s.head? = some 45
  ·have hl : 1 ≤ s.length := by cases s with | nil => cases h45 | cons b r => simp
   have e : numSign s = (true, 1) := by rw [hsg, h45]; rfl
   rw [e, h45]
   repeat' ((first | refine Case.yes ?_ | refine Owes.mk (by omega) ?_); conv => whnf)
   refine ⟨(), trivial, ?_⟩
   rw [h2, ext_listB, List.take_of_length_le (by simp)]
   repeat' first | exact trivial | exact rfl | apply And.intro
  ·by_cases h43 : s.head? = some 43
   ·have hl : 1 ≤ s.length := by cases s with | nil => cases h43 | cons b r => simp
    have e : numSign s = (false, 1) := by rw [hsg, h43]; rfl
    rw [e, show decide (s.head? = some 45) = false by simpa using h45]
    repeat' ((first | refine Case.no ?_ | refine Case.decT (by assumption) ?_ | refine (yhaspS s hs 43).call ⟨rfl, rfl, rfl⟩ ?_ | refine Owes.mk (by omega) ?_); conv => whnf)
    refine ⟨(), trivial, ?_⟩
    rw [h2, ext_listB, List.take_of_length_le (by simp)]
    repeat' first | exact trivial | exact rfl | apply And.intro
   ·have e : numSign s = (false, 0) := by rw [hsg, show decide (s.head? = some 45) = false by simpa using h45, if_neg (by simp [h45, h43])]
    rw [e, show decide (s.head? = some 45) = false by simpa using h45]
    repeat' ((first | refine Case.no ?_ | refine Case.decF (by assumption) ?_ | refine (yhaspS s hs 43).call ⟨rfl, rfl, rfl⟩ ?_); conv => whnf)
    refine ⟨(), trivial, ?_⟩
    repeat' first | exact trivial | exact rfl | apply And.intro
 ·intro _ _
  have et : numL s = numBody (numSign s).1 (splitDot (s.drop (numSign s).2)).1 (splitDot (s.drop (numSign s).2)).2 := rfl
  have ht : (s.drop (numSign s).2).length < 1000000000 := by rw [List.length_drop]; omega
  rw [et]
  generalize s.drop (numSign s).2 = t at ht
  generalize (numSign s).1 = neg
  have hc := splitDot_le t
  have hcut := ycutS t ht
  rcases hsp : splitDot t with ⟨wh, pt⟩
  rw [hsp] at hc hcut
  simp only at hc hcut
  rcases pt with _ | p
  ·simp only [Option.getD_none, Option.isSome_none] at hcut hc
   have dp := ydigits [] (by simp)
   cases hw : wh.all dgB
   ·have dw := ydigits wh (by omega)
    rw [hw] at dw
    conv => whnf
    refine step_of tab_ok ?_
    conv => whnf
    repeat' ((first | refine Case.not ?_ | refine Case.yes ?_ | refine Case.no ?_ | refine hcut.call ⟨rfl, rfl, rfl⟩ ?_ | refine dw.call ⟨rfl, rfl⟩ ?_); conv => whnf)
    refine Fin.num ?_
    simp [numBody, hw]
   ·have dw := ydigits wh (by omega)
    rw [hw] at dw
    rcases wh with _ | ⟨c0, r0⟩
    ·conv => whnf
     refine step_of tab_ok ?_
     conv => whnf
     repeat' ((first | refine Case.not ?_ | refine Case.yes ?_ | refine Case.no ?_ | refine hcut.call ⟨rfl, rfl, rfl⟩ ?_ | refine dw.call ⟨rfl, rfl⟩ ?_ | refine Case.strT rfl ?_); conv => whnf)
     refine Fin.num ?_
     simp [numBody]
    ·conv => whnf
     refine step_of tab_ok ?_
     conv => whnf
     repeat' ((first | refine Case.not ?_ | refine Case.yes ?_ | refine Case.no ?_ | refine hcut.call ⟨rfl, rfl, rfl⟩ ?_ | refine dw.call ⟨rfl, rfl⟩ ?_ | refine dp.call ⟨rfl, rfl⟩ ?_ | refine Case.strF (by simp) ?_ | refine Way.fst ?_); conv => whnf)
     have hne : (c0 :: r0).isEmpty = false := rfl
     have hpd : ([] : List UInt8).all dgB = true := rfl
     generalize c0 :: r0 = wq at *
     ·have hlw : (wq.map byteRow).length = wq.length := List.length_map ..
      refine step_loop tab_ok (fun s : Nat × Int => padK [sB t, .junk, .junk, .junk, bool neg, .junk, sB ([]:List UInt8), .junk, int s.2, .junk, .junk, .junk, .junk, .junk, .junk, .junk, .junk, .junk, .junk, .junk, .junk, .junk, .junk, .junk, .junk, .junk, .junk, .junk, .junk, .junk, .junk, .junk, .junk, .junk, .junk, .junk, .junk, .junk, .junk, .junk, .junk, .junk, .junk, .junk, .junk, .junk, .junk, .junk, .junk, .junk, .junk, .f (.sl (wq.map byteRow)), int wq.length, int s.1] 87) (fun _ => []) 0 (OfI wq) (fun s => wq.length - s.1) (0, 0) ⟨by simp, rfl, by simp, by simp⟩ (fun _ => rfl) ?_ ?_
      ·
       repeat' first | exact trivial | exact rfl | exact congrArg int (by (try dsimp only); omega) | apply And.intro
       all_goals exact congrArg int (by simp)
      ·rintro ⟨i, n⟩ ⟨h1, h3, h4, h5⟩
       simp only at h1 h3 h4 h5
       dsimp only
       conv => whnf
       refine Case.dec (fun h0 => ?_) (fun h0 => ?_)
       ·obtain ⟨c, hcc⟩ : ∃ c, wq[i]? = some c := ⟨_, List.getElem?_eq_getElem (by omega)⟩
        have hd : wq.drop i = c :: wq.drop (i + 1) := drop_cons' hcc
        have hdg := dgB_le (List.all_eq_true.1 hw c (List.mem_of_getElem? hcc))
        rw [hd, List.foldl_cons] at h3
        conv => whnf
        repeat' ((first | refine Owes.mk byteRow_len ?_ | refine Elem.mk i _ rfl (bytes_get hcc) ?_ | refine Num.id8 (by omega) (by omega) ?_ | refine Num.id (by omega) (by omega) ?_); conv => whnf)
        refine ⟨(i + 1, stepF n c), ⟨by dsimp only; omega, h3, ?_, ?_⟩, by dsimp only; omega, ?_⟩
        ·unfold stepF dvB; dsimp only; split <;> omega
        ·unfold stepF dvB; dsimp only; split <;> omega
        ·
         repeat' first | exact trivial | exact rfl | apply And.intro
       ·rw [show wq.drop i = [] by rw [List.drop_eq_nil_iff]; omega, List.foldl_nil] at h3
        subst h3
        conv => whnf
        repeat' first
         | (refine Case.not ?_; conv => whnf)
         | (refine Case.yes ?_; conv => whnf)
         | (refine Case.no ?_; conv => whnf)
         | (refine Case.isTrue (by assumption) ?_; conv => whnf)
         | (refine Case.isFalse (by assumption) ?_; conv => whnf)
         | (refine Case.decT (by assumption) ?_; conv => whnf)
         | (refine Case.decF (by assumption) ?_; conv => whnf)
         | (refine Case.decT (by omega) ?_; conv => whnf)
         | (refine Case.decF (by omega) ?_; conv => whnf)
         | (refine Case.beqT (by omega) ?_; conv => whnf)
         | (refine Case.beqF (by omega) ?_; conv => whnf)
         | (refine Case.strT (by assumption) ?_; conv => whnf)
         | (refine Case.strF (by assumption) ?_; conv => whnf)
         | (refine Case.strF (by simp only [*]; decide) ?_; conv => whnf)
         | (refine step_kinds 2 ?hk ?_; (case hk => decide +kernel); conv => whnf)
         | (refine step_kinds 3 ?hk ?_; (case hk => decide +kernel); conv => whnf)
         | (refine Num.id (by omega) (by omega) ?_; conv => whnf)
         | (refine Case.strI (fun _ => ?_) (fun _ => ?_) <;> conv => whnf)
         | (refine Both.mk ?_ ?_ <;> conv => whnf)
         | (refine Case.dec (fun _ => ?_) (fun _ => ?_) <;> conv => whnf)
         | (refine Case.beqI (fun _ => ?_) (fun _ => ?_) <;> conv => whnf)
         | (refine Case.mk (fun _ => ?_) (fun _ => ?_) <;> conv => whnf)
         | (refine Way.fst ?_; conv => whnf)
        refine step_loop tab_ok (fun s : Nat × Int => padK [sB t, .junk, .junk, .junk, bool neg, .junk, sB ([]:List UInt8), .junk, int s.2, .junk, .junk, .junk, .junk, .junk, .junk, .junk, .junk, .junk, .junk, .junk, .junk, .junk, .junk, .junk, .junk, .junk, .junk, .junk, .junk, .junk, .junk, .junk, .junk, .junk, .junk, .junk, .junk, .junk, .junk, .junk, .junk, .junk, .junk, .junk, .junk, .junk, .junk, .junk, .junk, .junk, .junk, .junk, .junk, .junk, .junk, .junk, .junk, .junk, .junk, .junk, .junk, .junk, .junk, .junk, .junk, int s.1] 87) (fun _ => []) 0 (OfK (foldF wq) ([]:List UInt8)) (fun s => 3 - s.1) (0, foldF wq) ⟨by simp, rfl, h4, h5⟩ (fun _ => rfl) ?_ ?_
        ·
         repeat' first | exact trivial | exact rfl | apply And.intro
        ·rintro ⟨k, n⟩ ⟨g1, g2, g3, g4⟩
         simp only at g1 g2 g3 g4
         have hsz := size_sB ([]:List UInt8)
         dsimp only
         conv => whnf
         refine Case.dec (fun h0 => ?_) (fun h0 => ?_)
         ·have hb := bdK_le (k := k) (by omega)
          have hacc : accL (foldF wq) ([]:List UInt8) (k + 1) = n * 10 + dL ([]:List UInt8) k := by rw [accL, ← g2]
          conv => whnf
          refine Num.id (by omega) (by omega) ?_
          conv => whnf
          refine Case.dec (fun h8 => ?_) (fun h8 => ?_)
          ·obtain ⟨c, hcc⟩ : ∃ c, ([]:List UInt8)[k]? = some c := ⟨_, List.getElem?_eq_getElem (by rw [hsz] at h8; omega)⟩
           have hdg := dgB_le (List.all_eq_true.1 hpd c (List.mem_of_getElem? hcc))
           have hdl : dL ([]:List UInt8) k = c.toNat - 48 := by unfold dL; rw [hcc]; rfl
           conv => whnf
           repeat' ((first | refine Byte.mk k c rfl (by simpa using hcc) ?_ | refine Num.id8 (by omega) (by omega) ?_ | refine Num.id (by omega) (by omega) ?_); conv => whnf)
           refine ⟨(k + 1, n * 10 + (c.toNat - 48)), ⟨by dsimp only; omega, by dsimp only; rw [hacc, hdl], by dsimp only; omega, by dsimp only; omega⟩, by dsimp only; omega, ?_⟩
           repeat' first | exact trivial | exact rfl | apply And.intro
          ·have hdl : dL ([]:List UInt8) k = 0 := by unfold dL; rw [List.getElem?_eq_none (by rw [hsz] at h8; omega)]
           conv => whnf
           repeat' (refine Num.id (by omega) (by omega) ?_; conv => whnf)
           refine ⟨(k + 1, n * 10), ⟨by dsimp only; omega, by dsimp only; rw [hacc, hdl]; omega, by dsimp only; omega, by dsimp only; omega⟩, by dsimp only; omega, ?_⟩
           repeat' first | exact trivial | exact rfl | apply And.intro
         ·have hk : k = 3 := by omega
          subst hk
          have g2 : n = fracL (foldF wq) ([]:List UInt8) := g2
          have g4 : n ≤ 1099511627776999 := g4
          conv => whnf
          repeat' first | ((first | refine (ycap _).call ⟨rfl, rfl⟩ ?_ | refine Num.id (by omega) (by omega) ?_); conv => whnf) | (refine Case.mk (fun _ => ?_) (fun _ => ?_) <;> conv => whnf)
          ·refine Fin.num ?_
           simp [numBody, hw, hpd, sgnN, g2, hne, (by assumption : neg = true)]
          ·refine Fin.num ?_
           simp [numBody, hw, hpd, sgnN, g2, hne, (by assumption : neg = false)]
  ·simp only [Option.getD_some, Option.isSome_some] at hcut hc
   have dw := ydigits wh (by omega)
   have dp := ydigits p (by omega)
   cases hw : wh.all dgB
   ·rw [hw] at dw
    conv => whnf
    refine step_of tab_ok ?_
    conv => whnf
    repeat' ((first | refine Case.not ?_ | refine Case.yes ?_ | refine Case.no ?_ | refine hcut.call ⟨rfl, rfl, rfl⟩ ?_ | refine dw.call ⟨rfl, rfl⟩ ?_); conv => whnf)
    refine Fin.num ?_
    simp [numBody, hw]
   ·rw [hw] at dw
    cases hpd : p.all dgB
    ·rw [hpd] at dp
     conv => whnf
     refine step_of tab_ok ?_
     conv => whnf
     repeat' ((first | refine Case.not ?_ | refine Case.yes ?_ | refine Case.no ?_ | refine hcut.call ⟨rfl, rfl, rfl⟩ ?_ | refine dw.call ⟨rfl, rfl⟩ ?_ | refine dp.call ⟨rfl, rfl⟩ ?_); conv => whnf)
     refine Fin.num ?_
     simp [numBody, hw, hpd]
    ·rw [hpd] at dp
     rcases p with _ | ⟨c0, r0⟩
     ·conv => whnf
      refine step_of tab_ok ?_
      conv => whnf
      repeat' ((first | refine Case.not ?_ | refine Case.yes ?_ | refine hcut.call ⟨rfl, rfl, rfl⟩ ?_ | refine dw.call ⟨rfl, rfl⟩ ?_ | refine dp.call ⟨rfl, rfl⟩ ?_ | refine Case.strT rfl ?_); conv => whnf)
      refine Fin.num ?_
      simp [numBody]
     ·conv => whnf
      refine step_of tab_ok ?_
      conv => whnf
      repeat' ((first | refine Case.not ?_ | refine Case.yes ?_ | refine Case.no ?_ | refine hcut.call ⟨rfl, rfl, rfl⟩ ?_ | refine dw.call ⟨rfl, rfl⟩ ?_ | refine dp.call ⟨rfl, rfl⟩ ?_ | refine Case.strF (by simp) ?_ | refine Way.fst ?_); conv => whnf)
      have hne : (c0 :: r0).isEmpty = false := rfl
      generalize c0 :: r0 = pq at *
      ·have hlw : (wh.map byteRow).length = wh.length := List.length_map ..
       refine step_loop tab_ok (fun s : Nat × Int => padK [sB t, .junk, .junk, .junk, bool neg, .junk, sB pq, .junk, int s.2, .junk, .junk, .junk, .junk, .junk, .junk, .junk, .junk, .junk, .junk, .junk, .junk, .junk, .junk, .junk, .junk, .junk, .junk, .junk, .junk, .junk, .junk, .junk, .junk, .junk, .junk, .junk, .junk, .junk, .junk, .junk, .junk, .junk, .junk, .junk, .junk, .junk, .junk, .junk, .junk, .junk, .junk, .f (.sl (wh.map byteRow)), int wh.length, int s.1] 87) (fun _ => []) 0 (OfI wh) (fun s => wh.length - s.1) (0, 0) ⟨by simp, rfl, by simp, by simp⟩ (fun _ => rfl) ?_ ?_
       ·
        repeat' first | exact trivial | exact rfl | exact congrArg int (by (try dsimp only); omega) | apply And.intro
        all_goals exact congrArg int (by simp)
       ·rintro ⟨i, n⟩ ⟨h1, h3, h4, h5⟩
        simp only at h1 h3 h4 h5
        dsimp only
        conv => whnf
        refine Case.dec (fun h0 => ?_) (fun h0 => ?_)
        ·obtain ⟨c, hcc⟩ : ∃ c, wh[i]? = some c := ⟨_, List.getElem?_eq_getElem (by omega)⟩
         have hd : wh.drop i = c :: wh.drop (i + 1) := drop_cons' hcc
         have hdg := dgB_le (List.all_eq_true.1 hw c (List.mem_of_getElem? hcc))
         rw [hd, List.foldl_cons] at h3
         conv => whnf
         repeat' ((first | refine Owes.mk byteRow_len ?_ | refine Elem.mk i _ rfl (bytes_get hcc) ?_ | refine Num.id8 (by omega) (by omega) ?_ | refine Num.id (by omega) (by omega) ?_); conv => whnf)
         refine ⟨(i + 1, stepF n c), ⟨by dsimp only; omega, h3, ?_, ?_⟩, by dsimp only; omega, ?_⟩
         ·unfold stepF dvB; dsimp only; split <;> omega
         ·unfold stepF dvB; dsimp only; split <;> omega
         ·
          repeat' first | exact trivial | exact rfl | apply And.intro
        ·rw [show wh.drop i = [] by rw [List.drop_eq_nil_iff]; omega, List.foldl_nil] at h3
         subst h3
         conv => whnf
         repeat' first
          | (refine Case.not ?_; conv => whnf)
          | (refine Case.yes ?_; conv => whnf)
          | (refine Case.no ?_; conv => whnf)
          | (refine Case.isTrue (by assumption) ?_; conv => whnf)
          | (refine Case.isFalse (by assumption) ?_; conv => whnf)
          | (refine Case.decT (by assumption) ?_; conv => whnf)
          | (refine Case.decF (by assumption) ?_; conv => whnf)
          | (refine Case.decT (by omega) ?_; conv => whnf)
          | (refine Case.decF (by omega) ?_; conv => whnf)
          | (refine Case.beqT (by omega) ?_; conv => whnf)
          | (refine Case.beqF (by omega) ?_; conv => whnf)
          | (refine Case.strT (by assumption) ?_; conv => whnf)
          | (refine Case.strF (by assumption) ?_; conv => whnf)
          | (refine Case.strF (by simp only [*]; decide) ?_; conv => whnf)
          | (refine step_kinds 2 ?hk ?_; (case hk => decide +kernel); conv => whnf)
          | (refine step_kinds 3 ?hk ?_; (case hk => decide +kernel); conv => whnf)
          | (refine Num.id (by omega) (by omega) ?_; conv => whnf)
          | (refine Case.strI (fun _ => ?_) (fun _ => ?_) <;> conv => whnf)
          | (refine Both.mk ?_ ?_ <;> conv => whnf)
          | (refine Case.dec (fun _ => ?_) (fun _ => ?_) <;> conv => whnf)
          | (refine Case.beqI (fun _ => ?_) (fun _ => ?_) <;> conv => whnf)
          | (refine Case.mk (fun _ => ?_) (fun _ => ?_) <;> conv => whnf)
          | (refine Way.fst ?_; conv => whnf)
         refine step_loop tab_ok (fun s : Nat × Int => padK [sB t, .junk, .junk, .junk, bool neg, .junk, sB pq, .junk, int s.2, .junk, .junk, .junk, .junk, .junk, .junk, .junk, .junk, .junk, .junk, .junk, .junk, .junk, .junk, .junk, .junk, .junk, .junk, .junk, .junk, .junk, .junk, .junk, .junk, .junk, .junk, .junk, .junk, .junk, .junk, .junk, .junk, .junk, .junk, .junk, .junk, .junk, .junk, .junk, .junk, .junk, .junk, .junk, .junk, .junk, .junk, .junk, .junk, .junk, .junk, .junk, .junk, .junk, .junk, .junk, .junk, int s.1] 87) (fun _ => []) 0 (OfK (foldF wh) pq) (fun s => 3 - s.1) (0, foldF wh) ⟨by simp, rfl, h4, h5⟩ (fun _ => rfl) ?_ ?_
         ·
          repeat' first | exact trivial | exact rfl | apply And.intro
         ·rintro ⟨k, n⟩ ⟨g1, g2, g3, g4⟩
          simp only at g1 g2 g3 g4
          have hsz := size_sB pq
          dsimp only
          conv => whnf
          refine Case.dec (fun h0 => ?_) (fun h0 => ?_)
          ·have hb := bdK_le (k := k) (by omega)
           have hacc : accL (foldF wh) pq (k + 1) = n * 10 + dL pq k := by rw [accL, ← g2]
           conv => whnf
           refine Num.id (by omega) (by omega) ?_
           conv => whnf
           refine Case.dec (fun h8 => ?_) (fun h8 => ?_)
           ·obtain ⟨c, hcc⟩ : ∃ c, pq[k]? = some c := ⟨_, List.getElem?_eq_getElem (by rw [hsz] at h8; omega)⟩
            have hdg := dgB_le (List.all_eq_true.1 hpd c (List.mem_of_getElem? hcc))
            have hdl : dL pq k = c.toNat - 48 := by unfold dL; rw [hcc]; rfl
            conv => whnf
            repeat' ((first | refine Byte.mk k c rfl (by simpa using hcc) ?_ | refine Num.id8 (by omega) (by omega) ?_ | refine Num.id (by omega) (by omega) ?_); conv => whnf)
            refine ⟨(k + 1, n * 10 + (c.toNat - 48)), ⟨by dsimp only; omega, by dsimp only; rw [hacc, hdl], by dsimp only; omega, by dsimp only; omega⟩, by dsimp only; omega, ?_⟩
            repeat' first | exact trivial | exact rfl | apply And.intro
           ·have hdl : dL pq k = 0 := by unfold dL; rw [List.getElem?_eq_none (by rw [hsz] at h8; omega)]
            conv => whnf
            repeat' (refine Num.id (by omega) (by omega) ?_; conv => whnf)
            refine ⟨(k + 1, n * 10), ⟨by dsimp only; omega, by dsimp only; rw [hacc, hdl]; omega, by dsimp only; omega, by dsimp only; omega⟩, by dsimp only; omega, ?_⟩
            repeat' first | exact trivial | exact rfl | apply And.intro
          ·have hk : k = 3 := by omega
           subst hk
           have g2 : n = fracL (foldF wh) pq := g2
           have g4 : n ≤ 1099511627776999 := g4
           conv => whnf
           repeat' first | ((first | refine (ycap _).call ⟨rfl, rfl⟩ ?_ | refine Num.id (by omega) (by omega) ?_); conv => whnf) | (refine Case.mk (fun _ => ?_) (fun _ => ?_) <;> conv => whnf)
           ·refine Fin.num ?_
            simp [numBody, hw, hpd, sgnN, g2, hne, (by assumption : neg = true)]
           ·refine Fin.num ?_
            simp [numBody, hw, hpd, sgnN, g2, hne, (by assumption : neg = false)]
theorem yofV (s : List UInt8) (hs : s.length < 1000000000) : Pure 127 [sB s] (.tup [int (numV s).1, bool (numV s).2]) := by
  rw [numV_numL]
  exact yof s hs
theorem putB_asc {c : Int} (h0 : 0 ≤ c) (h1 : c < 128) : putB c = [b8 c] := by
  have e : right c = true := by unfold right; simp; omega
  unfold putB utfB
  rw [e, if_pos rfl, if_pos h1]
theorem Num.wrap8 {x : Int} {K : Int → Prop} (h : K (IntKind.u8.wrap x)) : Num .u8 x K := Num.wrap h
theorem yfigures (l : List Int) (hl : l.length < 100000000) (a : Nat) (ha : a ≤ l.length) (bs : List UInt8) (hb : bs.length ≤ 4 * a) : Spec P 126 [.ptr 0 0, .own 0 5 1 (bs.map byteRow)] [some (rdr l a)] 1 (fun d H => d = .own 0 5 1 ((digRun l (l.length + 1) a bs).1.map byteRow) ∧ H = [some (rdr l (digRun l (l.length + 1) a bs).2)]) := by
  refine spec_mk tab_ok Tryz.func126 (by rfl) rfl ?_
  conv => whnf
  refine step_loop tab_ok (fun s : Nat × List UInt8 × Bool => padK [.ptr 0 0, .own 0 5 1 (s.2.1.map byteRow)] 22) (fun s => [some (rdr l s.1)]) 1 (DigI l (digRun l (l.length + 1) a bs) true) (fun s => l.length - s.1) (a, bs, true) ⟨ha, hb, rfl, fun f hf => digRun_fuel l f _ _ _ hf (by omega)⟩ (fun _ => rfl) ?_ ?_
  ·
    repeat' first | exact trivial | exact rfl | exact Nat.zero_lt_succ _ | apply And.intro
  · generalize digRun l (l.length + 1) a bs = r0
    rintro ⟨p, bs, w⟩ ⟨g1, g2, g3, g4⟩
    simp only at g1 g2 g3 g4
    subst g3
    dsimp only
    conv => whnf
    repeat' first | ((first | refine (yat_at l (by omega) p (by omega) _ p (by omega) (by omega) (by omega)).call ⟨⟨rfl, rfl, trivial⟩, rfl, rfl⟩ ?_ | refine (ydigit_spec _).call ⟨rfl, rfl⟩ ?_ | (refine Owes.mk (by simp; omega) ?_) | refine Num.wrap8 ?_ | refine Num.id (by omega) (by omega) ?_); conv => whnf) | (refine Case.mk (fun _ => ?_) (fun _ => ?_) <;> conv => whnf)
    · have h := digit_lt (by assumption : digit (see l p) = true)
      have hd := digit_le (by assumption : digit (see l p) = true)
      have e : putB (see l p) = [b8 (see l p)] := putB_asc (by omega) (by omega)
      refine ⟨(p + 1, bs ++ putB (see l p), true), ⟨by dsimp only; omega, by dsimp only; rw [List.length_append, e]; simp; omega, rfl, fun f hf => ?_⟩, by dsimp only; omega, ?_⟩
      · dsimp only at hf ⊢
        rw [← g4 (f + 1) (by omega), digRun, if_pos (by assumption)]
      · have er : byteRow (b8 (see l p)) = [F.v (.int .u8 (IntKind.u8.wrap (see l p)))] := by rw [b8_row (by omega) (by omega), wrap8 (by omega) (by omega)]
        rw [e, List.map_append, List.map_cons, er]
        repeat' first | exact trivial | exact rfl | exact Nat.zero_lt_succ _ | apply And.intro
    · have e := digRun_end g4 (by assumption)
      rw [e]
      exact Fin.mk (.own 0 5 1 (bs.map byteRow)) [some (rdr l p)] ⟨rfl, rfl⟩ rfl ⟨by unfold intoL intoL intoD; exact ⟨⟨rfl, by decide⟩, rfl⟩, ⟨rfl, rfl, rfl⟩, by unfold intoH; trivial⟩
theorem yfig_call {l : List Int} {a k n : Nat} {bs : List UInt8} {E : List D} {H : Hp} {K : KD} (hk : k < n) (hl : l.length < 100000000) (ha : a ≤ l.length) (hb : bs.length ≤ 4 * a) (h : killsK [k] E fun E => killsHK [k] H fun H => K (.own k 5 1 ((digRun l (l.length + 1) a bs).1.map byteRow)) E (some (rdr l (digRun l (l.length + 1) a bs).2) :: H) n) : Call P 126 [.ptr 0 0, .own k 5 1 (bs.map byteRow)] E (some (rdr l a) :: H) n K := by
  rw [killsK_eq, killsHK_eq] at h
  refine call_gen («as» := [.ptr 0 0, .own 0 5 1 (bs.map byteRow)]) [0] [k] (yfigures l hl a ha bs hb) (by simp) (by simp) (by simp) (by simpa using hk) ?_ ⟨Nat.zero_lt_one, Nat.zero_lt_one, trivial⟩ ?_
  · unfold fitH fitH; exact ⟨⟨rfl, ⟨trivial, trivial, trivial⟩⟩, trivial⟩
  · rintro d Hs' ⟨rfl, rfl⟩ _
    exact h
theorem digRun_fin (l : List Int) : ∀ (f p : Nat) (bs : List UInt8), p ≤ l.length → bs.length ≤ 4 * p → (digRun l f p bs).2 ≤ l.length ∧ (digRun l f p bs).1.length ≤ 4 * (digRun l f p bs).2
  | 0, p, bs, h1, h2 => ⟨h1, h2⟩
  | f + 1, p, bs, h1, h2 => by
    unfold digRun
    split
    · rename_i h
      have h3 := digit_lt h
      have hb := putB_le (see l p)
      exact digRun_fin l f (p + 1) (bs ++ putB (see l p)) h3 (by rw [List.length_append]; omega)
    · exact ⟨h1, h2⟩
def b1 (c : Int) : List UInt8 := [b8 c]
theorem numSgn_le {l : List Int} {a : Nat} (ha : a ≤ l.length) : (numSgn l a).2 ≤ l.length ∧ (numSgn l a).1.length ≤ 4 * (numSgn l a).2 := by
  unfold numSgn
  split
  · rename_i h
    have h1 := see_lt (l := l) (i := a) (by omega)
    have := putB_le (see l a)
    exact ⟨h1, by dsimp only; omega⟩
  · exact ⟨ha, by simp⟩
set_option maxHeartbeats 2000000 in
theorem yamount (l : List Int) (hl : l.length < 100000000) (a : Nat) (ha : a ≤ l.length) : Meth 106 l a (numericT l a).d (numericP l a) := by
  have hs0 := numSgn_le ha
  have hi0 := digRun_fin l (l.length + 1) (numSgn l a).2 (numSgn l a).1 hs0.1 hs0.2
  refine ⟨tok_scal _, spec_step tab_ok Tryz.func106 (by rfl) rfl ?_⟩
  conv => whnf
  refine step_seq tab_ok ?_
  conv => whnf
  refine step_seq tab_ok ?_
  conv => whnf
  refine step_into (E' := padK [.ptr 0 0, .junk, .ptr 1 0, .own 0 5 1 (([] : List UInt8).map byteRow)] 83) (H' := [some (rdr l a), some tok0]) (n' := 1) rfl ?_ ?_
  ·
    repeat' first | exact trivial | exact rfl | exact (by decide : 0 < 1) | exact Nat.le_refl _ | exact Nat.zero_lt_succ _ | apply And.intro
  conv => whnf
  refine step_cut tab_ok (fun s : Unit => padK [.ptr 0 0, .junk, .ptr 1 0, .own 0 5 1 ((numSgn l a).1.map byteRow)] 83) (fun s => [some (rdr l (numSgn l a).2), some tok0]) 1 (fun _ => True) (fun _ => rfl) ?_ ?_
  · conv => whnf
    by_cases hc : see l a = 43 ∨ see l a = 45
    · have e : numSgn l a = ([b8 (see l a)], a + 1) := by unfold numSgn; rw [if_pos hc, putB_asc (by omega) (by omega)]
      have er : byteRow (b8 (see l a)) = [F.v (.int .u8 (IntKind.u8.wrap (see l a)))] := by rw [b8_row (by omega) (by omega), wrap8 (by omega) (by omega)]
      rw [e]
      simp only [List.map_cons, er]
      repeat' first | ((first | refine Case.yes ?_ | refine Case.decT (by assumption) ?_ | refine Case.decF (by assumption) ?_ | refine Case.decT (by omega) ?_ | refine (yat_at l (by omega) a (by omega) _ a (by omega) (by omega) (by omega)).call ⟨⟨rfl, rfl, trivial⟩, rfl, rfl⟩ ?_ | refine Owes.mk (by simp) ?_ | refine Num.wrap8 ?_ | refine Num.id (by omega) (by omega) ?_); conv => whnf) | (refine Case.dec (fun _ => ?_) (fun _ => ?_) <;> conv => whnf)
      all_goals refine ⟨(), trivial, ?_⟩
      ·
        repeat' first | exact trivial | exact rfl | exact (by decide : 0 < 1) | exact Nat.le_refl _ | exact Nat.zero_lt_succ _ | apply And.intro
      ·
        repeat' first | exact trivial | exact rfl | exact (by decide : 0 < 1) | exact Nat.le_refl _ | exact Nat.zero_lt_succ _ | apply And.intro
    · have e : numSgn l a = ([], a) := by unfold numSgn; rw [if_neg hc]
      rw [e]
      repeat' ((first | refine Case.decF (by omega) ?_ | refine (yat_at l (by omega) a (by omega) _ a (by omega) (by omega) (by omega)).call ⟨⟨rfl, rfl, trivial⟩, rfl, rfl⟩ ?_); conv => whnf)
      refine ⟨(), trivial, ?_⟩
      repeat' first | exact trivial | exact rfl | exact (by decide : 0 < 1) | exact Nat.le_refl _ | exact Nat.zero_lt_succ _ | apply And.intro
  intro _ _
  have eN : digRun l (l.length + 1) (numSgn l a).2 (numSgn l a).1 = numInt l a := rfl
  rw [eN] at hi0
  conv => whnf
  refine step_seq tab_ok ?_
  conv => whnf
  repeat' (refine yfig_call (by omega) hl hs0.1 hs0.2 ?_; conv => whnf)
  rw [eN]
  rcases hN : numInt l a with ⟨bs, p⟩
  rw [hN] at hi0
  simp only at hi0
  obtain ⟨hp, hbp⟩ := hi0
  have q1 : (numInt l a).1 = bs := by rw [hN]
  have q2 : (numInt l a).2 = p := by rw [hN]
  by_cases hw : see l p = 46 ∧ digit (see l (p + 1)) = true
  · have hp1 := digit_lt hw.2
    have eB : numB l a = ((digRun l (l.length + 1) (p + 1) (bs ++ [46])).1, (digRun l (l.length + 1) (p + 1) (bs ++ [46])).2, false) := by unfold numB; rw [q1, q2, if_pos hw]
    have hf := digRun_fin l (l.length + 1) (p + 1) (bs ++ [46]) (by omega) (by rw [List.length_append]; simp; omega)
    rcases hr : digRun l (l.length + 1) (p + 1) (bs ++ [46]) with ⟨B, q⟩
    rw [hr] at eB hf
    simp only at eB hf
    have er : List.map byteRow ((bs, p) : List UInt8 × Nat).fst ++ [[F.v (.int .u8 46)]] = (bs ++ [46]).map byteRow := by simp [byteRow]
    have hd := ydigit_spec (see l (p + 1))
    rw [hw.2] at hd
    refine step_of tab_ok ?_
    conv => whnf
    repeat' ((first | refine Case.not ?_ | refine Case.yes ?_ | refine Case.decT (by omega) ?_ | refine (yat_at l (by omega) p (by omega) _ p (by omega) (by omega) (by omega)).call ⟨⟨rfl, rfl, trivial⟩, rfl, rfl⟩ ?_ | refine (yat_at l (by omega) p (by omega) _ (p + 1) (by omega) (by omega) (by omega)).call ⟨⟨rfl, rfl, trivial⟩, rfl, rfl⟩ ?_ | refine hd.call ⟨rfl, rfl⟩ ?_ | (refine Owes.mk (by first | omega | (simp; omega)) ?_) | refine Num.id (by omega) (by omega) ?_); conv => whnf)
    rw [er]
    refine yfig_call (l := l) (a := p + 1) (k := 0) (n := 2) (bs := bs ++ [46]) (H := [some tok0]) (by omega) hl (by omega) (by rw [List.length_append]; simp; omega) ?_
    rw [hr]
    conv => whnf
    repeat' first | ((first | refine (yat_at l (by omega) q (by omega) _ q (by omega) (by omega) (by omega)).call ⟨⟨rfl, rfl, trivial⟩, rfl, rfl⟩ ?_ | refine Owes.mk rfl ?_ | refine AsBytes.mk B rfl ?_ | refine (yofV B (by omega)).call ⟨rfl, rfl⟩ ?_ | refine (yname_at l (by omega) q (by omega) _ q (by omega) (by omega) (by omega)).call ⟨⟨rfl, rfl, trivial⟩, rfl, rfl⟩ ?_ | refine (ypoints l hl q (by omega)).call ?_ | refine Num.id (by omega) (by omega) ?_); conv => whnf) | (refine Case.dec (fun _ => ?_) (fun _ => ?_) <;> conv => whnf) | (refine Case.mk (fun _ => ?_) (fun _ => ?_) <;> conv => whnf)
    all_goals first
      | (have eT : numericT l a = { kind := 8, n := (numV B).1, text := nameS l q } := by unfold numericT; rw [eB]; dsimp only; rw [if_pos (by assumption)]
         have eP : numericP l a = nameP l q := by unfold numericP; rw [eB]; dsimp only; rw [if_pos (by assumption)]
         exact Fin.rd (nameP l q) (tok_scal { kind := 8, n := (numV B).1, text := nameS l q }) rfl ⟨by rw [eT]; rfl, by rw [eP]⟩)
      | (have eT : numericT l a = { kind := 7, n := (numV B).1 } := by unfold numericT; rw [eB]; dsimp only; rw [if_neg (by simp_all), if_pos (by assumption)]
         have eP : numericP l a = q + 1 := by unfold numericP; rw [eB]; dsimp only; rw [if_neg (by simp_all), if_pos (by assumption)]
         exact Fin.rd (q + 1) (tok_scal { kind := 7, n := (numV B).1 }) rfl ⟨by rw [eT]; rfl, by rw [eP]⟩)
      | (have eT : numericT l a = { kind := 6, n := (numV B).1, whole := false } := by unfold numericT; rw [eB]; dsimp only; rw [if_neg (by simp_all), if_neg (by omega)]
         have eP : numericP l a = q := by unfold numericP; rw [eB]; dsimp only; rw [if_neg (by simp_all), if_neg (by omega)]
         exact Fin.rd q (tok_scal { kind := 6, n := (numV B).1, whole := false }) rfl ⟨by rw [eT]; rfl, by rw [eP]⟩)
      | skip
  · have eB : numB l a = (bs, p, true) := by unfold numB; rw [q1, q2, if_neg hw]
    have hd := ydigit_spec (see l (p + 1))
    refine step_of tab_ok ?_
    conv => whnf
    by_cases h46 : see l p = 46
    · have hd0 : digit (see l (p + 1)) = false := by
        cases h : digit (see l (p + 1))
        · rfl
        · exact absurd ⟨h46, h⟩ hw
      rw [hd0] at hd
      repeat' first
        | (refine Case.not ?_; conv => whnf)
        | (refine Case.no ?_; conv => whnf)
        | (refine Case.decT (by assumption) ?_; conv => whnf)
        | (refine Case.decF (by omega) ?_; conv => whnf)
        | (refine (yat_at l (by omega) p (by omega) _ p (by omega) (by omega) (by omega)).call ⟨⟨rfl, rfl, trivial⟩, rfl, rfl⟩ ?_; conv => whnf)
        | (refine (yat_at l (by omega) p (by omega) _ (p + 1) (by omega) (by omega) (by omega)).call ⟨⟨rfl, rfl, trivial⟩, rfl, rfl⟩ ?_; conv => whnf)
        | (refine hd.call ⟨rfl, rfl⟩ ?_; conv => whnf)
        | (refine Owes.mk rfl ?_; conv => whnf)
        | (refine AsBytes.mk bs rfl ?_; conv => whnf)
        | (refine (yofV bs (by omega)).call ⟨rfl, rfl⟩ ?_; conv => whnf)
        | (refine (yname_at l (by omega) p (by omega) _ p (by omega) (by omega) (by omega)).call ⟨⟨rfl, rfl, trivial⟩, rfl, rfl⟩ ?_; conv => whnf)
        | (refine (ypoints l hl p (by omega)).call ?_; conv => whnf)
        | (refine Case.mk (fun _ => ?_) (fun _ => ?_) <;> conv => whnf)
      all_goals first
        | (have eT : numericT l a = { kind := 8, n := (numV bs).1, text := nameS l p } := by unfold numericT; rw [eB]; dsimp only; rw [if_pos (by assumption)]
           have eP : numericP l a = nameP l p := by unfold numericP; rw [eB]; dsimp only; rw [if_pos (by assumption)]
           exact Fin.rd (nameP l p) (tok_scal { kind := 8, n := (numV bs).1, text := nameS l p }) rfl ⟨by rw [eT]; rfl, by rw [eP]⟩)
        | (have eT : numericT l a = { kind := 7, n := (numV bs).1 } := by unfold numericT; rw [eB]; dsimp only; rw [if_neg (by simp_all), if_pos (by assumption)]
           have eP : numericP l a = p + 1 := by unfold numericP; rw [eB]; dsimp only; rw [if_neg (by simp_all), if_pos (by assumption)]
           exact Fin.rd (p + 1) (tok_scal { kind := 7, n := (numV bs).1 }) rfl ⟨by rw [eT]; rfl, by rw [eP]⟩)
        | (have eT : numericT l a = { kind := 6, n := (numV bs).1, whole := true } := by unfold numericT; rw [eB]; dsimp only; rw [if_neg (by simp_all), if_neg (by omega)]
           have eP : numericP l a = p := by unfold numericP; rw [eB]; dsimp only; rw [if_neg (by simp_all), if_neg (by omega)]
           exact Fin.rd p (tok_scal { kind := 6, n := (numV bs).1, whole := true }) rfl ⟨by rw [eT]; rfl, by rw [eP]⟩)
        | skip
    ·
      repeat' first | ((first | refine Case.not ?_ | refine Case.yes ?_ | refine Case.decF (by assumption) ?_ | refine (yat_at l (by omega) p (by omega) _ p (by omega) (by omega) (by omega)).call ⟨⟨rfl, rfl, trivial⟩, rfl, rfl⟩ ?_ | refine Owes.mk rfl ?_ | refine AsBytes.mk bs rfl ?_ | refine (yofV bs (by omega)).call ⟨rfl, rfl⟩ ?_ | refine (yname_at l (by omega) p (by omega) _ p (by omega) (by omega) (by omega)).call ⟨⟨rfl, rfl, trivial⟩, rfl, rfl⟩ ?_ | refine (ypoints l hl p (by omega)).call ?_ | refine Num.id (by omega) (by omega) ?_); conv => whnf) | (refine Case.dec (fun _ => ?_) (fun _ => ?_) <;> conv => whnf) | (refine Case.mk (fun _ => ?_) (fun _ => ?_) <;> conv => whnf)
      all_goals first
        | (have eT : numericT l a = { kind := 8, n := (numV bs).1, text := nameS l p } := by unfold numericT; rw [eB]; dsimp only; rw [if_pos (by assumption)]
           have eP : numericP l a = nameP l p := by unfold numericP; rw [eB]; dsimp only; rw [if_pos (by assumption)]
           exact Fin.rd (nameP l p) (tok_scal { kind := 8, n := (numV bs).1, text := nameS l p }) rfl ⟨by rw [eT]; rfl, by rw [eP]⟩)
        | (have eT : numericT l a = { kind := 7, n := (numV bs).1 } := by unfold numericT; rw [eB]; dsimp only; rw [if_neg (by simp_all), if_pos (by assumption)]
           have eP : numericP l a = p + 1 := by unfold numericP; rw [eB]; dsimp only; rw [if_neg (by simp_all), if_pos (by assumption)]
           exact Fin.rd (p + 1) (tok_scal { kind := 7, n := (numV bs).1 }) rfl ⟨by rw [eT]; rfl, by rw [eP]⟩)
        | (have eT : numericT l a = { kind := 6, n := (numV bs).1, whole := true } := by unfold numericT; rw [eB]; dsimp only; rw [if_neg (by simp_all), if_neg (by omega)]
           have eP : numericP l a = p := by unfold numericP; rw [eB]; dsimp only; rw [if_neg (by simp_all), if_neg (by omega)]
           exact Fin.rd p (tok_scal { kind := 6, n := (numV bs).1, whole := true }) rfl ⟨by rw [eT]; rfl, by rw [eP]⟩)
        | skip
def tokT (l : List Int) (p : Nat) : Tok × Nat :=
  if white (see l p) then ({ kind := 9 }, whiteEnd l (l.length + 1) p)
  else if see l p = 34 ∨ see l p = 39 then (strT l p, strP l p)
  else if see l p = 35 ∧ (namePoint (see l (p + 1)) = true ∨ escape l (p + 1) = true) then ({ kind := 3, text := nameS l (p + 1) }, nameP l (p + 1))
  else if number l p then (numericT l p, numericP l p)
  else if see l p = 64 ∧ begins l (p + 1) = true then ({ kind := 2, text := nameS l (p + 1) }, nameP l (p + 1))
  else if begins l p then (if see l (nameP l p) = 40 then ({ kind := 20, text := nameS l p }, nameP l p + 1) else ({ kind := 1, text := nameS l p }, nameP l p))
  else (signT (see l p), p + 1)
theorem signT_is (c : Int) : signT c = if 0 < sign c then { kind := sign c } else { kind := 10, c := c } := by
  unfold signT signK sign
  (repeat' split) <;> first | rfl | omega | simp_all
theorem tokNext_T {l : List Int} {p : Nat} (h : ¬ (see l p = 47 ∧ see l (p + 1) = 42)) : tokNext l p = ([(tokT l p).1], (tokT l p).2) := by
  unfold tokNext tokT
  rw [if_neg h, signT_is]
  (repeat' split) <;> first | rfl | simp_all
structure WhI (l : List Int) (a p : Nat) : Prop where
  le : p ≤ l.length
  run : ∀ f, l.length - p < f → whiteEnd l f p = whiteEnd l (l.length + 1) a
set_option maxHeartbeats 2000000 in
theorem ytoken (l : List Int) (hl : l.length < 100000000) (a : Nat) (ha : a < l.length) : Meth 63 l a (tokT l a).1.d (tokT l a).2 := by
  refine ⟨tok_scal _, spec_mk tab_ok Tryz.func63 (by rfl) rfl ?_⟩
  by_cases hw : white (see l a) = true
  · have eT : tokT l a = ({ kind := 9 }, whiteEnd l (l.length + 1) a) := by unfold tokT; rw [if_pos hw]
    have w0 := ywhite_spec (see l a)
    rw [hw] at w0
    conv => whnf
    repeat' ((first | refine Case.yes ?_ | refine (yat_at l (by omega) a (by omega) _ a (by omega) (by omega) (by omega)).call ⟨⟨rfl, rfl, trivial⟩, rfl, rfl⟩ ?_ | refine w0.call ⟨rfl, rfl⟩ ?_); conv => whnf)
    refine step_loop tab_ok (fun p : Nat => padK [.ptr 0 0, .junk, .ptr 1 0] 64) (fun p => [some (rdr l p), some tok0]) 0 (WhI l a) (fun p => l.length - p) a ⟨by omega, fun f hf => whiteEnd_fuel l f _ _ hf (by omega)⟩ (fun _ => rfl) ?_ ?_
    ·
      repeat' first | exact trivial | exact rfl | exact Nat.le_refl _ | exact Nat.zero_lt_succ _ | apply And.intro
    · rintro p ⟨h1, h2⟩
      conv => whnf
      repeat' first | ((first | refine (yat_at l (by omega) p (by omega) _ p (by omega) (by omega) (by omega)).call ⟨⟨rfl, rfl, trivial⟩, rfl, rfl⟩ ?_ | refine (ywhite_spec _).call ⟨rfl, rfl⟩ ?_ | refine Num.id (by omega) (by omega) ?_); conv => whnf) | (refine Case.mk (fun _ => ?_) (fun _ => ?_) <;> conv => whnf)
      · have h3 := white_see (by assumption : white (see l p) = true)
        refine ⟨p + 1, ⟨h3, fun f hf => by rw [← h2 (f + 1) (by omega), whiteEnd, if_pos (by assumption)]⟩, by omega, ?_⟩
        repeat' first | exact trivial | exact rfl | exact Nat.le_refl _ | exact Nat.zero_lt_succ _ | apply And.intro
      · have e := h2 (l.length - p + 1) (by omega)
        rw [whiteEnd, if_neg (by simp [*])] at e
        refine Fin.rd p (tok_scal { kind := 9 }) rfl ⟨by rw [eT]; rfl, by rw [eT, ← e]⟩
  · have w0 := ywhite_spec (see l a)
    rw [Bool.eq_false_iff.2 hw] at w0
    have n0 := nameP_le (l := l) (p := a) (by omega)
    conv => whnf
    repeat' first
      | (refine Case.yes ?_; conv => whnf)
      | (refine Case.no ?_; conv => whnf)
      | (refine Case.isTrue (by assumption) ?_; conv => whnf)
      | (refine Case.isFalse (by assumption) ?_; conv => whnf)
      | (refine Case.decT (by assumption) ?_; conv => whnf)
      | (refine Case.decF (by assumption) ?_; conv => whnf)
      | (refine Case.decF (by omega) ?_; conv => whnf)
      | (refine (yat_at l (by omega) a (by omega) _ a (by omega) (by omega) (by omega)).call ⟨⟨rfl, rfl, trivial⟩, rfl, rfl⟩ ?_; conv => whnf)
      | (refine (yat_at l (by omega) a (by omega) _ (a + 1) (by omega) (by omega) (by omega)).call ⟨⟨rfl, rfl, trivial⟩, rfl, rfl⟩ ?_; conv => whnf)
      | (refine w0.call ⟨rfl, rfl⟩ ?_; conv => whnf)
      | (refine (yquoted l hl a ha (by omega)).call ?_; conv => whnf)
      | (refine (ypoint_spec _).call ⟨rfl, rfl⟩ ?_; conv => whnf)
      | (refine (yescape_at l (by omega) a (by omega) _ (a + 1) (by omega) (by omega) (by omega)).call ⟨⟨rfl, rfl, trivial⟩, rfl, rfl⟩ ?_; conv => whnf)
      | (refine (ybehind l hl a ha 3).call ?_; conv => whnf)
      | (refine (ybehind l hl a ha 2).call ?_; conv => whnf)
      | (refine (ynumber_spec l (by omega) a (by omega)).call ⟨⟨rfl, rfl, trivial⟩, rfl⟩ ?_; conv => whnf)
      | (refine (yamount l hl a (by omega)).call ?_; conv => whnf)
      | (refine (yname_at l (by omega) a (by omega) _ (a + 1) (by omega) (by omega) (by omega)).call ⟨⟨rfl, rfl, trivial⟩, rfl, rfl⟩ ?_; conv => whnf)
      | (refine (yname_at l (by omega) a (by omega) _ a (by omega) (by omega) (by omega)).call ⟨⟨rfl, rfl, trivial⟩, rfl, rfl⟩ ?_; conv => whnf)
      | (refine (yword l hl a (by omega)).call ?_; conv => whnf)
      | (refine (ysign l hl a (by omega)).call ?_; conv => whnf)
      | (refine Case.dec (fun _ => ?_) (fun _ => ?_) <;> conv => whnf)
      | (refine Case.mk (fun _ => ?_) (fun _ => ?_) <;> conv => whnf)
    all_goals first
      | (have e : tokT l a = (strT l a, strP l a) := (by first | (unfold tokT; (repeat' first | rw [if_pos (by first | assumption | omega | (simp_all; done) | fail "x")] | rw [if_neg (by first | assumption | omega | (simp_all; done) | fail "x")]); done) | fail "x")
         exact Fin.rd (strP l a) (tok_scal (strT l a)) rfl ⟨by rw [e]; rfl, by rw [e]⟩)
      | (have e : tokT l a = ({ kind := 3, text := nameS l (a + 1) }, nameP l (a + 1)) := (by first | (unfold tokT; (repeat' first | rw [if_pos (by first | assumption | omega | (simp_all; done) | fail "x")] | rw [if_neg (by first | assumption | omega | (simp_all; done) | fail "x")]); done) | fail "x")
         exact Fin.rd (nameP l (a + 1)) (tok_scal { kind := 3, text := nameS l (a + 1) }) rfl ⟨by rw [e]; rfl, by rw [e]⟩)
      | (have e : tokT l a = (numericT l a, numericP l a) := (by first | (unfold tokT; (repeat' first | rw [if_pos (by first | assumption | omega | (simp_all; done) | fail "x")] | rw [if_neg (by first | assumption | omega | (simp_all; done) | fail "x")]); done) | fail "x")
         exact Fin.rd (numericP l a) (tok_scal (numericT l a)) rfl ⟨by rw [e]; rfl, by rw [e]⟩)
      | (have e : tokT l a = ({ kind := 2, text := nameS l (a + 1) }, nameP l (a + 1)) := (by first | (unfold tokT; (repeat' first | rw [if_pos (by first | assumption | omega | (simp_all; done) | fail "x")] | rw [if_neg (by first | assumption | omega | (simp_all; done) | fail "x")]); done) | fail "x")
         exact Fin.rd (nameP l (a + 1)) (tok_scal { kind := 2, text := nameS l (a + 1) }) rfl ⟨by rw [e]; rfl, by rw [e]⟩)
      | (have e : tokT l a = (if see l (nameP l a) = 40 then (({ kind := 20, text := nameS l a } : Tok), nameP l a + 1) else ({ kind := 1, text := nameS l a }, nameP l a)) := (by first | (unfold tokT; (repeat' first | rw [if_pos (by first | assumption | omega | (simp_all; done) | fail "x")] | rw [if_neg (by first | assumption | omega | (simp_all; done) | fail "x")]); done) | fail "x")
         rw [e]
         by_cases h40 : see l (nameP l a) = 40
         · simp only [if_pos h40]
           exact Fin.rd (nameP l a + 1) (tok_scal { kind := 20, text := nameS l a }) rfl ⟨rfl, rfl⟩
         · simp only [if_neg h40]
           exact Fin.rd (nameP l a) (tok_scal { kind := 1, text := nameS l a }) rfl ⟨rfl, rfl⟩)
      | (have e : tokT l a = (signT (see l a), a + 1) := (by first | (unfold tokT; (repeat' first | rw [if_pos (by first | assumption | omega | (simp_all; done) | fail "x")] | rw [if_neg (by first | assumption | omega | (simp_all; done) | fail "x")]); done) | fail "x")
         exact Fin.rd (a + 1) (tok_scal (signT (see l a))) rfl ⟨by rw [e]; rfl, by rw [e]⟩)
      | skip
def cmtP (l : List Int) (a : Nat) : Nat := if commentEnd l (l.length + 1) (a + 2) < l.length then commentEnd l (l.length + 1) (a + 2) + 2 else l.length
structure CmI (l : List Int) (a p : Nat) : Prop where
  le : p ≤ l.length
  run : ∀ f, l.length - p < f → commentEnd l f p = commentEnd l (l.length + 1) (a + 2)
theorem see_in {l : List Int} {i : Nat} (h : i < l.length) : 0 ≤ see l i := by
  unfold see
  rw [List.getElem?_eq_getElem h]
  dsimp only
  split
  · rename_i hr; exact (right_le hr).1
  · omega
theorem see_out {l : List Int} {i : Nat} (h : l.length ≤ i) : see l i = -1 := by unfold see; rw [List.getElem?_eq_none h]
def isCm (l : List Int) (a : Nat) : Prop := see l a = 47 ∧ see l (a + 1) = 42
instance (l : List Int) (a : Nat) : Decidable (isCm l a) := by unfold isCm; infer_instance
set_option maxHeartbeats 1000000 in
theorem ycomment (l : List Int) (hl : l.length < 100000000) (a : Nat) (ha : a < l.length) : Meth 62 l a (bool (decide (isCm l a))) (if isCm l a then cmtP l a else a) := by
  have hp := ptsF_length l
  refine ⟨trivial, spec_mk tab_ok Tryz.func62 (by rfl) rfl ?_⟩
  by_cases hc : isCm l a
  · have hc' := hc
    obtain ⟨hc1, hc2⟩ := hc
    have h2 := see_lt (l := l) (i := a + 1) (by omega)
    rw [if_pos hc', decide_eq_true hc']
    conv => whnf
    repeat' ((first | refine Case.not ?_ | refine Case.decT (by assumption) ?_ | refine (yat_at l (by omega) a (by omega) _ a (by omega) (by omega) (by omega)).call ⟨⟨rfl, rfl, trivial⟩, rfl, rfl⟩ ?_ | refine (yat_at l (by omega) a (by omega) _ (a + 1) (by omega) (by omega) (by omega)).call ⟨⟨rfl, rfl, trivial⟩, rfl, rfl⟩ ?_ | refine Num.id (by omega) (by omega) ?_); conv => whnf)
    refine step_loop tab_ok (fun p : Nat => padK [.ptr 0 0] 50) (fun p => [some (rdr l p)]) 0 (CmI l a) (fun p => l.length - p) (a + 2) ⟨by omega, fun f hf => commentEnd_fuel l f _ _ hf (by omega)⟩ (fun _ => rfl) ?_ ?_
    ·
      repeat' first | exact trivial | exact rfl | exact (by decide : 0 < 1) | apply And.intro
    · rintro p ⟨h1, h3⟩
      conv => whnf
      have e := h3 (l.length - p + 1) (by omega)
      rw [commentEnd] at e
      repeat' first | ((first | refine Case.no ?_ | refine Case.decT (by assumption) ?_ | refine Case.decF (by assumption) ?_ | (refine step_kinds 2 ?hk ?_; (case hk => decide +kernel)) | refine (yat_at l (by omega) p (by omega) _ p (by omega) (by omega) (by omega)).call ⟨⟨rfl, rfl, trivial⟩, rfl, rfl⟩ ?_ | refine (yat_at l (by omega) p (by omega) _ (p + 1) (by omega) (by omega) (by omega)).call ⟨⟨rfl, rfl, trivial⟩, rfl, rfl⟩ ?_ | refine Num.id (by omega) (by omega) ?_); conv => whnf) | (refine Case.dec (fun _ => ?_) (fun _ => ?_) <;> conv => whnf)
      all_goals first
        | (refine ⟨p + 1, ⟨by omega, fun f hf => ?_⟩, by omega, ?_⟩
           · have h0 := see_in (l := l) (i := p) (by omega)
             rw [if_pos ⟨h0, by omega⟩] at e
             rw [← e]
             exact commentEnd_fuel l f _ _ hf (by omega)
           · (repeat' first | exact trivial | exact rfl | exact (by decide : 0 < 1) | exact Nat.le_refl _ | exact Nat.zero_lt_succ _ | exact congrArg int (by (try dsimp only); omega) | apply And.intro))
        | (have h0 := see_in (l := l) (i := p) (by omega)
           rw [if_neg (by omega)] at e
           have e2 : cmtP l a = p + 2 := by unfold cmtP; rw [← e, if_pos (by omega)]
           rw [e2]
           exact Fin.rd (p + 2) trivial (by omega) ⟨rfl, rfl⟩)
        | (have h0 := see_out (l := l) (i := p) (by omega)
           rw [if_neg (by omega)] at e
           have e2 : cmtP l a = p := by unfold cmtP; rw [← e, if_neg (by omega)]; omega
           rw [e2]
           exact Fin.rd p trivial (by omega) ⟨rfl, rfl⟩)
        | skip
  · rw [if_neg hc, decide_eq_false hc]
    unfold isCm at hc
    conv => whnf
    repeat' first | ((first | refine Case.not ?_ | refine Case.yes ?_ | refine Case.decT (by assumption) ?_ | refine Case.decF (by assumption) ?_ | refine Case.decF (by omega) ?_ | refine (yat_at l (by omega) a (by omega) _ a (by omega) (by omega) (by omega)).call ⟨⟨rfl, rfl, trivial⟩, rfl, rfl⟩ ?_ | refine (yat_at l (by omega) a (by omega) _ (a + 1) (by omega) (by omega) (by omega)).call ⟨⟨rfl, rfl, trivial⟩, rfl, rfl⟩ ?_); conv => whnf) | (refine Case.dec (fun _ => ?_) (fun _ => ?_) <;> conv => whnf)
    all_goals (refine Fin.rd a trivial rfl ⟨rfl, rfl⟩)
end Go.Proofs.YtlhegfkpgchaeaaGreatDoor.Aw
