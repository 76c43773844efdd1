/- num.Of. -/
import Derived.Test.YtdenafhfngnlfaaDoorXyD
import Derived.Test.YtdenafhfngnlfaaDoorXkN
import Derived.Test.YtdenafhfngnlfaaDoorXrM
import Derived.Test.YtdenafhfngnlfaaDoorShelf
namespace Go.Proofs.YtdenafhfngnlfaaDoor.Aw
open Go Go.RowKit Go.Lib
set_option linter.unusedVariables false
set_option linter.unnecessarySimpa false
set_option linter.unusedSimpArgs false
set_option maxRecDepth 100000
abbrev sB (l : List UInt8) : D := .str ⟨l.toArray⟩
theorem yindex (s : List UInt8) (c : UInt8) : Pure 59 [sB s, .str ⟨#[c]⟩] (int (Lib.indexByte s c)) :=
  pure_of_callsL (xs := [.string ⟨s.toArray⟩, .string ⟨#[c]⟩]) (y := .int .i64 (Lib.indexByte s c)) ⟨_, Tryd.func59, by rfl, rfl⟩ trivial (fun c w => rep_of _ rfl) fun w _ => by
    refine Calls.mono (Tryd.stringslite_Index_one ⟨s.toArray⟩ c w) ?_
    rintro e w' ⟨h1, h2⟩
    subst h2
    exact ⟨h1, Below.refl _ _⟩
theorem index_room (s : List UInt8) (c : UInt8) : -1 ≤ Lib.indexByte s c ∧ (0 ≤ Lib.indexByte s c → Lib.indexByte s c < s.length) := by
  refine ⟨Lib.indexByte_ge _ _, fun h => ?_⟩
  obtain ⟨j, hj⟩ := Int.eq_ofNat_of_zero_le h
  have := (Lib.indexByte_some (o := j) hj).1
  have h2 : j < s.length := (List.getElem?_eq_some_iff.1 this).1
  omega
theorem ext_listB (l : List UInt8) (a b : Nat) : (⟨l.toArray⟩ : ByteArray).extract a b = ⟨((l.take b).drop a).toArray⟩ := by
  apply ByteArray.ext
  apply Array.ext'
  simp [List.extract_eq_take_drop, List.drop_take]
theorem ycut3 (n : Int) : Pure 58 [int n, int (-2147483647), int 2147483647] (int (cap n)) := by
  refine .mk trivial (spec_mk tab_ok Tryd.func58 (by rfl) rfl ?_)
  conv => whnf
  repeat' first
    | (refine Case.not ?_; conv => whnf)
    | (refine Case.yes ?_; conv => whnf)
    | (refine Case.no ?_; conv => whnf)
    | (refine Case.isTrue (by assumption) ?_; conv => whnf)
    | (refine Case.isFalse (by assumption) ?_; conv => whnf)
    | (refine Case.decT (by assumption) ?_; conv => whnf)
    | (refine Case.decF (by assumption) ?_; conv => whnf)
    | (refine Case.decT (by omega) ?_; conv => whnf)
    | (refine Case.decF (by omega) ?_; conv => whnf)
    | (refine Case.beqT (by omega) ?_; conv => whnf)
    | (refine Case.beqF (by omega) ?_; conv => whnf)
    | (refine Num.id (by omega) (by omega) ?_; conv => whnf)
    | (refine Case.dec (fun _ => ?_) (fun _ => ?_) <;> conv => whnf)
    | (refine Case.beqI (fun _ => ?_) (fun _ => ?_) <;> conv => whnf)
    | (refine Case.mk (fun _ => ?_) (fun _ => ?_) <;> conv => whnf)
    | (refine Way.fst ?_; conv => whnf)
  all_goals (refine Fin.isI ?_; unfold cap; first | omega | (repeat' split) <;> first | omega | rfl)
theorem ycap (n : Int) : Pure 54 [int n] (int (cap n)) := by
  refine .mk trivial (spec_mk tab_ok Tryd.func54 (by rfl) rfl ?_)
  conv => whnf
  repeat' first
    | (refine Case.not ?_; conv => whnf)
    | (refine Case.yes ?_; conv => whnf)
    | (refine Case.no ?_; conv => whnf)
    | (refine Case.isTrue (by assumption) ?_; conv => whnf)
    | (refine Case.isFalse (by assumption) ?_; conv => whnf)
    | (refine Case.decT (by assumption) ?_; conv => whnf)
    | (refine Case.decF (by assumption) ?_; conv => whnf)
    | (refine Case.decT (by omega) ?_; conv => whnf)
    | (refine Case.decF (by omega) ?_; conv => whnf)
    | (refine Case.beqT (by omega) ?_; conv => whnf)
    | (refine Case.beqF (by omega) ?_; conv => whnf)
    | (refine (ycut3 n).call ⟨rfl, rfl, rfl, rfl⟩ ?_; conv => whnf)
    | (refine Num.id (by omega) (by omega) ?_; conv => whnf)
    | (refine Case.dec (fun _ => ?_) (fun _ => ?_) <;> conv => whnf)
    | (refine Case.beqI (fun _ => ?_) (fun _ => ?_) <;> conv => whnf)
    | (refine Case.mk (fun _ => ?_) (fun _ => ?_) <;> conv => whnf)
    | (refine Way.fst ?_; conv => whnf)
  exact Fin.isI rfl
theorem bytes_get {s : List UInt8} {i : Nat} {c : UInt8} (h : s[i]? = some c) : (s.map byteRow)[i]? = some [.v (.int .u8 c.toNat)] := by simp [h, byteRow]
theorem ydigits (s : List UInt8) (hs : s.length < 1000000000) : Pure 53 [sB s] (bool (s.all dgB)) := by
  have hlen : (s.map byteRow).length = s.length := List.length_map ..
  refine .mk trivial (spec_mk tab_ok Tryd.func53 (by rfl) rfl ?_)
  conv => whnf
  repeat' first
    | (refine Case.not ?_; conv => whnf)
    | (refine Case.yes ?_; conv => whnf)
    | (refine Case.no ?_; conv => whnf)
    | (refine Case.isTrue (by assumption) ?_; conv => whnf)
    | (refine Case.isFalse (by assumption) ?_; conv => whnf)
    | (refine Case.decT (by assumption) ?_; conv => whnf)
    | (refine Case.decF (by assumption) ?_; conv => whnf)
    | (refine Case.decT (by omega) ?_; conv => whnf)
    | (refine Case.decF (by omega) ?_; conv => whnf)
    | (refine Case.beqT (by omega) ?_; conv => whnf)
    | (refine Case.beqF (by omega) ?_; conv => whnf)
    | (refine Num.id (by omega) (by omega) ?_; conv => whnf)
    | (refine Case.dec (fun _ => ?_) (fun _ => ?_) <;> conv => whnf)
    | (refine Case.beqI (fun _ => ?_) (fun _ => ?_) <;> conv => whnf)
    | (refine Case.mk (fun _ => ?_) (fun _ => ?_) <;> conv => whnf)
    | (refine Way.fst ?_; conv => whnf)
  refine step_loop tab_ok (fun i : Nat => padK [sB s, .junk, .junk, .junk, .junk, .junk, .f (.sl (s.map byteRow)), int s.length, int i] 19) (fun _ => []) 0 (fun i => i ≤ s.length ∧ (s.drop i).all dgB = s.all dgB) (fun i => s.length - i) 0 ⟨by omega, rfl⟩ (fun _ => rfl) ?_ ?_
  ·
    repeat' first | exact trivial | exact rfl | exact Nat.zero_le _ | exact Nat.zero_lt_succ _ | exact (by decide : (0 : Nat) < 1) | exact (by decide : (1 : Nat) < 4) | exact (by decide : (2 : Nat) < 4) | exact (by decide : (3 : Nat) < 4) | exact (by decide : (1 : Nat) < 2) | exact (by decide : (2 : Nat) < 3) | exact congrArg int (by (try dsimp only); omega) | exact congrArg bool (by (try dsimp only); simp; omega) | (show _ < List.length _; simp; done) | apply And.intro
  · rintro i ⟨h1, h2⟩
    conv => whnf
    refine Case.dec (fun h0 => ?_) (fun h0 => ?_)
    · obtain ⟨c, hc⟩ : ∃ c, s[i]? = some c := ⟨_, List.getElem?_eq_getElem (by omega)⟩
      have hd : s.drop i = c :: s.drop (i + 1) := drop_cons' hc
      rw [hd, List.all_cons] at h2
      have hc8 := c.toNat_lt
      conv => whnf
      repeat' first
        | (refine Case.not ?_; conv => whnf)
        | (refine Case.yes ?_; conv => whnf)
        | (refine Case.no ?_; conv => whnf)
        | (refine Case.isTrue (by assumption) ?_; conv => whnf)
        | (refine Case.isFalse (by assumption) ?_; conv => whnf)
        | (refine Case.decT (by assumption) ?_; conv => whnf)
        | (refine Case.decF (by assumption) ?_; conv => whnf)
        | (refine Case.decT (by omega) ?_; conv => whnf)
        | (refine Case.decF (by omega) ?_; conv => whnf)
        | (refine Case.beqT (by omega) ?_; conv => whnf)
        | (refine Case.beqF (by omega) ?_; conv => whnf)
        | (refine Owes.mk byteRow_len ?_; conv => whnf)
        | (refine Elem.mk i _ rfl (bytes_get hc) ?_; conv => whnf)
        | (refine Num.id (by omega) (by omega) ?_; conv => whnf)
        | (refine Case.dec (fun _ => ?_) (fun _ => ?_) <;> conv => whnf)
        | (refine Case.beqI (fun _ => ?_) (fun _ => ?_) <;> conv => whnf)
        | (refine Case.mk (fun _ => ?_) (fun _ => ?_) <;> conv => whnf)
        | (refine Way.fst ?_; conv => whnf)
      · have : dgB c = false := by simp [dgB, digit]; omega
        exact Fin.isB (by rw [← h2, this]; rfl)
      · have : dgB c = false := by simp [dgB, digit]; omega
        exact Fin.isB (by rw [← h2, this]; rfl)
      · have : dgB c = true := by simp [dgB, digit]; omega
        rw [this, Bool.true_and] at h2
        refine ⟨i + 1, ⟨by omega, h2⟩, by omega, ?_⟩
        repeat' first | exact trivial | exact rfl | exact Nat.zero_le _ | exact Nat.zero_lt_succ _ | exact (by decide : (0 : Nat) < 1) | exact (by decide : (1 : Nat) < 4) | exact (by decide : (2 : Nat) < 4) | exact (by decide : (3 : Nat) < 4) | exact (by decide : (1 : Nat) < 2) | exact (by decide : (2 : Nat) < 3) | exact congrArg int (by (try dsimp only); omega) | exact congrArg bool (by (try dsimp only); simp; omega) | (show _ < List.length _; simp; done) | apply And.intro
    · rw [show s.drop i = [] by rw [List.drop_eq_nil_iff]; omega] at h2
      conv => whnf
      exact Fin.isB (by rw [← h2]; rfl)
theorem size_sB (s : List UInt8) : (⟨s.toArray⟩ : ByteArray).size = s.length := rfl
theorem yhasp (s : List UInt8) (hs : s.length < 1000000000) (c : UInt8) : Pure 56 [sB s, .str ⟨#[c]⟩] (bool (decide (s.head? = some c))) := by
  have h1 : (⟨#[c]⟩ : ByteArray).size = 1 := rfl
  refine .mk trivial (spec_mk tab_ok Tryd.func56 (by rfl) rfl ?_)
  cases s with
  | nil =>
    have h2 : (⟨([] : List UInt8).toArray⟩ : ByteArray).size = 0 := rfl
    conv => whnf
    repeat' first
      | (refine Case.not ?_; conv => whnf)
      | (refine Case.yes ?_; conv => whnf)
      | (refine Case.no ?_; conv => whnf)
      | (refine Case.isTrue (by assumption) ?_; conv => whnf)
      | (refine Case.isFalse (by assumption) ?_; conv => whnf)
      | (refine Case.decT (by assumption) ?_; conv => whnf)
      | (refine Case.decF (by assumption) ?_; conv => whnf)
      | (refine Case.decT (by omega) ?_; conv => whnf)
      | (refine Case.decF (by omega) ?_; conv => whnf)
      | (refine Case.beqT (by omega) ?_; conv => whnf)
      | (refine Case.beqF (by omega) ?_; conv => whnf)
      | (refine Owes.mk (by omega) ?_; conv => whnf)
      | (refine Num.id (by omega) (by omega) ?_; conv => whnf)
      | (refine Case.dec (fun _ => ?_) (fun _ => ?_) <;> conv => whnf)
      | (refine Case.beqI (fun _ => ?_) (fun _ => ?_) <;> conv => whnf)
      | (refine Case.mk (fun _ => ?_) (fun _ => ?_) <;> conv => whnf)
      | (refine Way.fst ?_; conv => whnf)
    exact Fin.isB (by simp)
  | cons d r =>
    have h2 := size_sB (d :: r)
    conv => whnf
    repeat' first
      | (refine Case.not ?_; conv => whnf)
      | (refine Case.yes ?_; conv => whnf)
      | (refine Case.no ?_; conv => whnf)
      | (refine Case.isTrue (by assumption) ?_; conv => whnf)
      | (refine Case.isFalse (by assumption) ?_; conv => whnf)
      | (refine Case.decT (by assumption) ?_; conv => whnf)
      | (refine Case.decF (by assumption) ?_; conv => whnf)
      | (refine Case.decT (by omega) ?_; conv => whnf)
      | (refine Case.decF (by omega) ?_; conv => whnf)
      | (refine Case.beqT (by omega) ?_; conv => whnf)
      | (refine Case.beqF (by omega) ?_; conv => whnf)
      | (refine Owes.mk (by simp only [List.length_cons] at *; omega) ?_; conv => whnf)
      | (refine Num.id (by omega) (by omega) ?_; conv => whnf)
      | (refine Case.dec (fun _ => ?_) (fun _ => ?_) <;> conv => whnf)
      | (refine Case.beqI (fun _ => ?_) (fun _ => ?_) <;> conv => whnf)
      | (refine Case.mk (fun _ => ?_) (fun _ => ?_) <;> conv => whnf)
      | (refine Way.fst ?_; conv => whnf)
    · refine Fin.isB ?_
      rw [h1, ext_listB]
      simp [ByteArray.toList_eq]
      rw [Bool.eq_iff_iff]
      simp
    · exfalso
      simp only [List.length_cons] at *
      omega
theorem yhaspS (s : List UInt8) (hs : s.length < 1000000000) (c : UInt8) : Pure 51 [sB s, .str ⟨#[c]⟩] (bool (decide (s.head? = some c))) := by
  refine .mk trivial (spec_mk tab_ok Tryd.func51 (by rfl) rfl ?_)
  conv => whnf
  repeat' first
    | (refine Case.not ?_; conv => whnf)
    | (refine Case.yes ?_; conv => whnf)
    | (refine Case.no ?_; conv => whnf)
    | (refine Case.isTrue (by assumption) ?_; conv => whnf)
    | (refine Case.isFalse (by assumption) ?_; conv => whnf)
    | (refine Case.decT (by assumption) ?_; conv => whnf)
    | (refine Case.decF (by assumption) ?_; conv => whnf)
    | (refine Case.decT (by omega) ?_; conv => whnf)
    | (refine Case.decF (by omega) ?_; conv => whnf)
    | (refine Case.beqT (by omega) ?_; conv => whnf)
    | (refine Case.beqF (by omega) ?_; conv => whnf)
    | (refine (yhasp s hs c).call ⟨rfl, rfl, rfl⟩ ?_; conv => whnf)
    | (refine Num.id (by omega) (by omega) ?_; conv => whnf)
    | (refine Case.dec (fun _ => ?_) (fun _ => ?_) <;> conv => whnf)
    | (refine Case.beqI (fun _ => ?_) (fun _ => ?_) <;> conv => whnf)
    | (refine Case.mk (fun _ => ?_) (fun _ => ?_) <;> conv => whnf)
    | (refine Way.fst ?_; conv => whnf)
  exact Fin.isB rfl
theorem ycut (s : List UInt8) (hs : s.length < 1000000000) : Pure 57 [sB s, .str ⟨#[46]⟩] (.tup [sB (splitDot s).1, sB ((splitDot s).2.getD []), bool (splitDot s).2.isSome]) := by
  have h1 : (⟨#[46]⟩ : ByteArray).size = 1 := rfl
  have h2 := size_sB s
  have hr := index_room s 46
  refine .mk ⟨trivial, trivial, trivial, trivial⟩ (spec_mk tab_ok Tryd.func57 (by rfl) rfl ?_)
  conv => whnf
  repeat' first
    | (refine Case.not ?_; conv => whnf)
    | (refine Case.yes ?_; conv => whnf)
    | (refine Case.no ?_; conv => whnf)
    | (refine Case.isTrue (by assumption) ?_; conv => whnf)
    | (refine Case.isFalse (by assumption) ?_; conv => whnf)
    | (refine Case.decT (by assumption) ?_; conv => whnf)
    | (refine Case.decF (by assumption) ?_; conv => whnf)
    | (refine Case.decT (by omega) ?_; conv => whnf)
    | (refine Case.decF (by omega) ?_; conv => whnf)
    | (refine Case.beqT (by omega) ?_; conv => whnf)
    | (refine Case.beqF (by omega) ?_; conv => whnf)
    | (refine (yindex s 46).call ⟨rfl, rfl, rfl⟩ ?_; conv => whnf)
    | ((refine step_draws tab_ok mix (.one 0 0 (.one 1 0 (.one 2 0 (.one 3 0 (.one 4 0 (.one 5 0 (.one 6 0 (.one 7 0 (.one 8 0 (.one 9 0 (.one 10 0 (.one 11 0 .done)))))))))))) [] ?hs ?_; (case hs => decide +kernel)); conv => whnf)
    | (refine Owes.mk (by omega) ?_; conv => whnf)
    | (refine Num.id (by omega) (by omega) ?_; conv => whnf)
    | (refine Case.dec (fun _ => ?_) (fun _ => ?_) <;> conv => whnf)
    | (refine Case.beqI (fun _ => ?_) (fun _ => ?_) <;> conv => whnf)
    | (refine Case.mk (fun _ => ?_) (fun _ => ?_) <;> conv => whnf)
    | (refine Way.fst ?_; conv => whnf)
  · obtain ⟨j, hj⟩ := Int.eq_ofNat_of_zero_le (by assumption)
    have e := splitDot_some s j hj
    rw [h1, h2, hj, ext_listB, ext_listB, e]
    refine Fin.scal ⟨trivial, trivial, trivial, trivial⟩ ⟨rfl, ?_⟩
    simp [List.take_of_length_le]
  · have e := splitDot_none s (by omega)
    rw [e]
    exact Fin.scal ⟨trivial, trivial, trivial, trivial⟩ ⟨rfl, rfl⟩
theorem ycutS (s : List UInt8) (hs : s.length < 1000000000) : Pure 52 [sB s, .str ⟨#[46]⟩] (.tup [sB (splitDot s).1, sB ((splitDot s).2.getD []), bool (splitDot s).2.isSome]) := by
  refine .mk ⟨trivial, trivial, trivial, trivial⟩ (spec_mk tab_ok Tryd.func52 (by rfl) rfl ?_)
  conv => whnf
  repeat' first
    | (refine Case.not ?_; conv => whnf)
    | (refine Case.yes ?_; conv => whnf)
    | (refine Case.no ?_; conv => whnf)
    | (refine Case.isTrue (by assumption) ?_; conv => whnf)
    | (refine Case.isFalse (by assumption) ?_; conv => whnf)
    | (refine Case.decT (by assumption) ?_; conv => whnf)
    | (refine Case.decF (by assumption) ?_; conv => whnf)
    | (refine Case.decT (by omega) ?_; conv => whnf)
    | (refine Case.decF (by omega) ?_; conv => whnf)
    | (refine Case.beqT (by omega) ?_; conv => whnf)
    | (refine Case.beqF (by omega) ?_; conv => whnf)
    | (refine (ycut s hs).call ⟨rfl, rfl, rfl⟩ ?_; conv => whnf)
    | (refine Num.id (by omega) (by omega) ?_; conv => whnf)
    | (refine Case.dec (fun _ => ?_) (fun _ => ?_) <;> conv => whnf)
    | (refine Case.beqI (fun _ => ?_) (fun _ => ?_) <;> conv => whnf)
    | (refine Case.mk (fun _ => ?_) (fun _ => ?_) <;> conv => whnf)
    | (refine Way.fst ?_; conv => whnf)
  exact Fin.scal ⟨trivial, trivial, trivial, trivial⟩ ⟨rfl, rfl⟩
theorem splitDot_le (s : List UInt8) : (splitDot s).1.length ≤ s.length ∧ ((splitDot s).2.getD []).length ≤ s.length := by
  induction s with
  | nil => simp [splitDot]
  | cons c r ih =>
    unfold splitDot
    split <;> simp_all <;> omega
theorem numSign_drop (s : List UInt8) : numSign s = (decide (s.head? = some 45), if s.head? = some 45 ∨ s.head? = some 43 then 1 else 0) := by
  cases s with
  | nil => rfl
  | cons b r =>
    have e1 : b.toNat = 45 ↔ b = 45 := ⟨fun h => UInt8.toNat_inj.1 h, fun h => by rw [h]; rfl⟩
    have e2 : b.toNat = 43 ↔ b = 43 := ⟨fun h => UInt8.toNat_inj.1 h, fun h => by rw [h]; rfl⟩
    unfold numSign
    dsimp only
    by_cases h1 : b = 45
    · subst h1; rfl
    · by_cases h2 : b = 43
      · subst h2; rfl
      · rw [if_neg (by rw [e1]; exact h1), if_neg (by rw [e2]; exact h2)]
        simp [h1, h2]
theorem Num.id8 {x : Int} {K : Int → Prop} (h1 : 0 ≤ x) (h2 : x < 256) (h : K x) : Num .u8 x K := Num.wrap (by rw [wrap8 h1 h2]; exact h)
def accL (n : Int) (p : List UInt8) : Nat → Int
  | 0 => n
  | k + 1 => accL n p k * 10 + dL p k
theorem accL_frac (n : Int) (p : List UInt8) : accL n p 3 = fracL n p := rfl
def bdK : Nat → Int
  | 0 => 1099511627776
  | 1 => 10995116277769
  | 2 => 109951162777699
  | _ => 1099511627776999
theorem bdK_le {k : Nat} (h : k < 3) : bdK k * 10 + 9 = bdK (k + 1) ∧ bdK k ≤ 109951162777699 := by
  have : k = 0 ∨ k = 1 ∨ k = 2 := by omega
  rcases this with rfl | rfl | rfl <;> decide
structure OfK (n0 : Int) (p : List UInt8) (s : Nat × Int) : Prop where
  k : s.1 ≤ 3
  n : s.2 = accL n0 p s.1
  n0 : 0 ≤ s.2
  n1 : s.2 ≤ bdK s.1
/-- How far the whole digits are read. -/
structure OfI (w : List UInt8) (s : Nat × Int) : Prop where
  i : s.1 ≤ w.length
  run : (w.drop s.1).foldl stepF s.2 = foldF w
  n0 : 0 ≤ s.2
  n1 : s.2 ≤ 1099511627776
set_option maxHeartbeats 1000000 in
theorem yof (s : List UInt8) (hs : s.length < 1000000000) : Pure 47 [sB s] (.tup [int (numL s).1, bool (numL s).2]) := by
  have h2 := size_sB s
  have hsg := numSign_drop s
  refine .mk ⟨trivial, trivial, trivial⟩ (spec_step tab_ok Tryd.func47 (by rfl) rfl ?_)
  conv => whnf
  refine step_seq tab_ok ?_
  conv => whnf
  refine step_seq tab_ok ?_
  conv => whnf
  repeat' first
    | (refine Case.not ?_; conv => whnf)
    | (refine Case.yes ?_; conv => whnf)
    | (refine Case.no ?_; conv => whnf)
    | (refine Case.isTrue (by assumption) ?_; conv => whnf)
    | (refine Case.isFalse (by assumption) ?_; conv => whnf)
    | (refine Case.decT (by assumption) ?_; conv => whnf)
    | (refine Case.decF (by assumption) ?_; conv => whnf)
    | (refine Case.decT (by omega) ?_; conv => whnf)
    | (refine Case.decF (by omega) ?_; conv => whnf)
    | (refine Case.beqT (by omega) ?_; conv => whnf)
    | (refine Case.beqF (by omega) ?_; conv => whnf)
    | (refine (yhaspS s hs 45).call ⟨rfl, rfl, rfl⟩ ?_; conv => whnf)
    | (refine Num.id (by omega) (by omega) ?_; conv => whnf)
    | (refine Case.dec (fun _ => ?_) (fun _ => ?_) <;> conv => whnf)
    | (refine Case.beqI (fun _ => ?_) (fun _ => ?_) <;> conv => whnf)
    | (refine Case.mk (fun _ => ?_) (fun _ => ?_) <;> conv => whnf)
    | (refine Way.fst ?_; conv => whnf)
  refine step_cut tab_ok (fun _ : Unit => padK [sB (s.drop (numSign s).2), .junk, .junk, .junk, bool (numSign s).1] 87) (fun _ => []) 0 (fun _ => True) (fun _ => rfl) ?_ ?_
  · conv => whnf
    by_cases h45 : s.head? = some 45
    · have hl : 1 ≤ s.length := by cases s with | nil => cases h45 | cons b r => simp
      have e : numSign s = (true, 1) := by rw [hsg, h45]; rfl
      rw [e, h45]
      repeat' first
        | (refine Case.not ?_; conv => whnf)
        | (refine Case.yes ?_; conv => whnf)
        | (refine Case.no ?_; conv => whnf)
        | (refine Case.isTrue (by assumption) ?_; conv => whnf)
        | (refine Case.isFalse (by assumption) ?_; conv => whnf)
        | (refine Case.decT (by assumption) ?_; conv => whnf)
        | (refine Case.decF (by assumption) ?_; conv => whnf)
        | (refine Case.decT (by omega) ?_; conv => whnf)
        | (refine Case.decF (by omega) ?_; conv => whnf)
        | (refine Case.beqT (by omega) ?_; conv => whnf)
        | (refine Case.beqF (by omega) ?_; conv => whnf)
        | (refine (yhaspS s hs 43).call ⟨rfl, rfl, rfl⟩ ?_; conv => whnf)
        | (refine Owes.mk (by omega) ?_; conv => whnf)
        | (refine Case.isTrue (by simp) ?_; conv => whnf)
        | (refine Case.isFalse (by simp) ?_; conv => whnf)
        | (refine Num.id (by omega) (by omega) ?_; conv => whnf)
        | (refine Case.dec (fun _ => ?_) (fun _ => ?_) <;> conv => whnf)
        | (refine Case.beqI (fun _ => ?_) (fun _ => ?_) <;> conv => whnf)
        | (refine Case.mk (fun _ => ?_) (fun _ => ?_) <;> conv => whnf)
        | (refine Way.fst ?_; conv => whnf)
      refine ⟨(), trivial, ?_⟩
      rw [h2, ext_listB, List.take_of_length_le (by simp)]
      repeat' first | exact trivial | exact rfl | exact Nat.zero_le _ | exact Nat.zero_lt_succ _ | exact (by decide : (0 : Nat) < 1) | exact (by decide : (1 : Nat) < 4) | exact (by decide : (2 : Nat) < 4) | exact (by decide : (3 : Nat) < 4) | exact (by decide : (1 : Nat) < 2) | exact (by decide : (2 : Nat) < 3) | exact congrArg int (by (try dsimp only); omega) | exact congrArg bool (by (try dsimp only); simp; omega) | (show _ < List.length _; simp; done) | apply And.intro
    · by_cases h43 : s.head? = some 43
      · have hl : 1 ≤ s.length := by cases s with | nil => cases h43 | cons b r => simp
        have e : numSign s = (false, 1) := by rw [hsg, h43]; rfl
        rw [e, show decide (s.head? = some 45) = false by simpa using h45]
        repeat' first
          | (refine Case.not ?_; conv => whnf)
          | (refine Case.yes ?_; conv => whnf)
          | (refine Case.no ?_; conv => whnf)
          | (refine Case.isTrue (by assumption) ?_; conv => whnf)
          | (refine Case.isFalse (by assumption) ?_; conv => whnf)
          | (refine Case.decT (by assumption) ?_; conv => whnf)
          | (refine Case.decF (by assumption) ?_; conv => whnf)
          | (refine Case.decT (by omega) ?_; conv => whnf)
          | (refine Case.decF (by omega) ?_; conv => whnf)
          | (refine Case.beqT (by omega) ?_; conv => whnf)
          | (refine Case.beqF (by omega) ?_; conv => whnf)
          | (refine (yhaspS s hs 43).call ⟨rfl, rfl, rfl⟩ ?_; conv => whnf)
          | (refine Owes.mk (by omega) ?_; conv => whnf)
          | (refine Case.isTrue (by simpa using h43) ?_; conv => whnf)
          | (refine Case.isFalse (by simp) ?_; conv => whnf)
          | (refine Num.id (by omega) (by omega) ?_; conv => whnf)
          | (refine Case.dec (fun _ => ?_) (fun _ => ?_) <;> conv => whnf)
          | (refine Case.beqI (fun _ => ?_) (fun _ => ?_) <;> conv => whnf)
          | (refine Case.mk (fun _ => ?_) (fun _ => ?_) <;> conv => whnf)
          | (refine Way.fst ?_; conv => whnf)
        refine ⟨(), trivial, ?_⟩
        rw [h2, ext_listB, List.take_of_length_le (by simp)]
        repeat' first | exact trivial | exact rfl | exact Nat.zero_le _ | exact Nat.zero_lt_succ _ | exact (by decide : (0 : Nat) < 1) | exact (by decide : (1 : Nat) < 4) | exact (by decide : (2 : Nat) < 4) | exact (by decide : (3 : Nat) < 4) | exact (by decide : (1 : Nat) < 2) | exact (by decide : (2 : Nat) < 3) | exact congrArg int (by (try dsimp only); omega) | exact congrArg bool (by (try dsimp only); simp; omega) | (show _ < List.length _; simp; done) | apply And.intro
      · have e : numSign s = (false, 0) := by rw [hsg, show decide (s.head? = some 45) = false by simpa using h45, if_neg (by simp [h45, h43])]
        rw [e, show decide (s.head? = some 45) = false by simpa using h45]
        repeat' first
          | (refine Case.not ?_; conv => whnf)
          | (refine Case.yes ?_; conv => whnf)
          | (refine Case.no ?_; conv => whnf)
          | (refine Case.isTrue (by assumption) ?_; conv => whnf)
          | (refine Case.isFalse (by assumption) ?_; conv => whnf)
          | (refine Case.decT (by assumption) ?_; conv => whnf)
          | (refine Case.decF (by assumption) ?_; conv => whnf)
          | (refine Case.decT (by omega) ?_; conv => whnf)
          | (refine Case.decF (by omega) ?_; conv => whnf)
          | (refine Case.beqT (by omega) ?_; conv => whnf)
          | (refine Case.beqF (by omega) ?_; conv => whnf)
          | (refine (yhaspS s hs 43).call ⟨rfl, rfl, rfl⟩ ?_; conv => whnf)
          | (refine Owes.mk (by omega) ?_; conv => whnf)
          | (refine Case.isFalse (by simpa using h43) ?_; conv => whnf)
          | (refine Num.id (by omega) (by omega) ?_; conv => whnf)
          | (refine Case.dec (fun _ => ?_) (fun _ => ?_) <;> conv => whnf)
          | (refine Case.beqI (fun _ => ?_) (fun _ => ?_) <;> conv => whnf)
          | (refine Case.mk (fun _ => ?_) (fun _ => ?_) <;> conv => whnf)
          | (refine Way.fst ?_; conv => whnf)
        refine ⟨(), trivial, ?_⟩
        repeat' first | exact trivial | exact rfl | exact Nat.zero_le _ | exact Nat.zero_lt_succ _ | exact (by decide : (0 : Nat) < 1) | exact (by decide : (1 : Nat) < 4) | exact (by decide : (2 : Nat) < 4) | exact (by decide : (3 : Nat) < 4) | exact (by decide : (1 : Nat) < 2) | exact (by decide : (2 : Nat) < 3) | exact congrArg int (by (try dsimp only); omega) | exact congrArg bool (by (try dsimp only); simp; omega) | (show _ < List.length _; simp; done) | apply And.intro
  · intro _ _
    have et : numL s = numBody (numSign s).1 (splitDot (s.drop (numSign s).2)).1 (splitDot (s.drop (numSign s).2)).2 := rfl
    have ht : (s.drop (numSign s).2).length < 1000000000 := by rw [List.length_drop]; omega
    rw [et]
    generalize s.drop (numSign s).2 = t at ht
    generalize (numSign s).1 = neg
    have hc := splitDot_le t
    have hcut := ycutS t ht
    rcases hsp : splitDot t with ⟨wh, pt⟩
    rw [hsp] at hc hcut
    simp only at hc hcut
    rcases pt with _ | p
    · simp only [Option.getD_none, Option.isSome_none] at hcut hc
      have dp := ydigits [] (by simp)
      cases hw : wh.all dgB
      · have dw := ydigits wh (by omega)
        rw [hw] at dw
        conv => whnf
        refine step_of tab_ok ?_
        conv => whnf
        repeat' first
          | (refine Case.not ?_; conv => whnf)
          | (refine Case.yes ?_; conv => whnf)
          | (refine Case.no ?_; conv => whnf)
          | (refine Case.isTrue (by assumption) ?_; conv => whnf)
          | (refine Case.isFalse (by assumption) ?_; conv => whnf)
          | (refine Case.decT (by assumption) ?_; conv => whnf)
          | (refine Case.decF (by assumption) ?_; conv => whnf)
          | (refine Case.decT (by omega) ?_; conv => whnf)
          | (refine Case.decF (by omega) ?_; conv => whnf)
          | (refine Case.beqT (by omega) ?_; conv => whnf)
          | (refine Case.beqF (by omega) ?_; conv => whnf)
          | (refine Case.strT (by assumption) ?_; conv => whnf)
          | (refine Case.strF (by assumption) ?_; conv => whnf)
          | (refine Case.strF (by simp only [*]; decide) ?_; conv => whnf)
          | (refine step_kinds 2 ?hk ?_; (case hk => decide +kernel); conv => whnf)
          | (refine step_kinds 3 ?hk ?_; (case hk => decide +kernel); conv => whnf)
          | (refine hcut.call ⟨rfl, rfl, rfl⟩ ?_; conv => whnf)
          | (refine dw.call ⟨rfl, rfl⟩ ?_; conv => whnf)
          | (refine dp.call ⟨rfl, rfl⟩ ?_; conv => whnf)
          | (refine Num.id (by omega) (by omega) ?_; conv => whnf)
          | (refine Case.strI (fun _ => ?_) (fun _ => ?_) <;> conv => whnf)
          | (refine Both.mk ?_ ?_ <;> conv => whnf)
          | (refine Case.dec (fun _ => ?_) (fun _ => ?_) <;> conv => whnf)
          | (refine Case.beqI (fun _ => ?_) (fun _ => ?_) <;> conv => whnf)
          | (refine Case.mk (fun _ => ?_) (fun _ => ?_) <;> conv => whnf)
          | (refine Way.fst ?_; conv => whnf)
        refine Fin.num ?_
        simp [numBody, hw]
      · have dw := ydigits wh (by omega)
        rw [hw] at dw
        rcases wh with _ | ⟨c0, r0⟩
        · conv => whnf
          refine step_of tab_ok ?_
          conv => whnf
          repeat' first
            | (refine Case.not ?_; conv => whnf)
            | (refine Case.yes ?_; conv => whnf)
            | (refine Case.no ?_; conv => whnf)
            | (refine Case.isTrue (by assumption) ?_; conv => whnf)
            | (refine Case.isFalse (by assumption) ?_; conv => whnf)
            | (refine Case.decT (by assumption) ?_; conv => whnf)
            | (refine Case.decF (by assumption) ?_; conv => whnf)
            | (refine Case.decT (by omega) ?_; conv => whnf)
            | (refine Case.decF (by omega) ?_; conv => whnf)
            | (refine Case.beqT (by omega) ?_; conv => whnf)
            | (refine Case.beqF (by omega) ?_; conv => whnf)
            | (refine Case.strT (by assumption) ?_; conv => whnf)
            | (refine Case.strF (by assumption) ?_; conv => whnf)
            | (refine Case.strF (by simp only [*]; decide) ?_; conv => whnf)
            | (refine step_kinds 2 ?hk ?_; (case hk => decide +kernel); conv => whnf)
            | (refine step_kinds 3 ?hk ?_; (case hk => decide +kernel); conv => whnf)
            | (refine hcut.call ⟨rfl, rfl, rfl⟩ ?_; conv => whnf)
            | (refine dw.call ⟨rfl, rfl⟩ ?_; conv => whnf)
            | (refine dp.call ⟨rfl, rfl⟩ ?_; conv => whnf)
            | (refine Case.strT rfl ?_; conv => whnf)
            | (refine Num.id (by omega) (by omega) ?_; conv => whnf)
            | (refine Case.strI (fun _ => ?_) (fun _ => ?_) <;> conv => whnf)
            | (refine Both.mk ?_ ?_ <;> conv => whnf)
            | (refine Case.dec (fun _ => ?_) (fun _ => ?_) <;> conv => whnf)
            | (refine Case.beqI (fun _ => ?_) (fun _ => ?_) <;> conv => whnf)
            | (refine Case.mk (fun _ => ?_) (fun _ => ?_) <;> conv => whnf)
            | (refine Way.fst ?_; conv => whnf)
          refine Fin.num ?_
          simp [numBody]
        · conv => whnf
          refine step_of tab_ok ?_
          conv => whnf
          repeat' first
            | (refine Case.not ?_; conv => whnf)
            | (refine Case.yes ?_; conv => whnf)
            | (refine Case.no ?_; conv => whnf)
            | (refine Case.isTrue (by assumption) ?_; conv => whnf)
            | (refine Case.isFalse (by assumption) ?_; conv => whnf)
            | (refine Case.decT (by assumption) ?_; conv => whnf)
            | (refine Case.decF (by assumption) ?_; conv => whnf)
            | (refine Case.decT (by omega) ?_; conv => whnf)
            | (refine Case.decF (by omega) ?_; conv => whnf)
            | (refine Case.beqT (by omega) ?_; conv => whnf)
            | (refine Case.beqF (by omega) ?_; conv => whnf)
            | (refine Case.strT (by assumption) ?_; conv => whnf)
            | (refine Case.strF (by assumption) ?_; conv => whnf)
            | (refine Case.strF (by simp only [*]; decide) ?_; conv => whnf)
            | (refine step_kinds 2 ?hk ?_; (case hk => decide +kernel); conv => whnf)
            | (refine step_kinds 3 ?hk ?_; (case hk => decide +kernel); conv => whnf)
            | (refine hcut.call ⟨rfl, rfl, rfl⟩ ?_; conv => whnf)
            | (refine dw.call ⟨rfl, rfl⟩ ?_; conv => whnf)
            | (refine dp.call ⟨rfl, rfl⟩ ?_; conv => whnf)
            | (refine Case.strF (by simp) ?_; conv => whnf)
            | (refine Num.id (by omega) (by omega) ?_; conv => whnf)
            | (refine Case.strI (fun _ => ?_) (fun _ => ?_) <;> conv => whnf)
            | (refine Both.mk ?_ ?_ <;> conv => whnf)
            | (refine Case.dec (fun _ => ?_) (fun _ => ?_) <;> conv => whnf)
            | (refine Case.beqI (fun _ => ?_) (fun _ => ?_) <;> conv => whnf)
            | (refine Case.mk (fun _ => ?_) (fun _ => ?_) <;> conv => whnf)
            | (refine Way.fst ?_; conv => whnf)
          have hne : (c0 :: r0).isEmpty = false := rfl
          have hpd : ([] : List UInt8).all dgB = true := rfl
          generalize c0 :: r0 = wq at *
          · have hlw : (wq.map byteRow).length = wq.length := List.length_map ..
            refine step_loop tab_ok (fun s : Nat × Int => padK [sB t, .junk, .junk, .junk, bool neg, .junk, sB ([]:List UInt8), .junk, int s.2, .junk, .junk, .junk, .junk, .junk, .junk, .junk, .junk, .junk, .junk, .junk, .junk, .junk, .junk, .junk, .junk, .junk, .junk, .junk, .junk, .junk, .junk, .junk, .junk, .junk, .junk, .junk, .junk, .junk, .junk, .junk, .junk, .junk, .junk, .junk, .junk, .junk, .junk, .junk, .junk, .junk, .junk, .f (.sl (wq.map byteRow)), int wq.length, int s.1] 87) (fun _ => []) 0 (OfI wq) (fun s => wq.length - s.1) (0, 0) ⟨by simp, rfl, by simp, by simp⟩ (fun _ => rfl) ?_ ?_
            ·
              repeat' first | exact trivial | exact rfl | exact Nat.zero_le _ | exact Nat.zero_lt_succ _ | exact (by decide : (0 : Nat) < 1) | exact (by decide : (1 : Nat) < 4) | exact (by decide : (2 : Nat) < 4) | exact (by decide : (3 : Nat) < 4) | exact (by decide : (1 : Nat) < 2) | exact (by decide : (2 : Nat) < 3) | exact congrArg int (by (try dsimp only); omega) | exact congrArg bool (by (try dsimp only); simp; omega) | (show _ < List.length _; simp; done) | apply And.intro
              all_goals exact congrArg int (by simp)
            · rintro ⟨i, n⟩ ⟨h1, h3, h4, h5⟩
              simp only at h1 h3 h4 h5
              dsimp only
              conv => whnf
              refine Case.dec (fun h0 => ?_) (fun h0 => ?_)
              · obtain ⟨c, hcc⟩ : ∃ c, wq[i]? = some c := ⟨_, List.getElem?_eq_getElem (by omega)⟩
                have hd : wq.drop i = c :: wq.drop (i + 1) := drop_cons' hcc
                have hdg := dgB_le (List.all_eq_true.1 hw c (List.mem_of_getElem? hcc))
                rw [hd, List.foldl_cons] at h3
                conv => whnf
                repeat' first
                  | (refine Case.not ?_; conv => whnf)
                  | (refine Case.yes ?_; conv => whnf)
                  | (refine Case.no ?_; conv => whnf)
                  | (refine Case.isTrue (by assumption) ?_; conv => whnf)
                  | (refine Case.isFalse (by assumption) ?_; conv => whnf)
                  | (refine Case.decT (by assumption) ?_; conv => whnf)
                  | (refine Case.decF (by assumption) ?_; conv => whnf)
                  | (refine Case.decT (by omega) ?_; conv => whnf)
                  | (refine Case.decF (by omega) ?_; conv => whnf)
                  | (refine Case.beqT (by omega) ?_; conv => whnf)
                  | (refine Case.beqF (by omega) ?_; conv => whnf)
                  | (refine Case.strT (by assumption) ?_; conv => whnf)
                  | (refine Case.strF (by assumption) ?_; conv => whnf)
                  | (refine Case.strF (by simp only [*]; decide) ?_; conv => whnf)
                  | (refine step_kinds 2 ?hk ?_; (case hk => decide +kernel); conv => whnf)
                  | (refine step_kinds 3 ?hk ?_; (case hk => decide +kernel); conv => whnf)
                  | (refine Owes.mk byteRow_len ?_; conv => whnf)
                  | (refine Elem.mk i _ rfl (bytes_get hcc) ?_; conv => whnf)
                  | (refine Num.id8 (by omega) (by omega) ?_; conv => whnf)
                  | (refine Num.id (by omega) (by omega) ?_; conv => whnf)
                  | (refine Case.strI (fun _ => ?_) (fun _ => ?_) <;> conv => whnf)
                  | (refine Both.mk ?_ ?_ <;> conv => whnf)
                  | (refine Case.dec (fun _ => ?_) (fun _ => ?_) <;> conv => whnf)
                  | (refine Case.beqI (fun _ => ?_) (fun _ => ?_) <;> conv => whnf)
                  | (refine Case.mk (fun _ => ?_) (fun _ => ?_) <;> conv => whnf)
                  | (refine Way.fst ?_; conv => whnf)
                refine ⟨(i + 1, stepF n c), ⟨by dsimp only; omega, h3, ?_, ?_⟩, by dsimp only; omega, ?_⟩
                · unfold stepF dvB; dsimp only; split <;> omega
                · unfold stepF dvB; dsimp only; split <;> omega
                ·
                  repeat' first | exact trivial | exact rfl | exact Nat.zero_le _ | exact Nat.zero_lt_succ _ | exact (by decide : (0 : Nat) < 1) | exact (by decide : (1 : Nat) < 4) | exact (by decide : (2 : Nat) < 4) | exact (by decide : (3 : Nat) < 4) | exact (by decide : (1 : Nat) < 2) | exact (by decide : (2 : Nat) < 3) | exact congrArg int (by (try dsimp only); omega) | exact congrArg bool (by (try dsimp only); simp; omega) | (show _ < List.length _; simp; done) | apply And.intro
              · rw [show wq.drop i = [] by rw [List.drop_eq_nil_iff]; omega, List.foldl_nil] at h3
                subst h3
                conv => whnf
                repeat' first
                  | (refine Case.not ?_; conv => whnf)
                  | (refine Case.yes ?_; conv => whnf)
                  | (refine Case.no ?_; conv => whnf)
                  | (refine Case.isTrue (by assumption) ?_; conv => whnf)
                  | (refine Case.isFalse (by assumption) ?_; conv => whnf)
                  | (refine Case.decT (by assumption) ?_; conv => whnf)
                  | (refine Case.decF (by assumption) ?_; conv => whnf)
                  | (refine Case.decT (by omega) ?_; conv => whnf)
                  | (refine Case.decF (by omega) ?_; conv => whnf)
                  | (refine Case.beqT (by omega) ?_; conv => whnf)
                  | (refine Case.beqF (by omega) ?_; conv => whnf)
                  | (refine Case.strT (by assumption) ?_; conv => whnf)
                  | (refine Case.strF (by assumption) ?_; conv => whnf)
                  | (refine Case.strF (by simp only [*]; decide) ?_; conv => whnf)
                  | (refine step_kinds 2 ?hk ?_; (case hk => decide +kernel); conv => whnf)
                  | (refine step_kinds 3 ?hk ?_; (case hk => decide +kernel); conv => whnf)
                  | (refine Num.id (by omega) (by omega) ?_; conv => whnf)
                  | (refine Case.strI (fun _ => ?_) (fun _ => ?_) <;> conv => whnf)
                  | (refine Both.mk ?_ ?_ <;> conv => whnf)
                  | (refine Case.dec (fun _ => ?_) (fun _ => ?_) <;> conv => whnf)
                  | (refine Case.beqI (fun _ => ?_) (fun _ => ?_) <;> conv => whnf)
                  | (refine Case.mk (fun _ => ?_) (fun _ => ?_) <;> conv => whnf)
                  | (refine Way.fst ?_; conv => whnf)
                refine step_loop tab_ok (fun s : Nat × Int => padK [sB t, .junk, .junk, .junk, bool neg, .junk, sB ([]:List UInt8), .junk, int s.2, .junk, .junk, .junk, .junk, .junk, .junk, .junk, .junk, .junk, .junk, .junk, .junk, .junk, .junk, .junk, .junk, .junk, .junk, .junk, .junk, .junk, .junk, .junk, .junk, .junk, .junk, .junk, .junk, .junk, .junk, .junk, .junk, .junk, .junk, .junk, .junk, .junk, .junk, .junk, .junk, .junk, .junk, .junk, .junk, .junk, .junk, .junk, .junk, .junk, .junk, .junk, .junk, .junk, .junk, .junk, .junk, int s.1] 87) (fun _ => []) 0 (OfK (foldF wq) ([]:List UInt8)) (fun s => 3 - s.1) (0, foldF wq) ⟨by simp, rfl, h4, h5⟩ (fun _ => rfl) ?_ ?_
                ·
                  repeat' first | exact trivial | exact rfl | exact Nat.zero_le _ | exact Nat.zero_lt_succ _ | exact (by decide : (0 : Nat) < 1) | exact (by decide : (1 : Nat) < 4) | exact (by decide : (2 : Nat) < 4) | exact (by decide : (3 : Nat) < 4) | exact (by decide : (1 : Nat) < 2) | exact (by decide : (2 : Nat) < 3) | exact congrArg int (by (try dsimp only); omega) | exact congrArg bool (by (try dsimp only); simp; omega) | (show _ < List.length _; simp; done) | apply And.intro
                · rintro ⟨k, n⟩ ⟨g1, g2, g3, g4⟩
                  simp only at g1 g2 g3 g4
                  have hsz := size_sB ([]:List UInt8)
                  dsimp only
                  conv => whnf
                  refine Case.dec (fun h0 => ?_) (fun h0 => ?_)
                  · have hb := bdK_le (k := k) (by omega)
                    have hacc : accL (foldF wq) ([]:List UInt8) (k + 1) = n * 10 + dL ([]:List UInt8) k := by rw [accL, ← g2]
                    conv => whnf
                    refine Num.id (by omega) (by omega) ?_
                    conv => whnf
                    refine Case.dec (fun h8 => ?_) (fun h8 => ?_)
                    · obtain ⟨c, hcc⟩ : ∃ c, ([]:List UInt8)[k]? = some c := ⟨_, List.getElem?_eq_getElem (by rw [hsz] at h8; omega)⟩
                      have hdg := dgB_le (List.all_eq_true.1 hpd c (List.mem_of_getElem? hcc))
                      have hdl : dL ([]:List UInt8) k = c.toNat - 48 := by unfold dL; rw [hcc]; rfl
                      conv => whnf
                      repeat' first
                        | (refine Case.not ?_; conv => whnf)
                        | (refine Case.yes ?_; conv => whnf)
                        | (refine Case.no ?_; conv => whnf)
                        | (refine Case.isTrue (by assumption) ?_; conv => whnf)
                        | (refine Case.isFalse (by assumption) ?_; conv => whnf)
                        | (refine Case.decT (by assumption) ?_; conv => whnf)
                        | (refine Case.decF (by assumption) ?_; conv => whnf)
                        | (refine Case.decT (by omega) ?_; conv => whnf)
                        | (refine Case.decF (by omega) ?_; conv => whnf)
                        | (refine Case.beqT (by omega) ?_; conv => whnf)
                        | (refine Case.beqF (by omega) ?_; conv => whnf)
                        | (refine Case.strT (by assumption) ?_; conv => whnf)
                        | (refine Case.strF (by assumption) ?_; conv => whnf)
                        | (refine Case.strF (by simp only [*]; decide) ?_; conv => whnf)
                        | (refine step_kinds 2 ?hk ?_; (case hk => decide +kernel); conv => whnf)
                        | (refine step_kinds 3 ?hk ?_; (case hk => decide +kernel); conv => whnf)
                        | (refine Owes.mk (by omega) ?_; conv => whnf)
                        | (refine Byte.mk k c rfl (by simpa using hcc) ?_; conv => whnf)
                        | (refine Num.id8 (by omega) (by omega) ?_; conv => whnf)
                        | (refine Num.id (by omega) (by omega) ?_; conv => whnf)
                        | (refine Case.strI (fun _ => ?_) (fun _ => ?_) <;> conv => whnf)
                        | (refine Both.mk ?_ ?_ <;> conv => whnf)
                        | (refine Case.dec (fun _ => ?_) (fun _ => ?_) <;> conv => whnf)
                        | (refine Case.beqI (fun _ => ?_) (fun _ => ?_) <;> conv => whnf)
                        | (refine Case.mk (fun _ => ?_) (fun _ => ?_) <;> conv => whnf)
                        | (refine Way.fst ?_; conv => whnf)
                      refine ⟨(k + 1, n * 10 + (c.toNat - 48)), ⟨by dsimp only; omega, by dsimp only; rw [hacc, hdl], by dsimp only; omega, by dsimp only; omega⟩, by dsimp only; omega, ?_⟩
                      repeat' first | exact trivial | exact rfl | exact Nat.zero_le _ | exact Nat.zero_lt_succ _ | exact (by decide : (0 : Nat) < 1) | exact (by decide : (1 : Nat) < 4) | exact (by decide : (2 : Nat) < 4) | exact (by decide : (3 : Nat) < 4) | exact (by decide : (1 : Nat) < 2) | exact (by decide : (2 : Nat) < 3) | exact congrArg int (by (try dsimp only); omega) | exact congrArg bool (by (try dsimp only); simp; omega) | (show _ < List.length _; simp; done) | apply And.intro
                    · have hdl : dL ([]:List UInt8) k = 0 := by unfold dL; rw [List.getElem?_eq_none (by rw [hsz] at h8; omega)]
                      conv => whnf
                      repeat' first
                        | (refine Case.not ?_; conv => whnf)
                        | (refine Case.yes ?_; conv => whnf)
                        | (refine Case.no ?_; conv => whnf)
                        | (refine Case.isTrue (by assumption) ?_; conv => whnf)
                        | (refine Case.isFalse (by assumption) ?_; conv => whnf)
                        | (refine Case.decT (by assumption) ?_; conv => whnf)
                        | (refine Case.decF (by assumption) ?_; conv => whnf)
                        | (refine Case.decT (by omega) ?_; conv => whnf)
                        | (refine Case.decF (by omega) ?_; conv => whnf)
                        | (refine Case.beqT (by omega) ?_; conv => whnf)
                        | (refine Case.beqF (by omega) ?_; conv => whnf)
                        | (refine Case.strT (by assumption) ?_; conv => whnf)
                        | (refine Case.strF (by assumption) ?_; conv => whnf)
                        | (refine Case.strF (by simp only [*]; decide) ?_; conv => whnf)
                        | (refine step_kinds 2 ?hk ?_; (case hk => decide +kernel); conv => whnf)
                        | (refine step_kinds 3 ?hk ?_; (case hk => decide +kernel); conv => whnf)
                        | (refine Num.id (by omega) (by omega) ?_; conv => whnf)
                        | (refine Case.strI (fun _ => ?_) (fun _ => ?_) <;> conv => whnf)
                        | (refine Both.mk ?_ ?_ <;> conv => whnf)
                        | (refine Case.dec (fun _ => ?_) (fun _ => ?_) <;> conv => whnf)
                        | (refine Case.beqI (fun _ => ?_) (fun _ => ?_) <;> conv => whnf)
                        | (refine Case.mk (fun _ => ?_) (fun _ => ?_) <;> conv => whnf)
                        | (refine Way.fst ?_; conv => whnf)
                      refine ⟨(k + 1, n * 10), ⟨by dsimp only; omega, by dsimp only; rw [hacc, hdl]; omega, by dsimp only; omega, by dsimp only; omega⟩, by dsimp only; omega, ?_⟩
                      repeat' first | exact trivial | exact rfl | exact Nat.zero_le _ | exact Nat.zero_lt_succ _ | exact (by decide : (0 : Nat) < 1) | exact (by decide : (1 : Nat) < 4) | exact (by decide : (2 : Nat) < 4) | exact (by decide : (3 : Nat) < 4) | exact (by decide : (1 : Nat) < 2) | exact (by decide : (2 : Nat) < 3) | exact congrArg int (by (try dsimp only); omega) | exact congrArg bool (by (try dsimp only); simp; omega) | (show _ < List.length _; simp; done) | apply And.intro
                  · have hk : k = 3 := by omega
                    subst hk
                    have g2 : n = fracL (foldF wq) ([]:List UInt8) := g2
                    have g4 : n ≤ 1099511627776999 := g4
                    conv => whnf
                    repeat' first
                      | (refine Case.not ?_; conv => whnf)
                      | (refine Case.yes ?_; conv => whnf)
                      | (refine Case.no ?_; conv => whnf)
                      | (refine Case.isTrue (by assumption) ?_; conv => whnf)
                      | (refine Case.isFalse (by assumption) ?_; conv => whnf)
                      | (refine Case.decT (by assumption) ?_; conv => whnf)
                      | (refine Case.decF (by assumption) ?_; conv => whnf)
                      | (refine Case.decT (by omega) ?_; conv => whnf)
                      | (refine Case.decF (by omega) ?_; conv => whnf)
                      | (refine Case.beqT (by omega) ?_; conv => whnf)
                      | (refine Case.beqF (by omega) ?_; conv => whnf)
                      | (refine Case.strT (by assumption) ?_; conv => whnf)
                      | (refine Case.strF (by assumption) ?_; conv => whnf)
                      | (refine Case.strF (by simp only [*]; decide) ?_; conv => whnf)
                      | (refine step_kinds 2 ?hk ?_; (case hk => decide +kernel); conv => whnf)
                      | (refine step_kinds 3 ?hk ?_; (case hk => decide +kernel); conv => whnf)
                      | (refine (ycap _).call ⟨rfl, rfl⟩ ?_; conv => whnf)
                      | (refine Num.id (by omega) (by omega) ?_; conv => whnf)
                      | (refine Case.strI (fun _ => ?_) (fun _ => ?_) <;> conv => whnf)
                      | (refine Both.mk ?_ ?_ <;> conv => whnf)
                      | (refine Case.dec (fun _ => ?_) (fun _ => ?_) <;> conv => whnf)
                      | (refine Case.beqI (fun _ => ?_) (fun _ => ?_) <;> conv => whnf)
                      | (refine Case.mk (fun _ => ?_) (fun _ => ?_) <;> conv => whnf)
                      | (refine Way.fst ?_; conv => whnf)
                    · refine Fin.num ?_
                      simp [numBody, hw, hpd, sgnN, g2, hne, (by assumption : neg = true)]
                    · refine Fin.num ?_
                      simp [numBody, hw, hpd, sgnN, g2, hne, (by assumption : neg = false)]
    · simp only [Option.getD_some, Option.isSome_some] at hcut hc
      have dw := ydigits wh (by omega)
      have dp := ydigits p (by omega)
      cases hw : wh.all dgB
      · rw [hw] at dw
        conv => whnf
        refine step_of tab_ok ?_
        conv => whnf
        repeat' first
          | (refine Case.not ?_; conv => whnf)
          | (refine Case.yes ?_; conv => whnf)
          | (refine Case.no ?_; conv => whnf)
          | (refine Case.isTrue (by assumption) ?_; conv => whnf)
          | (refine Case.isFalse (by assumption) ?_; conv => whnf)
          | (refine Case.decT (by assumption) ?_; conv => whnf)
          | (refine Case.decF (by assumption) ?_; conv => whnf)
          | (refine Case.decT (by omega) ?_; conv => whnf)
          | (refine Case.decF (by omega) ?_; conv => whnf)
          | (refine Case.beqT (by omega) ?_; conv => whnf)
          | (refine Case.beqF (by omega) ?_; conv => whnf)
          | (refine Case.strT (by assumption) ?_; conv => whnf)
          | (refine Case.strF (by assumption) ?_; conv => whnf)
          | (refine Case.strF (by simp only [*]; decide) ?_; conv => whnf)
          | (refine step_kinds 2 ?hk ?_; (case hk => decide +kernel); conv => whnf)
          | (refine step_kinds 3 ?hk ?_; (case hk => decide +kernel); conv => whnf)
          | (refine hcut.call ⟨rfl, rfl, rfl⟩ ?_; conv => whnf)
          | (refine dw.call ⟨rfl, rfl⟩ ?_; conv => whnf)
          | (refine dp.call ⟨rfl, rfl⟩ ?_; conv => whnf)
          | (refine Num.id (by omega) (by omega) ?_; conv => whnf)
          | (refine Case.strI (fun _ => ?_) (fun _ => ?_) <;> conv => whnf)
          | (refine Both.mk ?_ ?_ <;> conv => whnf)
          | (refine Case.dec (fun _ => ?_) (fun _ => ?_) <;> conv => whnf)
          | (refine Case.beqI (fun _ => ?_) (fun _ => ?_) <;> conv => whnf)
          | (refine Case.mk (fun _ => ?_) (fun _ => ?_) <;> conv => whnf)
          | (refine Way.fst ?_; conv => whnf)
        refine Fin.num ?_
        simp [numBody, hw]
      · rw [hw] at dw
        cases hpd : p.all dgB
        · rw [hpd] at dp
          conv => whnf
          refine step_of tab_ok ?_
          conv => whnf
          repeat' first
            | (refine Case.not ?_; conv => whnf)
            | (refine Case.yes ?_; conv => whnf)
            | (refine Case.no ?_; conv => whnf)
            | (refine Case.isTrue (by assumption) ?_; conv => whnf)
            | (refine Case.isFalse (by assumption) ?_; conv => whnf)
            | (refine Case.decT (by assumption) ?_; conv => whnf)
            | (refine Case.decF (by assumption) ?_; conv => whnf)
            | (refine Case.decT (by omega) ?_; conv => whnf)
            | (refine Case.decF (by omega) ?_; conv => whnf)
            | (refine Case.beqT (by omega) ?_; conv => whnf)
            | (refine Case.beqF (by omega) ?_; conv => whnf)
            | (refine Case.strT (by assumption) ?_; conv => whnf)
            | (refine Case.strF (by assumption) ?_; conv => whnf)
            | (refine Case.strF (by simp only [*]; decide) ?_; conv => whnf)
            | (refine step_kinds 2 ?hk ?_; (case hk => decide +kernel); conv => whnf)
            | (refine step_kinds 3 ?hk ?_; (case hk => decide +kernel); conv => whnf)
            | (refine hcut.call ⟨rfl, rfl, rfl⟩ ?_; conv => whnf)
            | (refine dw.call ⟨rfl, rfl⟩ ?_; conv => whnf)
            | (refine dp.call ⟨rfl, rfl⟩ ?_; conv => whnf)
            | (refine Num.id (by omega) (by omega) ?_; conv => whnf)
            | (refine Case.strI (fun _ => ?_) (fun _ => ?_) <;> conv => whnf)
            | (refine Both.mk ?_ ?_ <;> conv => whnf)
            | (refine Case.dec (fun _ => ?_) (fun _ => ?_) <;> conv => whnf)
            | (refine Case.beqI (fun _ => ?_) (fun _ => ?_) <;> conv => whnf)
            | (refine Case.mk (fun _ => ?_) (fun _ => ?_) <;> conv => whnf)
            | (refine Way.fst ?_; conv => whnf)
          refine Fin.num ?_
          simp [numBody, hw, hpd]
        · rw [hpd] at dp
          rcases p with _ | ⟨c0, r0⟩
          · conv => whnf
            refine step_of tab_ok ?_
            conv => whnf
            repeat' first
              | (refine Case.not ?_; conv => whnf)
              | (refine Case.yes ?_; conv => whnf)
              | (refine Case.no ?_; conv => whnf)
              | (refine Case.isTrue (by assumption) ?_; conv => whnf)
              | (refine Case.isFalse (by assumption) ?_; conv => whnf)
              | (refine Case.decT (by assumption) ?_; conv => whnf)
              | (refine Case.decF (by assumption) ?_; conv => whnf)
              | (refine Case.decT (by omega) ?_; conv => whnf)
              | (refine Case.decF (by omega) ?_; conv => whnf)
              | (refine Case.beqT (by omega) ?_; conv => whnf)
              | (refine Case.beqF (by omega) ?_; conv => whnf)
              | (refine Case.strT (by assumption) ?_; conv => whnf)
              | (refine Case.strF (by assumption) ?_; conv => whnf)
              | (refine Case.strF (by simp only [*]; decide) ?_; conv => whnf)
              | (refine step_kinds 2 ?hk ?_; (case hk => decide +kernel); conv => whnf)
              | (refine step_kinds 3 ?hk ?_; (case hk => decide +kernel); conv => whnf)
              | (refine hcut.call ⟨rfl, rfl, rfl⟩ ?_; conv => whnf)
              | (refine dw.call ⟨rfl, rfl⟩ ?_; conv => whnf)
              | (refine dp.call ⟨rfl, rfl⟩ ?_; conv => whnf)
              | (refine Case.strT rfl ?_; conv => whnf)
              | (refine Num.id (by omega) (by omega) ?_; conv => whnf)
              | (refine Case.strI (fun _ => ?_) (fun _ => ?_) <;> conv => whnf)
              | (refine Both.mk ?_ ?_ <;> conv => whnf)
              | (refine Case.dec (fun _ => ?_) (fun _ => ?_) <;> conv => whnf)
              | (refine Case.beqI (fun _ => ?_) (fun _ => ?_) <;> conv => whnf)
              | (refine Case.mk (fun _ => ?_) (fun _ => ?_) <;> conv => whnf)
              | (refine Way.fst ?_; conv => whnf)
            refine Fin.num ?_
            simp [numBody]
          · conv => whnf
            refine step_of tab_ok ?_
            conv => whnf
            repeat' first
              | (refine Case.not ?_; conv => whnf)
              | (refine Case.yes ?_; conv => whnf)
              | (refine Case.no ?_; conv => whnf)
              | (refine Case.isTrue (by assumption) ?_; conv => whnf)
              | (refine Case.isFalse (by assumption) ?_; conv => whnf)
              | (refine Case.decT (by assumption) ?_; conv => whnf)
              | (refine Case.decF (by assumption) ?_; conv => whnf)
              | (refine Case.decT (by omega) ?_; conv => whnf)
              | (refine Case.decF (by omega) ?_; conv => whnf)
              | (refine Case.beqT (by omega) ?_; conv => whnf)
              | (refine Case.beqF (by omega) ?_; conv => whnf)
              | (refine Case.strT (by assumption) ?_; conv => whnf)
              | (refine Case.strF (by assumption) ?_; conv => whnf)
              | (refine Case.strF (by simp only [*]; decide) ?_; conv => whnf)
              | (refine step_kinds 2 ?hk ?_; (case hk => decide +kernel); conv => whnf)
              | (refine step_kinds 3 ?hk ?_; (case hk => decide +kernel); conv => whnf)
              | (refine hcut.call ⟨rfl, rfl, rfl⟩ ?_; conv => whnf)
              | (refine dw.call ⟨rfl, rfl⟩ ?_; conv => whnf)
              | (refine dp.call ⟨rfl, rfl⟩ ?_; conv => whnf)
              | (refine Case.strF (by simp) ?_; conv => whnf)
              | (refine Num.id (by omega) (by omega) ?_; conv => whnf)
              | (refine Case.strI (fun _ => ?_) (fun _ => ?_) <;> conv => whnf)
              | (refine Both.mk ?_ ?_ <;> conv => whnf)
              | (refine Case.dec (fun _ => ?_) (fun _ => ?_) <;> conv => whnf)
              | (refine Case.beqI (fun _ => ?_) (fun _ => ?_) <;> conv => whnf)
              | (refine Case.mk (fun _ => ?_) (fun _ => ?_) <;> conv => whnf)
              | (refine Way.fst ?_; conv => whnf)
            have hne : (c0 :: r0).isEmpty = false := rfl
            generalize c0 :: r0 = pq at *
            · have hlw : (wh.map byteRow).length = wh.length := List.length_map ..
              refine step_loop tab_ok (fun s : Nat × Int => padK [sB t, .junk, .junk, .junk, bool neg, .junk, sB pq, .junk, int s.2, .junk, .junk, .junk, .junk, .junk, .junk, .junk, .junk, .junk, .junk, .junk, .junk, .junk, .junk, .junk, .junk, .junk, .junk, .junk, .junk, .junk, .junk, .junk, .junk, .junk, .junk, .junk, .junk, .junk, .junk, .junk, .junk, .junk, .junk, .junk, .junk, .junk, .junk, .junk, .junk, .junk, .junk, .f (.sl (wh.map byteRow)), int wh.length, int s.1] 87) (fun _ => []) 0 (OfI wh) (fun s => wh.length - s.1) (0, 0) ⟨by simp, rfl, by simp, by simp⟩ (fun _ => rfl) ?_ ?_
              ·
                repeat' first | exact trivial | exact rfl | exact Nat.zero_le _ | exact Nat.zero_lt_succ _ | exact (by decide : (0 : Nat) < 1) | exact (by decide : (1 : Nat) < 4) | exact (by decide : (2 : Nat) < 4) | exact (by decide : (3 : Nat) < 4) | exact (by decide : (1 : Nat) < 2) | exact (by decide : (2 : Nat) < 3) | exact congrArg int (by (try dsimp only); omega) | exact congrArg bool (by (try dsimp only); simp; omega) | (show _ < List.length _; simp; done) | apply And.intro
                all_goals exact congrArg int (by simp)
              · rintro ⟨i, n⟩ ⟨h1, h3, h4, h5⟩
                simp only at h1 h3 h4 h5
                dsimp only
                conv => whnf
                refine Case.dec (fun h0 => ?_) (fun h0 => ?_)
                · obtain ⟨c, hcc⟩ : ∃ c, wh[i]? = some c := ⟨_, List.getElem?_eq_getElem (by omega)⟩
                  have hd : wh.drop i = c :: wh.drop (i + 1) := drop_cons' hcc
                  have hdg := dgB_le (List.all_eq_true.1 hw c (List.mem_of_getElem? hcc))
                  rw [hd, List.foldl_cons] at h3
                  conv => whnf
                  repeat' first
                    | (refine Case.not ?_; conv => whnf)
                    | (refine Case.yes ?_; conv => whnf)
                    | (refine Case.no ?_; conv => whnf)
                    | (refine Case.isTrue (by assumption) ?_; conv => whnf)
                    | (refine Case.isFalse (by assumption) ?_; conv => whnf)
                    | (refine Case.decT (by assumption) ?_; conv => whnf)
                    | (refine Case.decF (by assumption) ?_; conv => whnf)
                    | (refine Case.decT (by omega) ?_; conv => whnf)
                    | (refine Case.decF (by omega) ?_; conv => whnf)
                    | (refine Case.beqT (by omega) ?_; conv => whnf)
                    | (refine Case.beqF (by omega) ?_; conv => whnf)
                    | (refine Case.strT (by assumption) ?_; conv => whnf)
                    | (refine Case.strF (by assumption) ?_; conv => whnf)
                    | (refine Case.strF (by simp only [*]; decide) ?_; conv => whnf)
                    | (refine step_kinds 2 ?hk ?_; (case hk => decide +kernel); conv => whnf)
                    | (refine step_kinds 3 ?hk ?_; (case hk => decide +kernel); conv => whnf)
                    | (refine Owes.mk byteRow_len ?_; conv => whnf)
                    | (refine Elem.mk i _ rfl (bytes_get hcc) ?_; conv => whnf)
                    | (refine Num.id8 (by omega) (by omega) ?_; conv => whnf)
                    | (refine Num.id (by omega) (by omega) ?_; conv => whnf)
                    | (refine Case.strI (fun _ => ?_) (fun _ => ?_) <;> conv => whnf)
                    | (refine Both.mk ?_ ?_ <;> conv => whnf)
                    | (refine Case.dec (fun _ => ?_) (fun _ => ?_) <;> conv => whnf)
                    | (refine Case.beqI (fun _ => ?_) (fun _ => ?_) <;> conv => whnf)
                    | (refine Case.mk (fun _ => ?_) (fun _ => ?_) <;> conv => whnf)
                    | (refine Way.fst ?_; conv => whnf)
                  refine ⟨(i + 1, stepF n c), ⟨by dsimp only; omega, h3, ?_, ?_⟩, by dsimp only; omega, ?_⟩
                  · unfold stepF dvB; dsimp only; split <;> omega
                  · unfold stepF dvB; dsimp only; split <;> omega
                  ·
                    repeat' first | exact trivial | exact rfl | exact Nat.zero_le _ | exact Nat.zero_lt_succ _ | exact (by decide : (0 : Nat) < 1) | exact (by decide : (1 : Nat) < 4) | exact (by decide : (2 : Nat) < 4) | exact (by decide : (3 : Nat) < 4) | exact (by decide : (1 : Nat) < 2) | exact (by decide : (2 : Nat) < 3) | exact congrArg int (by (try dsimp only); omega) | exact congrArg bool (by (try dsimp only); simp; omega) | (show _ < List.length _; simp; done) | apply And.intro
                · rw [show wh.drop i = [] by rw [List.drop_eq_nil_iff]; omega, List.foldl_nil] at h3
                  subst h3
                  conv => whnf
                  repeat' first
                    | (refine Case.not ?_; conv => whnf)
                    | (refine Case.yes ?_; conv => whnf)
                    | (refine Case.no ?_; conv => whnf)
                    | (refine Case.isTrue (by assumption) ?_; conv => whnf)
                    | (refine Case.isFalse (by assumption) ?_; conv => whnf)
                    | (refine Case.decT (by assumption) ?_; conv => whnf)
                    | (refine Case.decF (by assumption) ?_; conv => whnf)
                    | (refine Case.decT (by omega) ?_; conv => whnf)
                    | (refine Case.decF (by omega) ?_; conv => whnf)
                    | (refine Case.beqT (by omega) ?_; conv => whnf)
                    | (refine Case.beqF (by omega) ?_; conv => whnf)
                    | (refine Case.strT (by assumption) ?_; conv => whnf)
                    | (refine Case.strF (by assumption) ?_; conv => whnf)
                    | (refine Case.strF (by simp only [*]; decide) ?_; conv => whnf)
                    | (refine step_kinds 2 ?hk ?_; (case hk => decide +kernel); conv => whnf)
                    | (refine step_kinds 3 ?hk ?_; (case hk => decide +kernel); conv => whnf)
                    | (refine Num.id (by omega) (by omega) ?_; conv => whnf)
                    | (refine Case.strI (fun _ => ?_) (fun _ => ?_) <;> conv => whnf)
                    | (refine Both.mk ?_ ?_ <;> conv => whnf)
                    | (refine Case.dec (fun _ => ?_) (fun _ => ?_) <;> conv => whnf)
                    | (refine Case.beqI (fun _ => ?_) (fun _ => ?_) <;> conv => whnf)
                    | (refine Case.mk (fun _ => ?_) (fun _ => ?_) <;> conv => whnf)
                    | (refine Way.fst ?_; conv => whnf)
                  refine step_loop tab_ok (fun s : Nat × Int => padK [sB t, .junk, .junk, .junk, bool neg, .junk, sB pq, .junk, int s.2, .junk, .junk, .junk, .junk, .junk, .junk, .junk, .junk, .junk, .junk, .junk, .junk, .junk, .junk, .junk, .junk, .junk, .junk, .junk, .junk, .junk, .junk, .junk, .junk, .junk, .junk, .junk, .junk, .junk, .junk, .junk, .junk, .junk, .junk, .junk, .junk, .junk, .junk, .junk, .junk, .junk, .junk, .junk, .junk, .junk, .junk, .junk, .junk, .junk, .junk, .junk, .junk, .junk, .junk, .junk, .junk, int s.1] 87) (fun _ => []) 0 (OfK (foldF wh) pq) (fun s => 3 - s.1) (0, foldF wh) ⟨by simp, rfl, h4, h5⟩ (fun _ => rfl) ?_ ?_
                  ·
                    repeat' first | exact trivial | exact rfl | exact Nat.zero_le _ | exact Nat.zero_lt_succ _ | exact (by decide : (0 : Nat) < 1) | exact (by decide : (1 : Nat) < 4) | exact (by decide : (2 : Nat) < 4) | exact (by decide : (3 : Nat) < 4) | exact (by decide : (1 : Nat) < 2) | exact (by decide : (2 : Nat) < 3) | exact congrArg int (by (try dsimp only); omega) | exact congrArg bool (by (try dsimp only); simp; omega) | (show _ < List.length _; simp; done) | apply And.intro
                  · rintro ⟨k, n⟩ ⟨g1, g2, g3, g4⟩
                    simp only at g1 g2 g3 g4
                    have hsz := size_sB pq
                    dsimp only
                    conv => whnf
                    refine Case.dec (fun h0 => ?_) (fun h0 => ?_)
                    · have hb := bdK_le (k := k) (by omega)
                      have hacc : accL (foldF wh) pq (k + 1) = n * 10 + dL pq k := by rw [accL, ← g2]
                      conv => whnf
                      refine Num.id (by omega) (by omega) ?_
                      conv => whnf
                      refine Case.dec (fun h8 => ?_) (fun h8 => ?_)
                      · obtain ⟨c, hcc⟩ : ∃ c, pq[k]? = some c := ⟨_, List.getElem?_eq_getElem (by rw [hsz] at h8; omega)⟩
                        have hdg := dgB_le (List.all_eq_true.1 hpd c (List.mem_of_getElem? hcc))
                        have hdl : dL pq k = c.toNat - 48 := by unfold dL; rw [hcc]; rfl
                        conv => whnf
                        repeat' first
                          | (refine Case.not ?_; conv => whnf)
                          | (refine Case.yes ?_; conv => whnf)
                          | (refine Case.no ?_; conv => whnf)
                          | (refine Case.isTrue (by assumption) ?_; conv => whnf)
                          | (refine Case.isFalse (by assumption) ?_; conv => whnf)
                          | (refine Case.decT (by assumption) ?_; conv => whnf)
                          | (refine Case.decF (by assumption) ?_; conv => whnf)
                          | (refine Case.decT (by omega) ?_; conv => whnf)
                          | (refine Case.decF (by omega) ?_; conv => whnf)
                          | (refine Case.beqT (by omega) ?_; conv => whnf)
                          | (refine Case.beqF (by omega) ?_; conv => whnf)
                          | (refine Case.strT (by assumption) ?_; conv => whnf)
                          | (refine Case.strF (by assumption) ?_; conv => whnf)
                          | (refine Case.strF (by simp only [*]; decide) ?_; conv => whnf)
                          | (refine step_kinds 2 ?hk ?_; (case hk => decide +kernel); conv => whnf)
                          | (refine step_kinds 3 ?hk ?_; (case hk => decide +kernel); conv => whnf)
                          | (refine Owes.mk (by omega) ?_; conv => whnf)
                          | (refine Byte.mk k c rfl (by simpa using hcc) ?_; conv => whnf)
                          | (refine Num.id8 (by omega) (by omega) ?_; conv => whnf)
                          | (refine Num.id (by omega) (by omega) ?_; conv => whnf)
                          | (refine Case.strI (fun _ => ?_) (fun _ => ?_) <;> conv => whnf)
                          | (refine Both.mk ?_ ?_ <;> conv => whnf)
                          | (refine Case.dec (fun _ => ?_) (fun _ => ?_) <;> conv => whnf)
                          | (refine Case.beqI (fun _ => ?_) (fun _ => ?_) <;> conv => whnf)
                          | (refine Case.mk (fun _ => ?_) (fun _ => ?_) <;> conv => whnf)
                          | (refine Way.fst ?_; conv => whnf)
                        refine ⟨(k + 1, n * 10 + (c.toNat - 48)), ⟨by dsimp only; omega, by dsimp only; rw [hacc, hdl], by dsimp only; omega, by dsimp only; omega⟩, by dsimp only; omega, ?_⟩
                        repeat' first | exact trivial | exact rfl | exact Nat.zero_le _ | exact Nat.zero_lt_succ _ | exact (by decide : (0 : Nat) < 1) | exact (by decide : (1 : Nat) < 4) | exact (by decide : (2 : Nat) < 4) | exact (by decide : (3 : Nat) < 4) | exact (by decide : (1 : Nat) < 2) | exact (by decide : (2 : Nat) < 3) | exact congrArg int (by (try dsimp only); omega) | exact congrArg bool (by (try dsimp only); simp; omega) | (show _ < List.length _; simp; done) | apply And.intro
                      · have hdl : dL pq k = 0 := by unfold dL; rw [List.getElem?_eq_none (by rw [hsz] at h8; omega)]
                        conv => whnf
                        repeat' first
                          | (refine Case.not ?_; conv => whnf)
                          | (refine Case.yes ?_; conv => whnf)
                          | (refine Case.no ?_; conv => whnf)
                          | (refine Case.isTrue (by assumption) ?_; conv => whnf)
                          | (refine Case.isFalse (by assumption) ?_; conv => whnf)
                          | (refine Case.decT (by assumption) ?_; conv => whnf)
                          | (refine Case.decF (by assumption) ?_; conv => whnf)
                          | (refine Case.decT (by omega) ?_; conv => whnf)
                          | (refine Case.decF (by omega) ?_; conv => whnf)
                          | (refine Case.beqT (by omega) ?_; conv => whnf)
                          | (refine Case.beqF (by omega) ?_; conv => whnf)
                          | (refine Case.strT (by assumption) ?_; conv => whnf)
                          | (refine Case.strF (by assumption) ?_; conv => whnf)
                          | (refine Case.strF (by simp only [*]; decide) ?_; conv => whnf)
                          | (refine step_kinds 2 ?hk ?_; (case hk => decide +kernel); conv => whnf)
                          | (refine step_kinds 3 ?hk ?_; (case hk => decide +kernel); conv => whnf)
                          | (refine Num.id (by omega) (by omega) ?_; conv => whnf)
                          | (refine Case.strI (fun _ => ?_) (fun _ => ?_) <;> conv => whnf)
                          | (refine Both.mk ?_ ?_ <;> conv => whnf)
                          | (refine Case.dec (fun _ => ?_) (fun _ => ?_) <;> conv => whnf)
                          | (refine Case.beqI (fun _ => ?_) (fun _ => ?_) <;> conv => whnf)
                          | (refine Case.mk (fun _ => ?_) (fun _ => ?_) <;> conv => whnf)
                          | (refine Way.fst ?_; conv => whnf)
                        refine ⟨(k + 1, n * 10), ⟨by dsimp only; omega, by dsimp only; rw [hacc, hdl]; omega, by dsimp only; omega, by dsimp only; omega⟩, by dsimp only; omega, ?_⟩
                        repeat' first | exact trivial | exact rfl | exact Nat.zero_le _ | exact Nat.zero_lt_succ _ | exact (by decide : (0 : Nat) < 1) | exact (by decide : (1 : Nat) < 4) | exact (by decide : (2 : Nat) < 4) | exact (by decide : (3 : Nat) < 4) | exact (by decide : (1 : Nat) < 2) | exact (by decide : (2 : Nat) < 3) | exact congrArg int (by (try dsimp only); omega) | exact congrArg bool (by (try dsimp only); simp; omega) | (show _ < List.length _; simp; done) | apply And.intro
                    · have hk : k = 3 := by omega
                      subst hk
                      have g2 : n = fracL (foldF wh) pq := g2
                      have g4 : n ≤ 1099511627776999 := g4
                      conv => whnf
                      repeat' first
                        | (refine Case.not ?_; conv => whnf)
                        | (refine Case.yes ?_; conv => whnf)
                        | (refine Case.no ?_; conv => whnf)
                        | (refine Case.isTrue (by assumption) ?_; conv => whnf)
                        | (refine Case.isFalse (by assumption) ?_; conv => whnf)
                        | (refine Case.decT (by assumption) ?_; conv => whnf)
                        | (refine Case.decF (by assumption) ?_; conv => whnf)
                        | (refine Case.decT (by omega) ?_; conv => whnf)
                        | (refine Case.decF (by omega) ?_; conv => whnf)
                        | (refine Case.beqT (by omega) ?_; conv => whnf)
                        | (refine Case.beqF (by omega) ?_; conv => whnf)
                        | (refine Case.strT (by assumption) ?_; conv => whnf)
                        | (refine Case.strF (by assumption) ?_; conv => whnf)
                        | (refine Case.strF (by simp only [*]; decide) ?_; conv => whnf)
                        | (refine step_kinds 2 ?hk ?_; (case hk => decide +kernel); conv => whnf)
                        | (refine step_kinds 3 ?hk ?_; (case hk => decide +kernel); conv => whnf)
                        | (refine (ycap _).call ⟨rfl, rfl⟩ ?_; conv => whnf)
                        | (refine Num.id (by omega) (by omega) ?_; conv => whnf)
                        | (refine Case.strI (fun _ => ?_) (fun _ => ?_) <;> conv => whnf)
                        | (refine Both.mk ?_ ?_ <;> conv => whnf)
                        | (refine Case.dec (fun _ => ?_) (fun _ => ?_) <;> conv => whnf)
                        | (refine Case.beqI (fun _ => ?_) (fun _ => ?_) <;> conv => whnf)
                        | (refine Case.mk (fun _ => ?_) (fun _ => ?_) <;> conv => whnf)
                        | (refine Way.fst ?_; conv => whnf)
                      · refine Fin.num ?_
                        simp [numBody, hw, hpd, sgnN, g2, hne, (by assumption : neg = true)]
                      · refine Fin.num ?_
                        simp [numBody, hw, hpd, sgnN, g2, hne, (by assumption : neg = false)]
end Go.Proofs.YtdenafhfngnlfaaDoor.Aw
