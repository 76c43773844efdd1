/- The reference's Num. -/
import Derived.Test.YtdfiegleaknleaaXrE
namespace Go.Proofs.Ytdfiegleaknleaa.Aw
open Go Go.RowKit Go.Lib
set_option linter.unusedVariables false
set_option linter.unusedSimpArgs false
set_option maxRecDepth 100000
def wholeRun : List UInt8 → Int → Nat → List UInt8 × Int × Nat
  | [], n, k => ([], n, k)
  | b :: r, n, k => if digit b.toNat then wholeRun r (if n * 10 + b.toNat - 48 > 2147483647 then 2147483647 else n * 10 + b.toNat - 48) (k + 1) else (b :: r, n, k)
def fracRun : List UInt8 → Int → Int → Nat → List UInt8 × Int × Nat
  | [], n, u, k => ([], n, k)
  | b :: r, n, u, k => if digit b.toNat then fracRun r (n + u * (b.toNat - 48)) (u.tdiv 10) (k + 1) else (b :: r, n, k)
def numTail (below : Bool) (n : Int) (bad : Bool) : Int × Bool := if bad then (0, false) else (cap (if below then 0 - n else n), true)
def numPoint (below : Bool) (r : List UInt8) (n : Int) (whole : Nat) : Int × Bool :=
  match r with
  | [] => numTail below (n * 1000) (decide (whole = 0))
  | b :: r => if b.toNat = 46 then (match fracRun r (n * 1000) 100 0 with
    | (r, n, k) => numTail below n (!r.isEmpty || decide (k = 0)))
    else (0, false)
def numSign (bs : List UInt8) : Bool × Nat := match bs with
  | [] => (false, 0)
  | b :: _ => if b.toNat = 45 then (true, 1) else if b.toNat = 43 then (false, 1) else (false, 0)
def numV (bs : List UInt8) : Int × Bool := match wholeRun (bs.drop (numSign bs).2) 0 0 with
  | (r, n, k) => numPoint (numSign bs).1 r n k
theorem drop_cons {bs : List UInt8} {i : Nat} {b : UInt8} {r : List UInt8} (h : bs.drop i = b :: r) : bs[i]? = some b ∧ bs.drop (i + 1) = r ∧ i < bs.length := by
  have h1 : bs[i]? = some b := by
    have := congrArg (·[0]?) h
    simpa using this
  refine ⟨h1, ?_, ?_⟩
  · have := congrArg List.tail h
    simpa [List.tail_drop] using this
  · exact (List.getElem?_eq_some_iff.1 h1).1
theorem drop_nil {bs : List UInt8} {i : Nat} (h : bs.drop i = []) : bs.length ≤ i := by
  simpa using h
structure NumI (bs : List UInt8) (s : Nat × Int × Nat) : Prop where
  i : s.1 ≤ bs.length
  n0 : 0 ≤ s.2.1
  n1 : s.2.1 ≤ 2147483647
  k : s.2.2 ≤ s.1
  run : wholeRun (bs.drop s.1) s.2.1 s.2.2 = wholeRun (bs.drop (numSign bs).2) 0 0
structure NumJ (bs : List UInt8) (s : Nat × Int × Nat) : Prop where
  i : s.1 ≤ bs.length
  n0 : 0 ≤ s.2.1
  n1 : s.2.1 ≤ 2147483647
  k : s.2.2 ≤ s.1
  run : wholeRun (bs.drop (numSign bs).2) 0 0 = (bs.drop s.1, s.2.1, s.2.2)
structure NumK (bs r : List UInt8) (n : Int) (s : Nat × Int × Int × Nat) : Prop where
  i : s.1 ≤ bs.length
  n0 : 0 ≤ s.2.1
  u0 : 0 ≤ s.2.2.1
  u1 : s.2.2.1 ≤ 100
  n1 : s.2.1 + 10 * s.2.2.1 ≤ 2147483648000
  k : s.2.2.2 ≤ s.1
  run : fracRun (bs.drop s.1) s.2.1 s.2.2.1 s.2.2.2 = fracRun r (n * 1000) 100 0
theorem Fin.num {x y : Int} {b c : Bool} {H : Hp} {n n0 : Nat} (e : (x, b) = (y, c)) : Fin (.tup [int x, bool b]) H n 0 n0 (fun d H => H = [] ∧ d = .tup [int y, bool c]) := by
  cases e
  exact Fin.scal ⟨trivial, trivial, trivial⟩ ⟨rfl, rfl⟩
theorem numSign_le (bs : List UInt8) : (numSign bs).2 ≤ bs.length := by
  unfold numSign
  cases bs with
  | nil => simp
  | cons b r => dsimp only; (repeat' split) <;> simp
theorem digit_le {c : Int} (h : digit c = true) : 48 ≤ c ∧ c ≤ 57 := by simpa [digit] using h
theorem num_spec (bs : List UInt8) (hl : bs.length < 1000000000) : Pure 56 [.str ⟨bs.toArray⟩] (.tup [int (numV bs).1, bool (numV bs).2]) := by
  have hz : (⟨bs.toArray⟩ : ByteArray).size = bs.length := rfl
  refine ⟨⟨trivial, trivial, trivial⟩, spec_step tab_ok Try.func56 (by rfl) rfl ?_⟩
  conv => whnf
  refine step_seq tab_ok ?_
  conv => whnf
  refine step_seq tab_ok ?_
  conv => whnf
  refine step_seq tab_ok ?_
  conv => whnf
  refine step_cut tab_ok (fun s : Unit => padK [.str ⟨bs.toArray⟩, .junk, .junk, .junk, int (numSign bs).2, bool (numSign bs).1] 123) (fun _ => []) 0 (fun _ => True) (fun _ => rfl) ?_ ?_
  · conv => whnf
    rcases hb : bs with _ | ⟨b, r⟩
    ·
      repeat' first
        | (refine Case.not ?_; conv => whnf)
        | (refine Case.yes ?_; conv => whnf)
        | (refine Case.no ?_; conv => whnf)
        | (refine Case.isTrue (by assumption) ?_; conv => whnf)
        | (refine Case.isFalse (by assumption) ?_; conv => whnf)
        | (refine Case.decT (by assumption) ?_; conv => whnf)
        | (refine Case.decF (by assumption) ?_; conv => whnf)
        | (refine Case.decT (by omega) ?_; conv => whnf)
        | (refine Case.decF (by omega) ?_; conv => whnf)
        | (refine Case.beqT (by omega) ?_; conv => whnf)
        | (refine Case.beqF (by omega) ?_; conv => whnf)
        | (refine Owes.mk (by omega) ?_; conv => whnf)
        | (refine Num.id (by omega) (by omega) ?_; conv => whnf)
        | (refine Case.dec (fun _ => ?_) (fun _ => ?_) <;> conv => whnf)
        | (refine Case.beqI (fun _ => ?_) (fun _ => ?_) <;> conv => whnf)
        | (refine Case.mk (fun _ => ?_) (fun _ => ?_) <;> conv => whnf)
      refine ⟨(), trivial, ?_⟩
      repeat' first | exact trivial | exact rfl | exact (by decide : (0 : Nat) < 1) | exact Nat.le_refl _ | exact Nat.zero_lt_succ _ | exact congrArg int (by (try dsimp only); omega) | exact congrArg bool (by (try dsimp only); simp; omega) | (show _ < List.length _; simp; done) | apply And.intro
    · have hs : numSign (b :: r) = if b.toNat = 45 then (true, 1) else if b.toNat = 43 then (false, 1) else (false, 0) := rfl
      have h0 : 0 < (⟨(b :: r).toArray⟩ : ByteArray).size := Nat.succ_pos _
      repeat' first
        | (refine Case.not ?_; conv => whnf)
        | (refine Case.yes ?_; conv => whnf)
        | (refine Case.no ?_; conv => whnf)
        | (refine Case.isTrue (by assumption) ?_; conv => whnf)
        | (refine Case.isFalse (by assumption) ?_; conv => whnf)
        | (refine Case.decT (by assumption) ?_; conv => whnf)
        | (refine Case.decF (by assumption) ?_; conv => whnf)
        | (refine Case.decT (by omega) ?_; conv => whnf)
        | (refine Case.decF (by omega) ?_; conv => whnf)
        | (refine Case.beqT (by omega) ?_; conv => whnf)
        | (refine Case.beqF (by omega) ?_; conv => whnf)
        | (refine Owes.mk (by omega) ?_; conv => whnf)
        | (refine Byte.mk 0 b rfl rfl ?_; conv => whnf)
        | (refine Num.id (by omega) (by omega) ?_; conv => whnf)
        | (refine Case.dec (fun _ => ?_) (fun _ => ?_) <;> conv => whnf)
        | (refine Case.beqI (fun _ => ?_) (fun _ => ?_) <;> conv => whnf)
        | (refine Case.mk (fun _ => ?_) (fun _ => ?_) <;> conv => whnf)
      all_goals first
        | (rw [if_pos (by omega)] at hs; rw [hs]; refine ⟨(), trivial, ?_⟩)
        | (rw [if_neg (by omega), if_pos (by omega)] at hs; rw [hs]; refine ⟨(), trivial, ?_⟩)
        | (rw [if_neg (by omega), if_neg (by omega)] at hs; rw [hs]; refine ⟨(), trivial, ?_⟩)
      ·
        repeat' first | exact trivial | exact rfl | exact (by decide : (0 : Nat) < 1) | exact Nat.le_refl _ | exact Nat.zero_lt_succ _ | exact congrArg int (by (try dsimp only); omega) | exact congrArg bool (by (try dsimp only); simp; omega) | (show _ < List.length _; simp; done) | apply And.intro
      ·
        repeat' first | exact trivial | exact rfl | exact (by decide : (0 : Nat) < 1) | exact Nat.le_refl _ | exact Nat.zero_lt_succ _ | exact congrArg int (by (try dsimp only); omega) | exact congrArg bool (by (try dsimp only); simp; omega) | (show _ < List.length _; simp; done) | apply And.intro
      ·
        repeat' first | exact trivial | exact rfl | exact (by decide : (0 : Nat) < 1) | exact Nat.le_refl _ | exact Nat.zero_lt_succ _ | exact congrArg int (by (try dsimp only); omega) | exact congrArg bool (by (try dsimp only); simp; omega) | (show _ < List.length _; simp; done) | apply And.intro
  · intro _ _
    conv => whnf
    refine step_seq tab_ok ?_
    conv => whnf
    refine step_seq tab_ok ?_
    conv => whnf
    refine step_cut tab_ok (fun s => padK [.str ⟨bs.toArray⟩, .junk, .junk, .junk, int s.1, bool (numSign bs).1, int s.2.1, int s.2.2] 123) (fun _ => []) 0 (NumJ bs) (fun _ => rfl) ?_ ?_
    · conv => whnf
      refine step_loop tab_ok (fun s => padK [.str ⟨bs.toArray⟩, .junk, .junk, .junk, int s.1, bool (numSign bs).1, int s.2.1, int s.2.2] 123) (fun _ => []) 0 (NumI bs) (fun s => bs.length - s.1) ((numSign bs).2, 0, 0) ⟨numSign_le bs, by simp, by simp, by simp, rfl⟩ (fun _ => rfl) ?_ ?_
      ·
        repeat' first | exact trivial | exact rfl | exact (by decide : (0 : Nat) < 1) | exact Nat.le_refl _ | exact Nat.zero_lt_succ _ | exact congrArg int (by (try dsimp only); omega) | exact congrArg bool (by (try dsimp only); simp; omega) | (show _ < List.length _; simp; done) | apply And.intro
      · rintro ⟨i, n, k⟩ ⟨h1, h2, h3, h4, h5⟩
        simp only at h1 h2 h3 h4 h5
        dsimp only
        conv => whnf
        rcases hr : bs.drop i with _ | ⟨b, r⟩
        · have hi := drop_nil hr
          repeat' first
            | (refine Case.not ?_; conv => whnf)
            | (refine Case.yes ?_; conv => whnf)
            | (refine Case.no ?_; conv => whnf)
            | (refine Case.isTrue (by assumption) ?_; conv => whnf)
            | (refine Case.isFalse (by assumption) ?_; conv => whnf)
            | (refine Case.decT (by assumption) ?_; conv => whnf)
            | (refine Case.decF (by assumption) ?_; conv => whnf)
            | (refine Case.decT (by omega) ?_; conv => whnf)
            | (refine Case.decF (by omega) ?_; conv => whnf)
            | (refine Case.beqT (by omega) ?_; conv => whnf)
            | (refine Case.beqF (by omega) ?_; conv => whnf)
            | (refine Num.id (by omega) (by omega) ?_; conv => whnf)
            | (refine Case.dec (fun _ => ?_) (fun _ => ?_) <;> conv => whnf)
            | (refine Case.beqI (fun _ => ?_) (fun _ => ?_) <;> conv => whnf)
            | (refine Case.mk (fun _ => ?_) (fun _ => ?_) <;> conv => whnf)
          rw [hr, wholeRun] at h5
          refine ⟨(i, n, k), ⟨h1, h2, h3, h4, by dsimp only; rw [← h5, hr]⟩, ?_⟩
          repeat' first | exact trivial | exact rfl | exact (by decide : (0 : Nat) < 1) | exact Nat.le_refl _ | exact Nat.zero_lt_succ _ | exact congrArg int (by (try dsimp only); omega) | exact congrArg bool (by (try dsimp only); simp; omega) | (show _ < List.length _; simp; done) | apply And.intro
        · obtain ⟨hb, hr', hi⟩ := drop_cons hr
          have hb8 := b.toNat_lt
          repeat' first
            | (refine Case.not ?_; conv => whnf)
            | (refine Case.yes ?_; conv => whnf)
            | (refine Case.no ?_; conv => whnf)
            | (refine Case.isTrue (by assumption) ?_; conv => whnf)
            | (refine Case.isFalse (by assumption) ?_; conv => whnf)
            | (refine Case.decT (by assumption) ?_; conv => whnf)
            | (refine Case.decF (by assumption) ?_; conv => whnf)
            | (refine Case.decT (by omega) ?_; conv => whnf)
            | (refine Case.decF (by omega) ?_; conv => whnf)
            | (refine Case.beqT (by omega) ?_; conv => whnf)
            | (refine Case.beqF (by omega) ?_; conv => whnf)
            | (refine Owes.mk (by omega) ?_; conv => whnf)
            | (refine Byte.mk i b rfl (by simpa using hb) ?_; conv => whnf)
            | (refine (digit_spec _).call ⟨rfl, rfl⟩ ?_; conv => whnf)
            | (refine Num.id (by omega) (by omega) ?_; conv => whnf)
            | (refine Case.dec (fun _ => ?_) (fun _ => ?_) <;> conv => whnf)
            | (refine Case.beqI (fun _ => ?_) (fun _ => ?_) <;> conv => whnf)
            | (refine Case.mk (fun _ => ?_) (fun _ => ?_) <;> conv => whnf)
          · have hd := digit_le (by assumption)
            rw [hr, wholeRun, if_pos (by assumption), if_pos (by assumption)] at h5
            refine ⟨(i + 1, 2147483647, k + 1), ⟨by dsimp only; omega, by dsimp only; omega, by dsimp only; omega, by dsimp only; omega, by dsimp only; rw [hr', h5]⟩, by dsimp only; omega, ?_⟩
            repeat' first | exact trivial | exact rfl | exact (by decide : (0 : Nat) < 1) | exact Nat.le_refl _ | exact Nat.zero_lt_succ _ | exact congrArg int (by (try dsimp only); omega) | exact congrArg bool (by (try dsimp only); simp; omega) | (show _ < List.length _; simp; done) | apply And.intro
          · have hd := digit_le (by assumption)
            rw [hr, wholeRun, if_pos (by assumption), if_neg (by assumption)] at h5
            refine ⟨(i + 1, n * 10 + b.toNat - 48, k + 1), ⟨by dsimp only; omega, by dsimp only; omega, by dsimp only; omega, by dsimp only; omega, by dsimp only; rw [hr', h5]⟩, by dsimp only; omega, ?_⟩
            repeat' first | exact trivial | exact rfl | exact (by decide : (0 : Nat) < 1) | exact Nat.le_refl _ | exact Nat.zero_lt_succ _ | exact congrArg int (by (try dsimp only); omega) | exact congrArg bool (by (try dsimp only); simp; omega) | (show _ < List.length _; simp; done) | apply And.intro
          · rw [hr, wholeRun, if_neg (by simp [(by assumption : digit b.toNat = false)])] at h5
            refine ⟨(i, n, k), ⟨h1, h2, h3, h4, by dsimp only; rw [← h5, hr]⟩, ?_⟩
            repeat' first | exact trivial | exact rfl | exact (by decide : (0 : Nat) < 1) | exact Nat.le_refl _ | exact Nat.zero_lt_succ _ | exact congrArg int (by (try dsimp only); omega) | exact congrArg bool (by (try dsimp only); simp; omega) | (show _ < List.length _; simp; done) | apply And.intro
    · rintro ⟨i, n, k⟩ ⟨h1, h2, h3, h4, h5⟩
      simp only at h1 h2 h3 h4 h5
      dsimp only
      conv => whnf
      refine step_of tab_ok ?_
      conv => whnf
      have e : numV bs = numPoint (numSign bs).1 (bs.drop i) n k := by unfold numV; rw [h5]
      rw [e]
      rcases hr : bs.drop i with _ | ⟨b, r⟩
      · have hi := drop_nil hr
        repeat' first
          | (refine Case.not ?_; conv => whnf)
          | (refine Case.yes ?_; conv => whnf)
          | (refine Case.no ?_; conv => whnf)
          | (refine Case.isTrue (by assumption) ?_; conv => whnf)
          | (refine Case.isFalse (by assumption) ?_; conv => whnf)
          | (refine Case.decT (by assumption) ?_; conv => whnf)
          | (refine Case.decF (by assumption) ?_; conv => whnf)
          | (refine Case.decT (by omega) ?_; conv => whnf)
          | (refine Case.decF (by omega) ?_; conv => whnf)
          | (refine Case.beqT (by omega) ?_; conv => whnf)
          | (refine Case.beqF (by omega) ?_; conv => whnf)
          | (refine Owes.mk (by omega) ?_; conv => whnf)
          | (refine (cap_spec _).call ⟨rfl, rfl⟩ ?_; conv => whnf)
          | (refine Num.id (by omega) (by omega) ?_; conv => whnf)
          | (refine Case.dec (fun _ => ?_) (fun _ => ?_) <;> conv => whnf)
          | (refine Case.beqI (fun _ => ?_) (fun _ => ?_) <;> conv => whnf)
          | (refine Case.mk (fun _ => ?_) (fun _ => ?_) <;> conv => whnf)
        · refine Fin.num ?_; simp [numPoint, numTail, show k = 0 by omega]
        · refine Fin.num ?_; simp [numPoint, numTail, (by assumption : (numSign bs).1 = true), show ¬ k = 0 by omega]
        · refine Fin.num ?_; simp [numPoint, numTail, (by assumption : (numSign bs).1 = false), show ¬ k = 0 by omega]
      · obtain ⟨hb, hr', hi⟩ := drop_cons hr
        have hb8 := b.toNat_lt
        repeat' first
          | (refine Case.not ?_; conv => whnf)
          | (refine Case.yes ?_; conv => whnf)
          | (refine Case.no ?_; conv => whnf)
          | (refine Case.isTrue (by assumption) ?_; conv => whnf)
          | (refine Case.isFalse (by assumption) ?_; conv => whnf)
          | (refine Case.decT (by assumption) ?_; conv => whnf)
          | (refine Case.decF (by assumption) ?_; conv => whnf)
          | (refine Case.decT (by omega) ?_; conv => whnf)
          | (refine Case.decF (by omega) ?_; conv => whnf)
          | (refine Case.beqT (by omega) ?_; conv => whnf)
          | (refine Case.beqF (by omega) ?_; conv => whnf)
          | (refine Owes.mk (by omega) ?_; conv => whnf)
          | (refine Byte.mk i b rfl (by simpa using hb) ?_; conv => whnf)
          | (refine (cap_spec _).call ⟨rfl, rfl⟩ ?_; conv => whnf)
          | (refine Num.id (by omega) (by omega) ?_; conv => whnf)
          | (refine Case.dec (fun _ => ?_) (fun _ => ?_) <;> conv => whnf)
          | (refine Case.beqI (fun _ => ?_) (fun _ => ?_) <;> conv => whnf)
          | (refine Case.mk (fun _ => ?_) (fun _ => ?_) <;> conv => whnf)
        · have e2 : numPoint (numSign bs).1 (b :: r) n k = (match fracRun r (n * 1000) 100 0 with
            | (r, n, k) => numTail (numSign bs).1 n (!r.isEmpty || decide (k = 0))) := by unfold numPoint; dsimp only; rw [if_pos (by omega)]
          rw [e2]
          refine step_loop tab_ok (fun s => padK [.str ⟨bs.toArray⟩, .junk, .junk, .junk, int s.1, bool (numSign bs).1, int s.2.1, int k, int s.2.2.2, bool true, int s.2.2.1] 123) (fun _ => []) 0 (NumK bs r n) (fun s => bs.length - s.1) (i + 1, n * 1000, 100, 0) ⟨by dsimp only; omega, by dsimp only; omega, by dsimp only; omega, by dsimp only; omega, by dsimp only; omega, by dsimp only; omega, by dsimp only; rw [hr']⟩ (fun _ => rfl) ?_ ?_
          ·
            repeat' first | exact trivial | exact rfl | exact (by decide : (0 : Nat) < 1) | exact Nat.le_refl _ | exact Nat.zero_lt_succ _ | exact congrArg int (by (try dsimp only); omega) | exact congrArg bool (by (try dsimp only); simp; omega) | (show _ < List.length _; simp; done) | apply And.intro
          · rintro ⟨j, m, u, q⟩ ⟨g1, g2, g3, g4, g5, g6, g7⟩
            simp only at g1 g2 g3 g4 g5 g6 g7
            have hq : u.tdiv 10 = u / 10 := Int.tdiv_eq_ediv_of_nonneg g3
            dsimp only
            conv => whnf
            rcases hs : bs.drop j with _ | ⟨b', r2⟩
            · have hj := drop_nil hs
              rw [hs, fracRun] at g7
              rw [← g7]
              repeat' first
                | (refine Case.not ?_; conv => whnf)
                | (refine Case.yes ?_; conv => whnf)
                | (refine Case.no ?_; conv => whnf)
                | (refine Case.isTrue (by assumption) ?_; conv => whnf)
                | (refine Case.isFalse (by assumption) ?_; conv => whnf)
                | (refine Case.decT (by assumption) ?_; conv => whnf)
                | (refine Case.decF (by assumption) ?_; conv => whnf)
                | (refine Case.decT (by omega) ?_; conv => whnf)
                | (refine Case.decF (by omega) ?_; conv => whnf)
                | (refine Case.beqT (by omega) ?_; conv => whnf)
                | (refine Case.beqF (by omega) ?_; conv => whnf)
                | (refine Owes.mk (by omega) ?_; conv => whnf)
                | (refine (cap_spec _).call ⟨rfl, rfl⟩ ?_; conv => whnf)
                | (refine Num.id (by omega) (by omega) ?_; conv => whnf)
                | (refine Case.dec (fun _ => ?_) (fun _ => ?_) <;> conv => whnf)
                | (refine Case.beqI (fun _ => ?_) (fun _ => ?_) <;> conv => whnf)
                | (refine Case.mk (fun _ => ?_) (fun _ => ?_) <;> conv => whnf)
              · refine Fin.num ?_; simp [numTail, show q = 0 by omega]
              · refine Fin.num ?_; simp [numTail, (by assumption : (numSign bs).1 = true), show ¬ q = 0 by omega]
              · refine Fin.num ?_; simp [numTail, (by assumption : (numSign bs).1 = false), show ¬ q = 0 by omega]
            · obtain ⟨hb', hr2, hj⟩ := drop_cons hs
              have hb9 := b'.toNat_lt
              cases hd : digit (b'.toNat : Int)
              · rw [hs, fracRun, if_neg (by simp [hd])] at g7
                rw [← g7]
                repeat' first
                  | (refine Case.not ?_; conv => whnf)
                  | (refine Case.yes ?_; conv => whnf)
                  | (refine Case.no ?_; conv => whnf)
                  | (refine Case.isTrue (by assumption) ?_; conv => whnf)
                  | (refine Case.isFalse (by assumption) ?_; conv => whnf)
                  | (refine Case.decT (by assumption) ?_; conv => whnf)
                  | (refine Case.decF (by assumption) ?_; conv => whnf)
                  | (refine Case.decT (by omega) ?_; conv => whnf)
                  | (refine Case.decF (by omega) ?_; conv => whnf)
                  | (refine Case.beqT (by omega) ?_; conv => whnf)
                  | (refine Case.beqF (by omega) ?_; conv => whnf)
                  | (refine Owes.mk (by omega) ?_; conv => whnf)
                  | (refine Byte.mk j b' rfl (by simpa using hb') ?_; conv => whnf)
                  | (refine (digit_spec _).call ⟨rfl, rfl⟩ ?_; conv => whnf)
                  | (refine (cap_spec _).call ⟨rfl, rfl⟩ ?_; conv => whnf)
                  | (refine Num.id (by omega) (by omega) ?_; conv => whnf)
                  | (refine Case.dec (fun _ => ?_) (fun _ => ?_) <;> conv => whnf)
                  | (refine Case.beqI (fun _ => ?_) (fun _ => ?_) <;> conv => whnf)
                  | (refine Case.mk (fun _ => ?_) (fun _ => ?_) <;> conv => whnf)
                all_goals (refine Fin.num ?_; simp [numTail])
              · have hd2 := digit_le hd
                have m1 : 0 ≤ u * ((b'.toNat : Int) - 48) := Int.mul_nonneg g3 (by omega)
                have m2 : u * ((b'.toNat : Int) - 48) ≤ u * 9 := Int.mul_le_mul_of_nonneg_left (by omega) g3
                repeat' first
                  | (refine Case.not ?_; conv => whnf)
                  | (refine Case.yes ?_; conv => whnf)
                  | (refine Case.no ?_; conv => whnf)
                  | (refine Case.isTrue (by assumption) ?_; conv => whnf)
                  | (refine Case.isFalse (by assumption) ?_; conv => whnf)
                  | (refine Case.decT (by assumption) ?_; conv => whnf)
                  | (refine Case.decF (by assumption) ?_; conv => whnf)
                  | (refine Case.decT (by omega) ?_; conv => whnf)
                  | (refine Case.decF (by omega) ?_; conv => whnf)
                  | (refine Case.beqT (by omega) ?_; conv => whnf)
                  | (refine Case.beqF (by omega) ?_; conv => whnf)
                  | (refine Owes.mk (by omega) ?_; conv => whnf)
                  | (refine Byte.mk j b' rfl (by simpa using hb') ?_; conv => whnf)
                  | (refine (digit_spec _).call ⟨rfl, rfl⟩ ?_; conv => whnf)
                  | (refine (cap_spec _).call ⟨rfl, rfl⟩ ?_; conv => whnf)
                  | (refine Num.id (by omega) (by omega) ?_; conv => whnf)
                  | (refine Case.dec (fun _ => ?_) (fun _ => ?_) <;> conv => whnf)
                  | (refine Case.beqI (fun _ => ?_) (fun _ => ?_) <;> conv => whnf)
                  | (refine Case.mk (fun _ => ?_) (fun _ => ?_) <;> conv => whnf)
                rw [hs, fracRun, if_pos hd] at g7
                refine ⟨(j + 1, m + u * (b'.toNat - 48), u.tdiv 10, q + 1), ⟨by dsimp only; omega, by dsimp only; omega, by dsimp only; omega, by dsimp only; omega, by dsimp only; omega, by dsimp only; omega, by dsimp only; rw [hr2, g7]⟩, by dsimp only; omega, ?_⟩
                repeat' first | exact trivial | exact rfl | exact (by decide : (0 : Nat) < 1) | exact Nat.le_refl _ | exact Nat.zero_lt_succ _ | exact congrArg int (by (try dsimp only); omega) | exact congrArg bool (by (try dsimp only); simp; omega) | (show _ < List.length _; simp; done) | apply And.intro
        · refine Fin.num ?_; unfold numPoint; dsimp only; rw [if_neg (by omega)]
end Go.Proofs.Ytdfiegleaknleaa.Aw
