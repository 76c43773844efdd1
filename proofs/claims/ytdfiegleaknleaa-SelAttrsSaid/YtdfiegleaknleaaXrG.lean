/- The reference's numeric. -/
import Derived.Test.YtdfiegleaknleaaXrF
namespace Go.Proofs.Ytdfiegleaknleaa.Aw
open Go Go.RowKit Go.Lib
set_option linter.unusedVariables false
set_option linter.unusedSimpArgs false
set_option maxRecDepth 100000
structure Tok where
  kind : Int := 0
  text : List UInt8 := []
  n : Int := 0
  whole : Bool := false
  c : Int := 0
deriving DecidableEq
def Tok.cells (t : Tok) : Cells := [int t.kind, .str ⟨t.text.toArray⟩, int t.n, bool t.whole, int t.c]
abbrev Tok.d (t : Tok) : D := .agg t.cells
def tok0 : Cells := [int 0, .str ⟨#[]⟩, int 0, bool false, int 0]
theorem digit_lt {l : List Int} {a : Nat} (h : digit (see l a) = true) : a < l.length := by
  refine see_lt ?_
  simp only [digit, Bool.and_eq_true, decide_eq_true_eq] at h
  omega
def digRun (l : List Int) : Nat → Nat → List UInt8 → List UInt8 × Nat
  | 0, p, bs => (bs, p)
  | f + 1, p, bs => if digit (see l p) then digRun l f (p + 1) (bs ++ putB (see l p)) else (bs, p)
theorem digRun_fuel (l : List Int) : ∀ (f g p : Nat) (bs : List UInt8), l.length - p < f → l.length - p < g → digRun l f p bs = digRun l g p bs
  | 0, _, _, _, h, _ => by omega
  | f + 1, 0, _, _, _, h => by omega
  | f + 1, g + 1, p, bs, h1, h2 => by
    unfold digRun
    split
    · rename_i h
      have := digit_lt h
      exact digRun_fuel l f g _ _ (by omega) (by omega)
    · rfl
def numSgn (l : List Int) (a : Nat) : List UInt8 × Nat := if see l a = 43 ∨ see l a = 45 then (putB (see l a), a + 1) else ([], a)
def numInt (l : List Int) (a : Nat) : List UInt8 × Nat := digRun l (l.length + 1) (numSgn l a).2 (numSgn l a).1
def numB (l : List Int) (a : Nat) : List UInt8 × Nat × Bool :=
  if see l (numInt l a).2 = 46 ∧ digit (see l ((numInt l a).2 + 1)) = true then
    ((digRun l (l.length + 1) ((numInt l a).2 + 1) ((numInt l a).1 ++ [46])).1, (digRun l (l.length + 1) ((numInt l a).2 + 1) ((numInt l a).1 ++ [46])).2, false)
  else ((numInt l a).1, (numInt l a).2, true)
def numericT (l : List Int) (a : Nat) : Tok :=
  match numB l a with
  | (bs, p, w) => if begins l p then { kind := 8, n := (numV bs).1, text := nameS l p } else if see l p = 37 then { kind := 7, n := (numV bs).1 } else { kind := 6, n := (numV bs).1, whole := w }
def numericP (l : List Int) (a : Nat) : Nat :=
  match numB l a with
  | (bs, p, w) => if begins l p then nameP l p else if see l p = 37 then p + 1 else p
structure DigI (l : List Int) (r : List UInt8 × Nat) (w : Bool) (s : Nat × List UInt8 × Bool) : Prop where
  p : s.1 ≤ l.length
  b : s.2.1.length ≤ 4 * s.1
  w : s.2.2 = w
  run : ∀ f, l.length - s.1 < f → digRun l f s.1 s.2.1 = r
theorem digRun_end {l : List Int} {r : List UInt8 × Nat} {p : Nat} {bs : List UInt8} (h : ∀ f, l.length - p < f → digRun l f p bs = r) (hd : digit (see l p) = false) : r = (bs, p) := by
  rw [← h (l.length - p + 1) (by omega), digRun, if_neg (by simp [hd])]
theorem numeric_spec (l : List Int) (hl : l.length < 100000000) (a : Nat) (ha : a ≤ l.length) : Meth 42 l a (numericT l a).d (numericP l a) := by
  refine ⟨⟨trivial, trivial, trivial, trivial, trivial, trivial⟩, spec_step tab_ok Try.func42 (by rfl) rfl ?_⟩
  conv => whnf
  refine step_seq tab_ok ?_
  conv => whnf
  refine step_seq tab_ok ?_
  conv => whnf
  refine step_seq tab_ok ?_
  conv => whnf
  refine step_into (E' := padK [.ptr 0 0, .junk, .ptr 1 0, .own 0 5 1 (([] : List UInt8).map byteRow), bool true] 101) (H' := [some (rdr l a), some tok0]) (n' := 1) rfl ?_ ?_
  ·
    repeat' first | exact trivial | exact rfl | exact (by decide : (0 : Nat) < 1) | exact Nat.le_refl _ | exact Nat.zero_lt_succ _ | exact congrArg int (by (try dsimp only); omega) | exact congrArg bool (by (try dsimp only); simp; omega) | (show _ < List.length _; simp; done) | apply And.intro
  conv => whnf
  refine step_cut tab_ok (fun s : Nat × List UInt8 × Bool => padK [.ptr 0 0, .junk, .ptr 1 0, .own 0 5 1 (s.2.1.map byteRow), bool s.2.2] 101) (fun s => [some (rdr l s.1), some tok0]) 1 (fun s => s.1 ≤ l.length ∧ s.2.1.length ≤ 4 * s.1 ∧ s.2.2 = true ∧ (s.2.1, s.1) = numSgn l a) (fun _ => rfl) ?_ ?_
  · conv => whnf
    repeat' first
      | (refine Case.not ?_; conv => whnf)
      | (refine Case.yes ?_; conv => whnf)
      | (refine Case.no ?_; conv => whnf)
      | (refine Case.isTrue (by assumption) ?_; conv => whnf)
      | (refine Case.isFalse (by assumption) ?_; conv => whnf)
      | (refine Case.decT (by assumption) ?_; conv => whnf)
      | (refine Case.decF (by assumption) ?_; conv => whnf)
      | (refine Case.decT (by omega) ?_; conv => whnf)
      | (refine Case.decF (by omega) ?_; conv => whnf)
      | (refine Case.beqT (by omega) ?_; conv => whnf)
      | (refine Case.beqF (by omega) ?_; conv => whnf)
      | (refine (see_at l (by omega) a (by omega) _ a (by omega) (by omega) (by omega)).call ⟨⟨rfl, rfl, trivial⟩, rfl, rfl⟩ ?_; conv => whnf)
      | (refine put_call (by simp) ?_; conv => whnf)
      | (refine Num.id (by omega) (by omega) ?_; conv => whnf)
      | (refine Case.dec (fun _ => ?_) (fun _ => ?_) <;> conv => whnf)
      | (refine Case.beqI (fun _ => ?_) (fun _ => ?_) <;> conv => whnf)
      | (refine Case.mk (fun _ => ?_) (fun _ => ?_) <;> conv => whnf)
    · have h := see_lt (l := l) (i := a) (by omega)
      have hb := putB_le (see l a)
      refine ⟨(a + 1, putB (see l a), true), ⟨by dsimp only; omega, by dsimp only; omega, rfl, by unfold numSgn; rw [if_pos (by omega)]⟩, ?_⟩
      repeat' first | exact trivial | exact rfl | exact (by decide : (0 : Nat) < 1) | exact Nat.le_refl _ | exact Nat.zero_lt_succ _ | exact congrArg int (by (try dsimp only); omega) | exact congrArg bool (by (try dsimp only); simp; omega) | (show _ < List.length _; simp; done) | apply And.intro
    · have h := see_lt (l := l) (i := a) (by omega)
      have hb := putB_le (see l a)
      refine ⟨(a + 1, putB (see l a), true), ⟨by dsimp only; omega, by dsimp only; omega, rfl, by unfold numSgn; rw [if_pos (by omega)]⟩, ?_⟩
      repeat' first | exact trivial | exact rfl | exact (by decide : (0 : Nat) < 1) | exact Nat.le_refl _ | exact Nat.zero_lt_succ _ | exact congrArg int (by (try dsimp only); omega) | exact congrArg bool (by (try dsimp only); simp; omega) | (show _ < List.length _; simp; done) | apply And.intro
    · refine ⟨(a, [], true), ⟨ha, by simp, rfl, by unfold numSgn; rw [if_neg (by omega)]⟩, ?_⟩
      repeat' first | exact trivial | exact rfl | exact (by decide : (0 : Nat) < 1) | exact Nat.le_refl _ | exact Nat.zero_lt_succ _ | exact congrArg int (by (try dsimp only); omega) | exact congrArg bool (by (try dsimp only); simp; omega) | (show _ < List.length _; simp; done) | apply And.intro
  rintro ⟨p, bs, w⟩ ⟨h1, h2, h3, h4⟩
  simp only at h1 h2 h3 h4
  subst h3
  dsimp only
  conv => whnf
  refine step_cut tab_ok (fun s : Nat × List UInt8 × Bool => padK [.ptr 0 0, .junk, .ptr 1 0, .own 0 5 1 (s.2.1.map byteRow), bool s.2.2] 101) (fun s => [some (rdr l s.1), some tok0]) 1 (fun s => s.1 ≤ l.length ∧ s.2.1.length ≤ 4 * s.1 ∧ s.2.2 = true ∧ (s.2.1, s.1) = numInt l a) (fun _ => rfl) ?_ ?_
  · conv => whnf
    refine step_loop tab_ok (fun s : Nat × List UInt8 × Bool => padK [.ptr 0 0, .junk, .ptr 1 0, .own 0 5 1 (s.2.1.map byteRow), bool s.2.2] 101) (fun s => [some (rdr l s.1), some tok0]) 1 (DigI l (numInt l a) true) (fun s => l.length - s.1) (p, bs, true) ⟨h1, h2, rfl, fun f hf => ?_⟩ (fun _ => rfl) ?_ ?_
    · dsimp only at hf ⊢
      unfold numInt
      rw [← h4]
      exact digRun_fuel l f _ _ _ hf (by omega)
    ·
      repeat' first | exact trivial | exact rfl | exact (by decide : (0 : Nat) < 1) | exact Nat.le_refl _ | exact Nat.zero_lt_succ _ | exact congrArg int (by (try dsimp only); omega) | exact congrArg bool (by (try dsimp only); simp; omega) | (show _ < List.length _; simp; done) | apply And.intro
    · rintro ⟨p, bs, w⟩ ⟨g1, g2, g3, g4⟩
      simp only at g1 g2 g3 g4
      subst g3
      dsimp only
      conv => whnf
      repeat' first
        | (refine Case.not ?_; conv => whnf)
        | (refine Case.yes ?_; conv => whnf)
        | (refine Case.no ?_; conv => whnf)
        | (refine Case.isTrue (by assumption) ?_; conv => whnf)
        | (refine Case.isFalse (by assumption) ?_; conv => whnf)
        | (refine Case.decT (by assumption) ?_; conv => whnf)
        | (refine Case.decF (by assumption) ?_; conv => whnf)
        | (refine Case.decT (by omega) ?_; conv => whnf)
        | (refine Case.decF (by omega) ?_; conv => whnf)
        | (refine Case.beqT (by omega) ?_; conv => whnf)
        | (refine Case.beqF (by omega) ?_; conv => whnf)
        | (refine (see_at l (by omega) p (by omega) _ p (by omega) (by omega) (by omega)).call ⟨⟨rfl, rfl, trivial⟩, rfl, rfl⟩ ?_; conv => whnf)
        | (refine (digit_spec _).call ⟨rfl, rfl⟩ ?_; conv => whnf)
        | (refine put_call (by omega) ?_; conv => whnf)
        | (refine Num.id (by omega) (by omega) ?_; conv => whnf)
        | (refine Case.dec (fun _ => ?_) (fun _ => ?_) <;> conv => whnf)
        | (refine Case.beqI (fun _ => ?_) (fun _ => ?_) <;> conv => whnf)
        | (refine Case.mk (fun _ => ?_) (fun _ => ?_) <;> conv => whnf)
      · have h := digit_lt (by assumption)
        have hb := putB_le (see l p)
        refine ⟨(p + 1, bs ++ putB (see l p), true), ⟨by dsimp only; omega, by dsimp only; rw [List.length_append]; omega, rfl, fun f hf => ?_⟩, by dsimp only; omega, ?_⟩
        · dsimp only at hf ⊢
          rw [← g4 (f + 1) (by omega), digRun, if_pos (by assumption)]
        ·
          repeat' first | exact trivial | exact rfl | exact (by decide : (0 : Nat) < 1) | exact Nat.le_refl _ | exact Nat.zero_lt_succ _ | exact congrArg int (by (try dsimp only); omega) | exact congrArg bool (by (try dsimp only); simp; omega) | (show _ < List.length _; simp; done) | apply And.intro
      · refine ⟨(p, bs, true), ⟨g1, g2, rfl, (digRun_end g4 (by assumption)).symm⟩, ?_⟩
        repeat' first | exact trivial | exact rfl | exact (by decide : (0 : Nat) < 1) | exact Nat.le_refl _ | exact Nat.zero_lt_succ _ | exact congrArg int (by (try dsimp only); omega) | exact congrArg bool (by (try dsimp only); simp; omega) | (show _ < List.length _; simp; done) | apply And.intro
  clear h1 h2 h4 p bs
  rintro ⟨p, bs, w⟩ ⟨h1, h2, h3, h4⟩
  simp only at h1 h2 h3 h4
  subst h3
  dsimp only
  conv => whnf
  have e1 : (numInt l a).1 = bs := by rw [← h4]
  have e2 : (numInt l a).2 = p := by rw [← h4]
  refine step_cut tab_ok (fun s : Nat × List UInt8 × Bool => padK [.ptr 0 0, .junk, .ptr 1 0, .own 0 5 1 (s.2.1.map byteRow), bool s.2.2] 101) (fun s => [some (rdr l s.1), some tok0]) 1 (fun s => s.1 ≤ l.length ∧ s.2.1.length ≤ 4 * s.1 ∧ (s.2.1, s.1, s.2.2) = numB l a) (fun _ => rfl) ?_ ?_
  · conv => whnf
    repeat' first
      | (refine Case.not ?_; conv => whnf)
      | (refine Case.yes ?_; conv => whnf)
      | (refine Case.no ?_; conv => whnf)
      | (refine Case.isTrue (by assumption) ?_; conv => whnf)
      | (refine Case.isFalse (by assumption) ?_; conv => whnf)
      | (refine Case.decT (by assumption) ?_; conv => whnf)
      | (refine Case.decF (by assumption) ?_; conv => whnf)
      | (refine Case.decT (by omega) ?_; conv => whnf)
      | (refine Case.decF (by omega) ?_; conv => whnf)
      | (refine Case.beqT (by omega) ?_; conv => whnf)
      | (refine Case.beqF (by omega) ?_; conv => whnf)
      | (refine (see_at l (by omega) p (by omega) _ p (by omega) (by omega) (by omega)).call ⟨⟨rfl, rfl, trivial⟩, rfl, rfl⟩ ?_; conv => whnf)
      | (refine (see_at l (by omega) p (by omega) _ (p + 1) (by omega) (by omega) (by omega)).call ⟨⟨rfl, rfl, trivial⟩, rfl, rfl⟩ ?_; conv => whnf)
      | (refine (digit_spec _).call ⟨rfl, rfl⟩ ?_; conv => whnf)
      | (refine Owes.mk (by first | omega | (simp; omega)) ?_; conv => whnf)
      | (refine Num.id (by omega) (by omega) ?_; conv => whnf)
      | (refine Case.dec (fun _ => ?_) (fun _ => ?_) <;> conv => whnf)
      | (refine Case.beqI (fun _ => ?_) (fun _ => ?_) <;> conv => whnf)
      | (refine Case.mk (fun _ => ?_) (fun _ => ?_) <;> conv => whnf)
    · have hd := digit_lt (by assumption)
      have er : bs.map byteRow ++ [[F.v (.int .u8 46)]] = (bs ++ [46]).map byteRow := by simp [byteRow]
      have en : numB l a = ((digRun l (l.length + 1) (p + 1) (bs ++ [46])).1, (digRun l (l.length + 1) (p + 1) (bs ++ [46])).2, false) := by
        unfold numB; rw [e1, e2, if_pos ⟨by assumption, by assumption⟩]
      rw [er, en]
      refine step_loop tab_ok (fun s : Nat × List UInt8 × Bool => padK [.ptr 0 0, .junk, .ptr 1 0, .own 0 5 1 (s.2.1.map byteRow), bool s.2.2] 101) (fun s => [some (rdr l s.1), some tok0]) 1 (DigI l (digRun l (l.length + 1) (p + 1) (bs ++ [46])) false) (fun s => l.length - s.1) (p + 1, bs ++ [46], false) ⟨by dsimp only; omega, by dsimp only; rw [List.length_append]; simp; omega, rfl, fun f hf => ?_⟩ (fun _ => rfl) ?_ ?_
      · dsimp only at hf ⊢
        exact digRun_fuel l f _ _ _ hf (by omega)
      ·
        repeat' first | exact trivial | exact rfl | exact (by decide : (0 : Nat) < 1) | exact Nat.le_refl _ | exact Nat.zero_lt_succ _ | exact congrArg int (by (try dsimp only); omega) | exact congrArg bool (by (try dsimp only); simp; omega) | (show _ < List.length _; simp; done) | apply And.intro
      · clear en er e1 e2 h4
        generalize digRun l (l.length + 1) (p + 1) (bs ++ [46]) = r0
        rintro ⟨p, bs, w⟩ ⟨g1, g2, g3, g4⟩
        simp only at g1 g2 g3 g4
        subst g3
        dsimp only
        conv => whnf
        repeat' first
          | (refine Case.not ?_; conv => whnf)
          | (refine Case.yes ?_; conv => whnf)
          | (refine Case.no ?_; conv => whnf)
          | (refine Case.isTrue (by assumption) ?_; conv => whnf)
          | (refine Case.isFalse (by assumption) ?_; conv => whnf)
          | (refine Case.decT (by assumption) ?_; conv => whnf)
          | (refine Case.decF (by assumption) ?_; conv => whnf)
          | (refine Case.decT (by omega) ?_; conv => whnf)
          | (refine Case.decF (by omega) ?_; conv => whnf)
          | (refine Case.beqT (by omega) ?_; conv => whnf)
          | (refine Case.beqF (by omega) ?_; conv => whnf)
          | (refine (see_at l (by omega) p (by omega) _ p (by omega) (by omega) (by omega)).call ⟨⟨rfl, rfl, trivial⟩, rfl, rfl⟩ ?_; conv => whnf)
          | (refine (digit_spec _).call ⟨rfl, rfl⟩ ?_; conv => whnf)
          | (refine put_call (by omega) ?_; conv => whnf)
          | (refine Num.id (by omega) (by omega) ?_; conv => whnf)
          | (refine Case.dec (fun _ => ?_) (fun _ => ?_) <;> conv => whnf)
          | (refine Case.beqI (fun _ => ?_) (fun _ => ?_) <;> conv => whnf)
          | (refine Case.mk (fun _ => ?_) (fun _ => ?_) <;> conv => whnf)
        · have h := digit_lt (by assumption : digit (see l p) = true)
          have hb := putB_le (see l p)
          refine ⟨(p + 1, bs ++ putB (see l p), false), ⟨by dsimp only; omega, by dsimp only; rw [List.length_append]; omega, rfl, fun f hf => ?_⟩, by dsimp only; omega, ?_⟩
          · dsimp only at hf ⊢
            rw [← g4 (f + 1) (by omega), digRun, if_pos (by assumption)]
          ·
            repeat' first | exact trivial | exact rfl | exact (by decide : (0 : Nat) < 1) | exact Nat.le_refl _ | exact Nat.zero_lt_succ _ | exact congrArg int (by (try dsimp only); omega) | exact congrArg bool (by (try dsimp only); simp; omega) | (show _ < List.length _; simp; done) | apply And.intro
        · have e := digRun_end g4 (by assumption)
          refine ⟨(p, bs, false), ⟨g1, g2, by rw [e]⟩, ?_⟩
          repeat' first | exact trivial | exact rfl | exact (by decide : (0 : Nat) < 1) | exact Nat.le_refl _ | exact Nat.zero_lt_succ _ | exact congrArg int (by (try dsimp only); omega) | exact congrArg bool (by (try dsimp only); simp; omega) | (show _ < List.length _; simp; done) | apply And.intro
    · refine ⟨(p, bs, true), ⟨h1, h2, by unfold numB; rw [e1, e2, if_neg (by simp_all)]⟩, ?_⟩
      repeat' first | exact trivial | exact rfl | exact (by decide : (0 : Nat) < 1) | exact Nat.le_refl _ | exact Nat.zero_lt_succ _ | exact congrArg int (by (try dsimp only); omega) | exact congrArg bool (by (try dsimp only); simp; omega) | (show _ < List.length _; simp; done) | apply And.intro
    · refine ⟨(p, bs, true), ⟨h1, h2, by unfold numB; rw [e1, e2, if_neg (by simp_all)]⟩, ?_⟩
      repeat' first | exact trivial | exact rfl | exact (by decide : (0 : Nat) < 1) | exact Nat.le_refl _ | exact Nat.zero_lt_succ _ | exact congrArg int (by (try dsimp only); omega) | exact congrArg bool (by (try dsimp only); simp; omega) | (show _ < List.length _; simp; done) | apply And.intro
  clear h1 h2 h4 e1 e2 p bs
  rintro ⟨p, bs, w⟩ ⟨h1, h2, h4⟩
  simp only at h1 h2 h4
  dsimp only
  conv => whnf
  refine step_of tab_ok ?_
  conv => whnf
  repeat' first
    | (refine Case.not ?_; conv => whnf)
    | (refine Case.yes ?_; conv => whnf)
    | (refine Case.no ?_; conv => whnf)
    | (refine Case.isTrue (by assumption) ?_; conv => whnf)
    | (refine Case.isFalse (by assumption) ?_; conv => whnf)
    | (refine Case.decT (by assumption) ?_; conv => whnf)
    | (refine Case.decF (by assumption) ?_; conv => whnf)
    | (refine Case.decT (by omega) ?_; conv => whnf)
    | (refine Case.decF (by omega) ?_; conv => whnf)
    | (refine Case.beqT (by omega) ?_; conv => whnf)
    | (refine Case.beqF (by omega) ?_; conv => whnf)
    | (refine (see_at l (by omega) p (by omega) _ p (by omega) (by omega) (by omega)).call ⟨⟨rfl, rfl, trivial⟩, rfl, rfl⟩ ?_; conv => whnf)
    | (refine Owes.mk rfl ?_; conv => whnf)
    | (refine AsBytes.mk bs rfl ?_; conv => whnf)
    | (refine (num_spec bs (by omega)).call ⟨rfl, rfl⟩ ?_; conv => whnf)
    | (refine (begins_at l (by omega) p (by omega) _ p (by omega) (by omega) (by omega)).call ⟨⟨rfl, rfl, trivial⟩, rfl, rfl⟩ ?_; conv => whnf)
    | (refine (name_spec l hl p h1).call ?_; conv => whnf)
    | (refine Num.id (by omega) (by omega) ?_; conv => whnf)
    | (refine Case.dec (fun _ => ?_) (fun _ => ?_) <;> conv => whnf)
    | (refine Case.beqI (fun _ => ?_) (fun _ => ?_) <;> conv => whnf)
    | (refine Case.mk (fun _ => ?_) (fun _ => ?_) <;> conv => whnf)
  · have eT : numericT l a = { kind := 8, n := (numV bs).1, text := nameS l p } := by unfold numericT; rw [← h4]; dsimp only; rw [if_pos (by assumption)]
    have eP : numericP l a = nameP l p := by unfold numericP; rw [← h4]; dsimp only; rw [if_pos (by assumption)]
    exact Fin.rd (nameP l p) ⟨trivial, trivial, trivial, trivial, trivial, trivial⟩ rfl ⟨by rw [eT]; rfl, by rw [eP]⟩
  · have eT : numericT l a = { kind := 7, n := (numV bs).1 } := by unfold numericT; rw [← h4]; dsimp only; rw [if_neg (by simp_all), if_pos (by assumption)]
    have eP : numericP l a = p + 1 := by unfold numericP; rw [← h4]; dsimp only; rw [if_neg (by simp_all), if_pos (by assumption)]
    exact Fin.rd (p + 1) ⟨trivial, trivial, trivial, trivial, trivial, trivial⟩ rfl ⟨by rw [eT]; rfl, by rw [eP]⟩
  · have eT : numericT l a = { kind := 6, n := (numV bs).1, whole := w } := by unfold numericT; rw [← h4]; dsimp only; rw [if_neg (by simp_all), if_neg (by assumption)]
    have eP : numericP l a = p := by unfold numericP; rw [← h4]; dsimp only; rw [if_neg (by simp_all), if_neg (by assumption)]
    exact Fin.rd p ⟨trivial, trivial, trivial, trivial, trivial, trivial⟩ rfl ⟨by rw [eT]; rfl, by rw [eP]⟩
end Go.Proofs.Ytdfiegleaknleaa.Aw
