/- The reference's values, as contracts. -/
import Derived.Test.YtofjmhigfihhbaaDoorXvB
namespace Go.Proofs.YtofjmhigfihhbaaDoor.Aw
open Go Go.RowKit Go.Lib
set_option linter.unusedVariables false
set_option linter.unusedSimpArgs false
set_option maxRecDepth 100000
/-! Digits of a color. -/
def colRun (three : Bool) : List UInt8 → Int → Option Int
  | [], n => some n
  | c :: r, n => if hex c.toNat < 0 then none else colRun three r (if three then (n * 16 + hex c.toNat) * 16 + hex c.toNat else n * 16 + hex c.toNat)
def colR (s : List UInt8) : Int × Bool := if s.length = 3 ∨ s.length = 6 then (match colRun (decide (s.length = 3)) s 0 with | some n => (n, true) | none => (0, false)) else (0, false)
def wideL : List (List UInt8) := [[105, 110, 104, 101, 114, 105, 116], [105, 110, 105, 116, 105, 97, 108], [117, 110, 115, 101, 116]]
def colorL : List (List UInt8) := [[98, 108, 97, 99, 107], [119, 104, 105, 116, 101], [114, 101, 100], [103, 114, 101, 101, 110], [98, 108, 117, 101]]
def alignL : List (List UInt8) := [[108, 101, 102, 116], [114, 105, 103, 104, 116], [99, 101, 110, 116, 101, 114]]
def dispL : List (List UInt8) := [[110, 111, 110, 101], [98, 108, 111, 99, 107], [105, 110, 108, 105, 110, 101]]
def autoL : List (List UInt8) := [[97, 117, 116, 111]]
def colorN : List Int := [0, 16777215, 16711680, 32768, 255]
def lenR (k : Tok) : Int × Int × Bool := if k.kind = 7 then (4, k.n, true) else if k.kind = 8 ∧ lower k.text = [112, 120] then (2, k.n, true) else if k.kind = 8 ∧ lower k.text = [101, 109] then (3, k.n, true) else (0, 0, false)
def keyR (k : Tok) (l : List (List UInt8)) : Int × Int × Bool := if k.kind = 1 then (if (wordV (lower k.text) l).2 = true then (1, (wordV (lower k.text) l).1, true) else (0, 0, false)) else (0, 0, false)
def value1 (p : Int) (k : Tok) : Int × Int × Bool :=
  if k.kind = 1 ∧ (wordV (lower k.text) wideL).2 = true then (7 + ((wordV (lower k.text) wideL).1 : Int), 0, true)
  else if p = 0 then (if k.kind = 3 then (if (colR k.text).2 = true then (6, (colR k.text).1, true) else (0, 0, false)) else if (keyR k colorL).2.2 = true then (6, colorN.getD (keyR k colorL).2.1.toNat 0, true) else (0, 0, false))
  else if p = 2 then keyR k alignL
  else if p = 3 then keyR k dispL
  else if p = 6 then (if k.kind = 6 then (5, clampW k.n, true) else (0, 0, false))
  else if p = 7 then (if k.kind = 6 ∧ k.whole = true then (5, k.n, true) else keyR k autoL)
  else if p = 5 then (if k.kind = 6 ∧ k.n = 0 then (2, 0, true) else lenR k)
  else if (lenR k).2.2 = true ∧ (lenR k).2.1 < 0 then (0, 0, false)
  else if (lenR k).2.2 = false ∧ p = 4 then keyR k autoL
  else lenR k
def valueR (p : Int) (t : List Tok) : Int × Int × Bool := if 0 ≤ p ∧ p < 8 then (match t with | [k] => value1 p k | _ => (0, 0, false)) else (0, 0, false)
theorem rlength_spec (k : Tok) (hk : k.text.length ≤ 140737488355328) : Pure 25 [k.d] (valD (lenR k)) := by
  refine .mk (valD_scal _) (spec_mk tab_ok Tryd.func25 (by rfl) rfl ?_)
  conv => whnf
  repeat' first
    | (refine Case.not ?_; conv => whnf)
    | (refine Case.yes ?_; conv => whnf)
    | (refine Case.no ?_; conv => whnf)
    | (refine Case.isTrue (by assumption) ?_; conv => whnf)
    | (refine Case.isFalse (by assumption) ?_; conv => whnf)
    | (refine Case.decT (by assumption) ?_; conv => whnf)
    | (refine Case.decF (by assumption) ?_; conv => whnf)
    | (refine Case.decT (by omega) ?_; conv => whnf)
    | (refine Case.decF (by omega) ?_; conv => whnf)
    | (refine Case.beqT (by omega) ?_; conv => whnf)
    | (refine Case.beqF (by omega) ?_; conv => whnf)
    | (refine Case.strT (by assumption) ?_; conv => whnf)
    | (refine Case.strF (by assumption) ?_; conv => whnf)
    | (refine Case.strF (by simp only [*]; decide) ?_; conv => whnf)
    | (refine step_kinds 2 ?hk ?_; (case hk => decide +kernel); conv => whnf)
    | (refine step_kinds 3 ?hk ?_; (case hk => decide +kernel); conv => whnf)
    | (refine (lower_specB _ hk).call ⟨rfl, rfl⟩ ?_; conv => whnf)
    | (refine Num.id (by omega) (by omega) ?_; conv => whnf)
    | (refine Case.strI (fun _ => ?_) (fun _ => ?_) <;> conv => whnf)
    | (refine Both.mk ?_ ?_ <;> conv => whnf)
    | (refine Case.dec (fun _ => ?_) (fun _ => ?_) <;> conv => whnf)
    | (refine Case.beqI (fun _ => ?_) (fun _ => ?_) <;> conv => whnf)
    | (refine Case.mk (fun _ => ?_) (fun _ => ?_) <;> conv => whnf)
  all_goals (refine Fin.v3 ?_; unfold lenR; first | (simp_all; done) | ((repeat' split) <;> simp_all))
theorem rkey_spec (k : Tok) (hk : k.text.length ≤ 140737488355328) (l : List (List UInt8)) (hl : l.length < 1000000000) : Pure 24 [k.d, .f (.sl (strs l))] (valD (keyR k l)) := by
  refine .mk (valD_scal _) (spec_mk tab_ok Tryd.func24 (by rfl) rfl ?_)
  conv => whnf
  repeat' first
    | (refine Case.not ?_; conv => whnf)
    | (refine Case.yes ?_; conv => whnf)
    | (refine Case.no ?_; conv => whnf)
    | (refine Case.isTrue (by assumption) ?_; conv => whnf)
    | (refine Case.isFalse (by assumption) ?_; conv => whnf)
    | (refine Case.decT (by assumption) ?_; conv => whnf)
    | (refine Case.decF (by assumption) ?_; conv => whnf)
    | (refine Case.decT (by omega) ?_; conv => whnf)
    | (refine Case.decF (by omega) ?_; conv => whnf)
    | (refine Case.beqT (by omega) ?_; conv => whnf)
    | (refine Case.beqF (by omega) ?_; conv => whnf)
    | (refine Case.strT (by assumption) ?_; conv => whnf)
    | (refine Case.strF (by assumption) ?_; conv => whnf)
    | (refine Case.strF (by simp only [*]; decide) ?_; conv => whnf)
    | (refine step_kinds 2 ?hk ?_; (case hk => decide +kernel); conv => whnf)
    | (refine step_kinds 3 ?hk ?_; (case hk => decide +kernel); conv => whnf)
    | (refine (lower_specB _ hk).call ⟨rfl, rfl⟩ ?_; conv => whnf)
    | (refine (word_spec (lower k.text) l hl).call ⟨rfl, rfl, rfl⟩ ?_; conv => whnf)
    | (refine Num.id (by omega) (by omega) ?_; conv => whnf)
    | (refine Case.strI (fun _ => ?_) (fun _ => ?_) <;> conv => whnf)
    | (refine Both.mk ?_ ?_ <;> conv => whnf)
    | (refine Case.dec (fun _ => ?_) (fun _ => ?_) <;> conv => whnf)
    | (refine Case.beqI (fun _ => ?_) (fun _ => ?_) <;> conv => whnf)
    | (refine Case.mk (fun _ => ?_) (fun _ => ?_) <;> conv => whnf)
  all_goals (refine Fin.v3 ?_; unfold keyR; first | (simp_all; done) | ((repeat' split) <;> simp_all))
theorem colR_len {s : List UInt8} (h : ¬ (s.length = 3 ∨ s.length = 6)) : colR s = (0, false) := by unfold colR; rw [if_neg h]
structure ColI (s : List UInt8) (x : Nat × Int) : Prop where
  i : x.1 ≤ s.length
  n0 : 0 ≤ x.2
  n1 : x.2 < 256 ^ x.1
  run : colRun (decide (s.length = 3)) (s.drop x.1) x.2 = colRun (decide (s.length = 3)) s 0
theorem p256 : ∀ j : Nat, j ≤ 6 → (256 : Int) ^ j ≤ 281474976710656 := by
  intro j hj
  have : j = 0 ∨ j = 1 ∨ j = 2 ∨ j = 3 ∨ j = 4 ∨ j = 5 ∨ j = 6 := by omega
  rcases this with rfl | rfl | rfl | rfl | rfl | rfl | rfl <;> decide
theorem hex_15 (c : Int) : -1 ≤ hex c ∧ hex c ≤ 15 := by
  unfold hex
  repeat' split
  all_goals omega
theorem rcolor_spec (s : List UInt8) (hs : s.length ≤ 140737488355328) : Pure 23 [.str ⟨s.toArray⟩] (.tup [int (colR s).1, bool (colR s).2]) := by
  have hlen : (⟨s.toArray⟩ : ByteArray).size = s.length := rfl
  refine ⟨⟨trivial, trivial, trivial⟩, spec_mk tab_ok Tryd.func23 (by rfl) rfl ?_⟩
  by_cases h36 : s.length = 3 ∨ s.length = 6
  · conv => whnf
    repeat' first
      | (refine Case.not ?_; conv => whnf)
      | (refine Case.yes ?_; conv => whnf)
      | (refine Case.no ?_; conv => whnf)
      | (refine Case.isTrue (by assumption) ?_; conv => whnf)
      | (refine Case.isFalse (by assumption) ?_; conv => whnf)
      | (refine Case.decT (by assumption) ?_; conv => whnf)
      | (refine Case.decF (by assumption) ?_; conv => whnf)
      | (refine Case.decT (by omega) ?_; conv => whnf)
      | (refine Case.decF (by omega) ?_; conv => whnf)
      | (refine Case.beqT (by omega) ?_; conv => whnf)
      | (refine Case.beqF (by omega) ?_; conv => whnf)
      | (refine Case.strT (by assumption) ?_; conv => whnf)
      | (refine Case.strF (by assumption) ?_; conv => whnf)
      | (refine Case.strF (by simp only [*]; decide) ?_; conv => whnf)
      | (refine step_kinds 2 ?hk ?_; (case hk => decide +kernel); conv => whnf)
      | (refine step_kinds 3 ?hk ?_; (case hk => decide +kernel); conv => whnf)
      | (refine Num.id (by omega) (by omega) ?_; conv => whnf)
      | (refine Case.strI (fun _ => ?_) (fun _ => ?_) <;> conv => whnf)
      | (refine Both.mk ?_ ?_ <;> conv => whnf)
      | (refine Case.dec (fun _ => ?_) (fun _ => ?_) <;> conv => whnf)
      | (refine Case.beqI (fun _ => ?_) (fun _ => ?_) <;> conv => whnf)
      | (refine Case.mk (fun _ => ?_) (fun _ => ?_) <;> conv => whnf)
    · refine step_loop tab_ok (fun x : Nat × Int => padK [.str ⟨s.toArray⟩, .junk, .junk, .junk, int x.2, int x.1] 40) (fun _ => []) 0 (ColI s) (fun x => s.length - x.1) (0, 0) ⟨by simp, by simp, by simp, rfl⟩ (fun _ => rfl) ?_ ?_
      ·
        repeat' first | exact trivial | exact rfl | exact (by decide : (0 : Nat) < 1) | exact Nat.le_refl _ | exact Nat.zero_lt_succ _ | exact congrArg int (by (try dsimp only); omega) | exact congrArg bool (by (try dsimp only); simp; omega) | (show _ < List.length _; simp; done) | apply And.intro
      · rintro ⟨i, n⟩ ⟨h1, h2, h3, h4⟩
        simp only at h1 h2 h3 h4
        have h5 := p256 i (by omega)
        conv => whnf
        refine Case.dec (fun h0 => ?_) (fun h0 => ?_)
        · obtain ⟨c, hc⟩ : ∃ c, s[i]? = some c := ⟨_, List.getElem?_eq_getElem (by omega)⟩
          rw [drop_cons' hc, colRun] at h4
          have hx := hex_15 c.toNat
          have hc8 := c.toNat_lt
          conv => whnf
          repeat' first
            | (refine Case.not ?_; conv => whnf)
            | (refine Case.yes ?_; conv => whnf)
            | (refine Case.no ?_; conv => whnf)
            | (refine Case.isTrue (by assumption) ?_; conv => whnf)
            | (refine Case.isFalse (by assumption) ?_; conv => whnf)
            | (refine Case.decT (by assumption) ?_; conv => whnf)
            | (refine Case.decF (by assumption) ?_; conv => whnf)
            | (refine Case.decT (by omega) ?_; conv => whnf)
            | (refine Case.decF (by omega) ?_; conv => whnf)
            | (refine Case.beqT (by omega) ?_; conv => whnf)
            | (refine Case.beqF (by omega) ?_; conv => whnf)
            | (refine Case.strT (by assumption) ?_; conv => whnf)
            | (refine Case.strF (by assumption) ?_; conv => whnf)
            | (refine Case.strF (by simp only [*]; decide) ?_; conv => whnf)
            | (refine step_kinds 2 ?hk ?_; (case hk => decide +kernel); conv => whnf)
            | (refine step_kinds 3 ?hk ?_; (case hk => decide +kernel); conv => whnf)
            | (refine Owes.mk (by omega) ?_; conv => whnf)
            | (refine Byte.mk i c rfl (by simpa using hc) ?_; conv => whnf)
            | (refine (hex_spec _).call ⟨rfl, rfl⟩ ?_; conv => whnf)
            | (refine Num.id (by omega) (by omega) ?_; conv => whnf)
            | (refine Case.strI (fun _ => ?_) (fun _ => ?_) <;> conv => whnf)
            | (refine Both.mk ?_ ?_ <;> conv => whnf)
            | (refine Case.dec (fun _ => ?_) (fun _ => ?_) <;> conv => whnf)
            | (refine Case.beqI (fun _ => ?_) (fun _ => ?_) <;> conv => whnf)
            | (refine Case.mk (fun _ => ?_) (fun _ => ?_) <;> conv => whnf)
          · rw [if_pos (by assumption)] at h4
            refine Fin.num (y := (colR s).1) (c := (colR s).2) ?_; unfold colR; rw [if_pos h36, ← h4]
          · rw [if_neg (by assumption)] at h4
            first | rw [if_pos (by simp; omega)] at h4 | rw [if_neg (by simp; omega)] at h4
            refine ⟨(i + 1, _), ⟨by dsimp only; omega, ?_, ?_, h4⟩, by dsimp only; omega, ?_⟩
            · dsimp only; omega
            · dsimp only; rw [Int.pow_succ]; omega
            ·
              repeat' first | exact trivial | exact rfl | exact (by decide : (0 : Nat) < 1) | exact Nat.le_refl _ | exact Nat.zero_lt_succ _ | exact congrArg int (by (try dsimp only); omega) | exact congrArg bool (by (try dsimp only); simp; omega) | (show _ < List.length _; simp; done) | apply And.intro
        · rw [show s.drop i = [] by rw [List.drop_eq_nil_iff]; omega, colRun] at h4
          conv => whnf
          refine Fin.num (y := (colR s).1) (c := (colR s).2) ?_; unfold colR; rw [if_pos h36, ← h4]
    · refine step_loop tab_ok (fun x : Nat × Int => padK [.str ⟨s.toArray⟩, .junk, .junk, .junk, int x.2, int x.1] 40) (fun _ => []) 0 (ColI s) (fun x => s.length - x.1) (0, 0) ⟨by simp, by simp, by simp, rfl⟩ (fun _ => rfl) ?_ ?_
      ·
        repeat' first | exact trivial | exact rfl | exact (by decide : (0 : Nat) < 1) | exact Nat.le_refl _ | exact Nat.zero_lt_succ _ | exact congrArg int (by (try dsimp only); omega) | exact congrArg bool (by (try dsimp only); simp; omega) | (show _ < List.length _; simp; done) | apply And.intro
      · rintro ⟨i, n⟩ ⟨h1, h2, h3, h4⟩
        simp only at h1 h2 h3 h4
        have h5 := p256 i (by omega)
        conv => whnf
        refine Case.dec (fun h0 => ?_) (fun h0 => ?_)
        · obtain ⟨c, hc⟩ : ∃ c, s[i]? = some c := ⟨_, List.getElem?_eq_getElem (by omega)⟩
          rw [drop_cons' hc, colRun] at h4
          have hx := hex_15 c.toNat
          have hc8 := c.toNat_lt
          conv => whnf
          repeat' first
            | (refine Case.not ?_; conv => whnf)
            | (refine Case.yes ?_; conv => whnf)
            | (refine Case.no ?_; conv => whnf)
            | (refine Case.isTrue (by assumption) ?_; conv => whnf)
            | (refine Case.isFalse (by assumption) ?_; conv => whnf)
            | (refine Case.decT (by assumption) ?_; conv => whnf)
            | (refine Case.decF (by assumption) ?_; conv => whnf)
            | (refine Case.decT (by omega) ?_; conv => whnf)
            | (refine Case.decF (by omega) ?_; conv => whnf)
            | (refine Case.beqT (by omega) ?_; conv => whnf)
            | (refine Case.beqF (by omega) ?_; conv => whnf)
            | (refine Case.strT (by assumption) ?_; conv => whnf)
            | (refine Case.strF (by assumption) ?_; conv => whnf)
            | (refine Case.strF (by simp only [*]; decide) ?_; conv => whnf)
            | (refine step_kinds 2 ?hk ?_; (case hk => decide +kernel); conv => whnf)
            | (refine step_kinds 3 ?hk ?_; (case hk => decide +kernel); conv => whnf)
            | (refine Owes.mk (by omega) ?_; conv => whnf)
            | (refine Byte.mk i c rfl (by simpa using hc) ?_; conv => whnf)
            | (refine (hex_spec _).call ⟨rfl, rfl⟩ ?_; conv => whnf)
            | (refine Num.id (by omega) (by omega) ?_; conv => whnf)
            | (refine Case.strI (fun _ => ?_) (fun _ => ?_) <;> conv => whnf)
            | (refine Both.mk ?_ ?_ <;> conv => whnf)
            | (refine Case.dec (fun _ => ?_) (fun _ => ?_) <;> conv => whnf)
            | (refine Case.beqI (fun _ => ?_) (fun _ => ?_) <;> conv => whnf)
            | (refine Case.mk (fun _ => ?_) (fun _ => ?_) <;> conv => whnf)
          · rw [if_pos (by assumption)] at h4
            refine Fin.num (y := (colR s).1) (c := (colR s).2) ?_; unfold colR; rw [if_pos h36, ← h4]
          · rw [if_neg (by assumption)] at h4
            first | rw [if_pos (by simp; omega)] at h4 | rw [if_neg (by simp; omega)] at h4
            refine ⟨(i + 1, _), ⟨by dsimp only; omega, ?_, ?_, h4⟩, by dsimp only; omega, ?_⟩
            · dsimp only; omega
            · dsimp only; rw [Int.pow_succ]; omega
            ·
              repeat' first | exact trivial | exact rfl | exact (by decide : (0 : Nat) < 1) | exact Nat.le_refl _ | exact Nat.zero_lt_succ _ | exact congrArg int (by (try dsimp only); omega) | exact congrArg bool (by (try dsimp only); simp; omega) | (show _ < List.length _; simp; done) | apply And.intro
        · rw [show s.drop i = [] by rw [List.drop_eq_nil_iff]; omega, colRun] at h4
          conv => whnf
          refine Fin.num (y := (colR s).1) (c := (colR s).2) ?_; unfold colR; rw [if_pos h36, ← h4]
  · rw [colR_len h36]
    conv => whnf
    repeat' first
      | (refine Case.not ?_; conv => whnf)
      | (refine Case.yes ?_; conv => whnf)
      | (refine Case.no ?_; conv => whnf)
      | (refine Case.isTrue (by assumption) ?_; conv => whnf)
      | (refine Case.isFalse (by assumption) ?_; conv => whnf)
      | (refine Case.decT (by assumption) ?_; conv => whnf)
      | (refine Case.decF (by assumption) ?_; conv => whnf)
      | (refine Case.decT (by omega) ?_; conv => whnf)
      | (refine Case.decF (by omega) ?_; conv => whnf)
      | (refine Case.beqT (by omega) ?_; conv => whnf)
      | (refine Case.beqF (by omega) ?_; conv => whnf)
      | (refine Case.strT (by assumption) ?_; conv => whnf)
      | (refine Case.strF (by assumption) ?_; conv => whnf)
      | (refine Case.strF (by simp only [*]; decide) ?_; conv => whnf)
      | (refine step_kinds 2 ?hk ?_; (case hk => decide +kernel); conv => whnf)
      | (refine step_kinds 3 ?hk ?_; (case hk => decide +kernel); conv => whnf)
      | (refine Num.id (by omega) (by omega) ?_; conv => whnf)
      | (refine Case.strI (fun _ => ?_) (fun _ => ?_) <;> conv => whnf)
      | (refine Both.mk ?_ ?_ <;> conv => whnf)
      | (refine Case.dec (fun _ => ?_) (fun _ => ?_) <;> conv => whnf)
      | (refine Case.beqI (fun _ => ?_) (fun _ => ?_) <;> conv => whnf)
      | (refine Case.mk (fun _ => ?_) (fun _ => ?_) <;> conv => whnf)
    all_goals first | exact Fin.num rfl | (exfalso; omega)
end Go.Proofs.YtofjmhigfihhbaaDoor.Aw
