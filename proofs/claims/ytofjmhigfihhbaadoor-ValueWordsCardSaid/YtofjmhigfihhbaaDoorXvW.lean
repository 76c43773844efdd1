/- The statement ValueWords of chapter 7. -/
import Derived.Test.YtofjmhigfihhbaaDoorAwV
import Derived.Test.YtofjmhigfihhbaaDoorXvL
namespace Go.Proofs.YtofjmhigfihhbaaDoor.Aw
open Go Go.RowKit Go.Lib
set_option linter.unusedVariables false
set_option linter.unusedSimpArgs false
set_option maxRecDepth 100000
def wdL : List (List UInt8) := [[98, 108, 97, 99, 107], [119, 104, 105, 116, 101], [114, 101, 100], [103, 114, 101, 101, 110], [98, 108, 117, 101], [108, 101, 102, 116], [114, 105, 103, 104, 116], [99, 101, 110, 116, 101, 114], [110, 111, 110, 101], [98, 108, 111, 99, 107], [105, 110, 108, 105, 110, 101], [97, 117, 116, 111], [97, 117, 116, 111]]
def wdP : List Int := [0, 0, 0, 0, 0, 2, 2, 2, 3, 3, 3, 4, 7]
def wdN : List Int := [0, 16777215, 16711680, 32768, 255, 0, 1, 2, 0, 1, 2, 0, 0]
def wdF : List (List F) := wdL.map fun s => [fs s]
def wdPF : List (List F) := wdP.map fun s => [fi s]
def wdNF : List (List F) := wdN.map fun s => [fi s]
def wdWant (q i : Nat) (p : Int) : Bool := decide ((i : Int) = p) || (decide (11 ≤ q) && (decide (i = 4) || decide (i = 7)))
theorem words_all : ∀ q : Nat, q < 13 → ∀ i : Nat, i < 8 → parseW (i : Int) [{ kind := 1, text := wdL[q]! }] = if wdWant q i wdP[q]! then (if q < 5 then 6 else 1, wdN[q]!, true) else (0, 0, false) := by decide +kernel
theorem words_str : ∀ q : Nat, q < 13 → parseW wdP[q]! [{ kind := 4, text := wdL[q]! }] = (0, 0, false) := by decide +kernel
theorem wd_get (q : Nat) (h : q < 13) : wdF[q]? = some [fs wdL[q]!] ∧ wdPF[q]? = some [fi wdP[q]!] ∧ wdNF[q]? = some [fi wdN[q]!] ∧ wdL[q]!.length ≤ 140737488355328 := by
  match q, h with
  | 0, _ => exact ⟨rfl, rfl, rfl, by decide⟩
  | 1, _ => exact ⟨rfl, rfl, rfl, by decide⟩
  | 2, _ => exact ⟨rfl, rfl, rfl, by decide⟩
  | 3, _ => exact ⟨rfl, rfl, rfl, by decide⟩
  | 4, _ => exact ⟨rfl, rfl, rfl, by decide⟩
  | 5, _ => exact ⟨rfl, rfl, rfl, by decide⟩
  | 6, _ => exact ⟨rfl, rfl, rfl, by decide⟩
  | 7, _ => exact ⟨rfl, rfl, rfl, by decide⟩
  | 8, _ => exact ⟨rfl, rfl, rfl, by decide⟩
  | 9, _ => exact ⟨rfl, rfl, rfl, by decide⟩
  | 10, _ => exact ⟨rfl, rfl, rfl, by decide⟩
  | 11, _ => exact ⟨rfl, rfl, rfl, by decide⟩
  | 12, _ => exact ⟨rfl, rfl, rfl, by decide⟩
set_option maxHeartbeats 2000000 in
theorem valueWords_in (q : Nat) (h13 : q < 13) : Pure 6 [int q] (bool true) := by
  obtain ⟨gl, gp, gn, hs⟩ := wd_get q h13
  have gl' : wdF[(q : Int).toNat]? = some [fs wdL[q]!] := gl
  have gp' : wdPF[(q : Int).toNat]? = some [fi wdP[q]!] := gp
  have gn' : wdNF[(q : Int).toNat]? = some [fi wdN[q]!] := gn
  refine .mk trivial (spec_mk tab_ok Tryd.func6 (by rfl) rfl ?_)
  conv => whnf
  repeat' first
    | (refine Case.not ?_; conv => whnf)
    | (refine Case.yes ?_; conv => whnf)
    | (refine Case.no ?_; conv => whnf)
    | (refine Case.isTrue (by assumption) ?_; conv => whnf)
    | (refine Case.isFalse (by assumption) ?_; conv => whnf)
    | (refine Case.decT (by assumption) ?_; conv => whnf)
    | (refine Case.decF (by assumption) ?_; conv => whnf)
    | (refine Case.decT (by omega) ?_; conv => whnf)
    | (refine Case.decF (by omega) ?_; conv => whnf)
    | (refine Case.beqT (by omega) ?_; conv => whnf)
    | (refine Case.beqF (by omega) ?_; conv => whnf)
    | (refine Case.strT (by assumption) ?_; conv => whnf)
    | (refine Case.strF (by assumption) ?_; conv => whnf)
    | (refine Case.strF (by simp only [*]; decide) ?_; conv => whnf)
    | (refine valive_spec.call rfl ?_; conv => whnf)
    | (refine step_kinds 2 ?hk ?_; (case hk => decide +kernel); conv => whnf)
    | (refine step_kinds 3 ?hk ?_; (case hk => decide +kernel); conv => whnf)
    | (refine Num.id (by omega) (by omega) ?_; conv => whnf)
    | (refine Case.strI (fun _ => ?_) (fun _ => ?_) <;> conv => whnf)
    | (refine Both.mk ?_ ?_ <;> conv => whnf)
    | (refine Case.dec (fun _ => ?_) (fun _ => ?_) <;> conv => whnf)
    | (refine Case.beqI (fun _ => ?_) (fun _ => ?_) <;> conv => whnf)
    | (refine Case.mk (fun _ => ?_) (fun _ => ?_) <;> conv => whnf)
  · have : (q : Int) < 13 := by omega
    exact Fin.isB rfl
  · refine step_loop tab_ok (fun i : Nat => padK [int q, .junk, .junk, .junk, .own 0 9 1 wdF, .own 1 3 1 wdPF, .own 2 3 1 wdNF, int 6, int i] 100) (fun _ => []) 3 (fun i => i ≤ 8) (fun i => 8 - i) 0 (by omega) (fun _ => rfl) ?_ ?_
    ·
      repeat' first | exact trivial | exact rfl | exact Nat.zero_le _ | exact Nat.zero_lt_succ _ | exact (by decide : (0 : Nat) < 1) | exact (by decide : (1 : Nat) < 4) | exact (by decide : (2 : Nat) < 4) | exact (by decide : (3 : Nat) < 4) | exact (by decide : (1 : Nat) < 2) | exact (by decide : (2 : Nat) < 3) | exact congrArg int (by (try dsimp only); omega) | exact congrArg bool (by (try dsimp only); simp; omega) | (show _ < List.length _; simp; done) | apply And.intro
      all_goals decide
    · intro i hi
      conv => whnf
      refine Case.dec (fun h0 => ?_) (fun h0 => ?_)
      · have c := vparse_spec i [{ kind := 1, text := wdL[q]! }] (by simp) (by simpa using hs)
        rw [words_all q h13 i (by omega)] at c
        cases hw : wdWant q i wdP[q]!
        · rw [hw, if_neg (by decide)] at c
          simp only [wdWant, Bool.or_eq_false_iff, Bool.and_eq_false_iff, decide_eq_false_iff_not] at hw
          conv => whnf
          repeat' first
            | (refine Case.not ?_; conv => whnf)
            | (refine Case.yes ?_; conv => whnf)
            | (refine Case.no ?_; conv => whnf)
            | (refine Case.isTrue (by assumption) ?_; conv => whnf)
            | (refine Case.isFalse (by assumption) ?_; conv => whnf)
            | (refine Case.decT (by assumption) ?_; conv => whnf)
            | (refine Case.decF (by assumption) ?_; conv => whnf)
            | (refine Case.decT (by omega) ?_; conv => whnf)
            | (refine Case.decF (by omega) ?_; conv => whnf)
            | (refine Case.beqT (by omega) ?_; conv => whnf)
            | (refine Case.beqF (by omega) ?_; conv => whnf)
            | (refine Case.strT (by assumption) ?_; conv => whnf)
            | (refine Case.strF (by assumption) ?_; conv => whnf)
            | (refine Case.strF (by simp only [*]; decide) ?_; conv => whnf)
            | (refine Owes.mk (by decide) ?_; conv => whnf)
            | (refine Elem.mk q _ rfl gl ?_; conv => whnf)
            | (refine Elem.mk q _ rfl gp ?_; conv => whnf)
            | (refine Elem.mk q _ rfl gn ?_; conv => whnf)
            | (rw [gl']; conv => whnf)
            | (rw [gp']; conv => whnf)
            | (rw [gn']; conv => whnf)
            | ((refine step_draws tab_ok mix (.one 0 0 (.one 1 0 (.one 2 0 (.one 3 0 (.one 4 0 (.one 5 0 (.one 6 1 (.one 7 0 (.one 8 0 (.one 9 0 (.one 10 0 (.one 11 1 (.one 12 0 (.one 13 0 (.one 14 0 (.one 15 0 .done)))))))))))))))) [] ?hs ?_; (case hs => decide +kernel)); conv => whnf)
            | (refine c.call ⟨rfl, rfl, rfl⟩ ?_; conv => whnf)
            | (refine step_kinds 2 ?hk ?_; (case hk => decide +kernel); conv => whnf)
            | (refine step_kinds 3 ?hk ?_; (case hk => decide +kernel); conv => whnf)
            | (refine Num.id (by omega) (by omega) ?_; conv => whnf)
            | (refine Case.strI (fun _ => ?_) (fun _ => ?_) <;> conv => whnf)
            | (refine Both.mk ?_ ?_ <;> conv => whnf)
            | (refine Case.dec (fun _ => ?_) (fun _ => ?_) <;> conv => whnf)
            | (refine Case.beqI (fun _ => ?_) (fun _ => ?_) <;> conv => whnf)
            | (refine Case.mk (fun _ => ?_) (fun _ => ?_) <;> conv => whnf)
          all_goals (try (exfalso; rename_i hz; exact hz (by symm; rw [beq_eq_false_iff_ne]; omega)))
          all_goals (try (exfalso; simp_all; done))
          all_goals (try (exfalso; simp_all; omega))
          all_goals (refine ⟨i + 1, by omega, by omega, ?_⟩)
          all_goals (repeat' first | exact trivial | exact rfl | exact Nat.zero_le _ | exact Nat.zero_lt_succ _ | exact (by decide : (0 : Nat) < 1) | exact (by decide : (0 : Nat) < 3) | exact (by decide : (1 : Nat) < 3) | exact (by decide : (2 : Nat) < 3) | exact (by decide : (1 : Nat) < 4) | exact (by decide : (2 : Nat) < 4) | exact congrArg int (by (try dsimp only); omega) | apply And.intro)
        · rw [hw, if_pos rfl, if_pos (by omega)] at c
          simp only [wdWant, Bool.or_eq_true, Bool.and_eq_true, decide_eq_true_eq] at hw
          conv => whnf
          repeat' first
            | (refine Case.not ?_; conv => whnf)
            | (refine Case.yes ?_; conv => whnf)
            | (refine Case.no ?_; conv => whnf)
            | (refine Case.isTrue (by assumption) ?_; conv => whnf)
            | (refine Case.isFalse (by assumption) ?_; conv => whnf)
            | (refine Case.decT (by assumption) ?_; conv => whnf)
            | (refine Case.decF (by assumption) ?_; conv => whnf)
            | (refine Case.decT (by omega) ?_; conv => whnf)
            | (refine Case.decF (by omega) ?_; conv => whnf)
            | (refine Case.beqT (by omega) ?_; conv => whnf)
            | (refine Case.beqF (by omega) ?_; conv => whnf)
            | (refine Case.strT (by assumption) ?_; conv => whnf)
            | (refine Case.strF (by assumption) ?_; conv => whnf)
            | (refine Case.strF (by simp only [*]; decide) ?_; conv => whnf)
            | (refine Owes.mk (by decide) ?_; conv => whnf)
            | (refine Elem.mk q _ rfl gl ?_; conv => whnf)
            | (refine Elem.mk q _ rfl gp ?_; conv => whnf)
            | (refine Elem.mk q _ rfl gn ?_; conv => whnf)
            | (rw [gl']; conv => whnf)
            | (rw [gp']; conv => whnf)
            | (rw [gn']; conv => whnf)
            | ((refine step_draws tab_ok mix (.one 0 0 (.one 1 0 (.one 2 0 (.one 3 0 (.one 4 0 (.one 5 0 (.one 6 1 (.one 7 0 (.one 8 0 (.one 9 0 (.one 10 0 (.one 11 1 (.one 12 0 (.one 13 0 (.one 14 0 (.one 15 0 .done)))))))))))))))) [] ?hs ?_; (case hs => decide +kernel)); conv => whnf)
            | (refine c.call ⟨rfl, rfl, rfl⟩ ?_; conv => whnf)
            | (refine step_kinds 2 ?hk ?_; (case hk => decide +kernel); conv => whnf)
            | (refine step_kinds 3 ?hk ?_; (case hk => decide +kernel); conv => whnf)
            | (refine Num.id (by omega) (by omega) ?_; conv => whnf)
            | (refine Case.strI (fun _ => ?_) (fun _ => ?_) <;> conv => whnf)
            | (refine Both.mk ?_ ?_ <;> conv => whnf)
            | (refine Case.dec (fun _ => ?_) (fun _ => ?_) <;> conv => whnf)
            | (refine Case.beqI (fun _ => ?_) (fun _ => ?_) <;> conv => whnf)
            | (refine Case.mk (fun _ => ?_) (fun _ => ?_) <;> conv => whnf)
          all_goals (try (exfalso; rename_i hz; exact hz (by symm; rw [beq_eq_false_iff_ne]; omega)))
          all_goals (try (exfalso; simp_all; done))
          all_goals (try (exfalso; simp_all; omega))
          all_goals (refine ⟨i + 1, by omega, by omega, ?_⟩)
          all_goals (repeat' first | exact trivial | exact rfl | exact Nat.zero_le _ | exact Nat.zero_lt_succ _ | exact (by decide : (0 : Nat) < 1) | exact (by decide : (0 : Nat) < 3) | exact (by decide : (1 : Nat) < 3) | exact (by decide : (2 : Nat) < 3) | exact (by decide : (1 : Nat) < 4) | exact (by decide : (2 : Nat) < 4) | exact congrArg int (by (try dsimp only); omega) | apply And.intro)
      · have c := vparse_spec wdP[q]! [{ kind := 4, text := wdL[q]! }] (by simp) (by simpa using hs)
        rw [words_str q h13] at c
        conv => whnf
        refine step_draws tab_ok mix (.one 0 0 (.one 1 0 (.one 2 0 (.one 3 1 (.one 4 0 (.one 5 0 (.one 6 0 (.one 7 1 (.one 8 0 (.two 9 2 (.two 10 2 (.one 11 0 (.one 12 0 (.one 13 0 (.one 14 2 (.one 15 3 (.one 16 0 .done)))))) 14 2 (.one 10 2 (.one 11 0 (.one 12 0 (.one 13 0 (.one 15 3 (.one 16 0 .done))))))) 14 2 (.one 9 2 (.one 10 2 (.one 11 0 (.one 12 0 (.one 13 0 (.one 15 3 (.one 16 0 .done))))))))))))))))) [15] (by decide +kernel) ?_
        conv => whnf
        repeat' first
          | (refine Case.not ?_; conv => whnf)
          | (refine Case.yes ?_; conv => whnf)
          | (refine Case.no ?_; conv => whnf)
          | (refine Case.isTrue (by assumption) ?_; conv => whnf)
          | (refine Case.isFalse (by assumption) ?_; conv => whnf)
          | (refine Case.decT (by assumption) ?_; conv => whnf)
          | (refine Case.decF (by assumption) ?_; conv => whnf)
          | (refine Case.decT (by omega) ?_; conv => whnf)
          | (refine Case.decF (by omega) ?_; conv => whnf)
          | (refine Case.beqT (by omega) ?_; conv => whnf)
          | (refine Case.beqF (by omega) ?_; conv => whnf)
          | (refine Case.strT (by assumption) ?_; conv => whnf)
          | (refine Case.strF (by assumption) ?_; conv => whnf)
          | (refine Case.strF (by simp only [*]; decide) ?_; conv => whnf)
          | (refine Owes.mk (by decide) ?_; conv => whnf)
          | (refine Elem.mk q _ rfl gl ?_; conv => whnf)
          | (refine Elem.mk q _ rfl gp ?_; conv => whnf)
          | (refine Elem.mk q _ rfl gn ?_; conv => whnf)
          | (rw [gl']; conv => whnf)
          | (rw [gp']; conv => whnf)
          | (rw [gn']; conv => whnf)
          | (refine c.call ⟨rfl, rfl, rfl⟩ ?_; conv => whnf)
          | (refine c.callB ⟨rfl, rfl, rfl⟩ ?_; conv => whnf)
          | (refine step_kinds 2 ?hk ?_; (case hk => decide +kernel); conv => whnf)
          | (refine step_kinds 3 ?hk ?_; (case hk => decide +kernel); conv => whnf)
          | (refine Num.id (by omega) (by omega) ?_; conv => whnf)
          | (refine Case.strI (fun _ => ?_) (fun _ => ?_) <;> conv => whnf)
          | (refine Both.mk ?_ ?_ <;> conv => whnf)
          | (refine Case.dec (fun _ => ?_) (fun _ => ?_) <;> conv => whnf)
          | (refine Case.beqI (fun _ => ?_) (fun _ => ?_) <;> conv => whnf)
          | (refine Case.mk (fun _ => ?_) (fun _ => ?_) <;> conv => whnf)
        all_goals exact Fin.isB rfl
  · refine step_loop tab_ok (fun i : Nat => padK [int q, .junk, .junk, .junk, .own 0 9 1 wdF, .own 1 3 1 wdPF, .own 2 3 1 wdNF, int 1, int i] 100) (fun _ => []) 3 (fun i => i ≤ 8) (fun i => 8 - i) 0 (by omega) (fun _ => rfl) ?_ ?_
    ·
      repeat' first | exact trivial | exact rfl | exact Nat.zero_le _ | exact Nat.zero_lt_succ _ | exact (by decide : (0 : Nat) < 1) | exact (by decide : (1 : Nat) < 4) | exact (by decide : (2 : Nat) < 4) | exact (by decide : (3 : Nat) < 4) | exact (by decide : (1 : Nat) < 2) | exact (by decide : (2 : Nat) < 3) | exact congrArg int (by (try dsimp only); omega) | exact congrArg bool (by (try dsimp only); simp; omega) | (show _ < List.length _; simp; done) | apply And.intro
      all_goals decide
    · intro i hi
      conv => whnf
      refine Case.dec (fun h0 => ?_) (fun h0 => ?_)
      · have c := vparse_spec i [{ kind := 1, text := wdL[q]! }] (by simp) (by simpa using hs)
        rw [words_all q h13 i (by omega)] at c
        cases hw : wdWant q i wdP[q]!
        · rw [hw, if_neg (by decide)] at c
          simp only [wdWant, Bool.or_eq_false_iff, Bool.and_eq_false_iff, decide_eq_false_iff_not] at hw
          conv => whnf
          repeat' first
            | (refine Case.not ?_; conv => whnf)
            | (refine Case.yes ?_; conv => whnf)
            | (refine Case.no ?_; conv => whnf)
            | (refine Case.isTrue (by assumption) ?_; conv => whnf)
            | (refine Case.isFalse (by assumption) ?_; conv => whnf)
            | (refine Case.decT (by assumption) ?_; conv => whnf)
            | (refine Case.decF (by assumption) ?_; conv => whnf)
            | (refine Case.decT (by omega) ?_; conv => whnf)
            | (refine Case.decF (by omega) ?_; conv => whnf)
            | (refine Case.beqT (by omega) ?_; conv => whnf)
            | (refine Case.beqF (by omega) ?_; conv => whnf)
            | (refine Case.strT (by assumption) ?_; conv => whnf)
            | (refine Case.strF (by assumption) ?_; conv => whnf)
            | (refine Case.strF (by simp only [*]; decide) ?_; conv => whnf)
            | (refine Owes.mk (by decide) ?_; conv => whnf)
            | (refine Elem.mk q _ rfl gl ?_; conv => whnf)
            | (refine Elem.mk q _ rfl gp ?_; conv => whnf)
            | (refine Elem.mk q _ rfl gn ?_; conv => whnf)
            | (rw [gl']; conv => whnf)
            | (rw [gp']; conv => whnf)
            | (rw [gn']; conv => whnf)
            | ((refine step_draws tab_ok mix (.one 0 0 (.one 1 0 (.one 2 0 (.one 3 0 (.one 4 0 (.one 5 0 (.one 6 1 (.one 7 0 (.one 8 0 (.one 9 0 (.one 10 0 (.one 11 1 (.one 12 0 (.one 13 0 (.one 14 0 (.one 15 0 .done)))))))))))))))) [] ?hs ?_; (case hs => decide +kernel)); conv => whnf)
            | (refine c.call ⟨rfl, rfl, rfl⟩ ?_; conv => whnf)
            | (refine step_kinds 2 ?hk ?_; (case hk => decide +kernel); conv => whnf)
            | (refine step_kinds 3 ?hk ?_; (case hk => decide +kernel); conv => whnf)
            | (refine Num.id (by omega) (by omega) ?_; conv => whnf)
            | (refine Case.strI (fun _ => ?_) (fun _ => ?_) <;> conv => whnf)
            | (refine Both.mk ?_ ?_ <;> conv => whnf)
            | (refine Case.dec (fun _ => ?_) (fun _ => ?_) <;> conv => whnf)
            | (refine Case.beqI (fun _ => ?_) (fun _ => ?_) <;> conv => whnf)
            | (refine Case.mk (fun _ => ?_) (fun _ => ?_) <;> conv => whnf)
          all_goals (try (exfalso; rename_i hz; exact hz (by symm; rw [beq_eq_false_iff_ne]; omega)))
          all_goals (try (exfalso; simp_all; done))
          all_goals (try (exfalso; simp_all; omega))
          all_goals (refine ⟨i + 1, by omega, by omega, ?_⟩)
          all_goals (repeat' first | exact trivial | exact rfl | exact Nat.zero_le _ | exact Nat.zero_lt_succ _ | exact (by decide : (0 : Nat) < 1) | exact (by decide : (0 : Nat) < 3) | exact (by decide : (1 : Nat) < 3) | exact (by decide : (2 : Nat) < 3) | exact (by decide : (1 : Nat) < 4) | exact (by decide : (2 : Nat) < 4) | exact congrArg int (by (try dsimp only); omega) | apply And.intro)
        · rw [hw, if_pos rfl, if_neg (by omega)] at c
          simp only [wdWant, Bool.or_eq_true, Bool.and_eq_true, decide_eq_true_eq] at hw
          conv => whnf
          repeat' first
            | (refine Case.not ?_; conv => whnf)
            | (refine Case.yes ?_; conv => whnf)
            | (refine Case.no ?_; conv => whnf)
            | (refine Case.isTrue (by assumption) ?_; conv => whnf)
            | (refine Case.isFalse (by assumption) ?_; conv => whnf)
            | (refine Case.decT (by assumption) ?_; conv => whnf)
            | (refine Case.decF (by assumption) ?_; conv => whnf)
            | (refine Case.decT (by omega) ?_; conv => whnf)
            | (refine Case.decF (by omega) ?_; conv => whnf)
            | (refine Case.beqT (by omega) ?_; conv => whnf)
            | (refine Case.beqF (by omega) ?_; conv => whnf)
            | (refine Case.strT (by assumption) ?_; conv => whnf)
            | (refine Case.strF (by assumption) ?_; conv => whnf)
            | (refine Case.strF (by simp only [*]; decide) ?_; conv => whnf)
            | (refine Owes.mk (by decide) ?_; conv => whnf)
            | (refine Elem.mk q _ rfl gl ?_; conv => whnf)
            | (refine Elem.mk q _ rfl gp ?_; conv => whnf)
            | (refine Elem.mk q _ rfl gn ?_; conv => whnf)
            | (rw [gl']; conv => whnf)
            | (rw [gp']; conv => whnf)
            | (rw [gn']; conv => whnf)
            | ((refine step_draws tab_ok mix (.one 0 0 (.one 1 0 (.one 2 0 (.one 3 0 (.one 4 0 (.one 5 0 (.one 6 1 (.one 7 0 (.one 8 0 (.one 9 0 (.one 10 0 (.one 11 1 (.one 12 0 (.one 13 0 (.one 14 0 (.one 15 0 .done)))))))))))))))) [] ?hs ?_; (case hs => decide +kernel)); conv => whnf)
            | (refine c.call ⟨rfl, rfl, rfl⟩ ?_; conv => whnf)
            | (refine step_kinds 2 ?hk ?_; (case hk => decide +kernel); conv => whnf)
            | (refine step_kinds 3 ?hk ?_; (case hk => decide +kernel); conv => whnf)
            | (refine Num.id (by omega) (by omega) ?_; conv => whnf)
            | (refine Case.strI (fun _ => ?_) (fun _ => ?_) <;> conv => whnf)
            | (refine Both.mk ?_ ?_ <;> conv => whnf)
            | (refine Case.dec (fun _ => ?_) (fun _ => ?_) <;> conv => whnf)
            | (refine Case.beqI (fun _ => ?_) (fun _ => ?_) <;> conv => whnf)
            | (refine Case.mk (fun _ => ?_) (fun _ => ?_) <;> conv => whnf)
          all_goals (try (exfalso; rename_i hz; exact hz (by symm; rw [beq_eq_false_iff_ne]; omega)))
          all_goals (try (exfalso; simp_all; done))
          all_goals (try (exfalso; simp_all; omega))
          all_goals (refine ⟨i + 1, by omega, by omega, ?_⟩)
          all_goals (repeat' first | exact trivial | exact rfl | exact Nat.zero_le _ | exact Nat.zero_lt_succ _ | exact (by decide : (0 : Nat) < 1) | exact (by decide : (0 : Nat) < 3) | exact (by decide : (1 : Nat) < 3) | exact (by decide : (2 : Nat) < 3) | exact (by decide : (1 : Nat) < 4) | exact (by decide : (2 : Nat) < 4) | exact congrArg int (by (try dsimp only); omega) | apply And.intro)
      · have c := vparse_spec wdP[q]! [{ kind := 4, text := wdL[q]! }] (by simp) (by simpa using hs)
        rw [words_str q h13] at c
        conv => whnf
        refine step_draws tab_ok mix (.one 0 0 (.one 1 0 (.one 2 0 (.one 3 1 (.one 4 0 (.one 5 0 (.one 6 0 (.one 7 1 (.one 8 0 (.two 9 2 (.two 10 2 (.one 11 0 (.one 12 0 (.one 13 0 (.one 14 2 (.one 15 3 (.one 16 0 .done)))))) 14 2 (.one 10 2 (.one 11 0 (.one 12 0 (.one 13 0 (.one 15 3 (.one 16 0 .done))))))) 14 2 (.one 9 2 (.one 10 2 (.one 11 0 (.one 12 0 (.one 13 0 (.one 15 3 (.one 16 0 .done))))))))))))))))) [15] (by decide +kernel) ?_
        conv => whnf
        repeat' first
          | (refine Case.not ?_; conv => whnf)
          | (refine Case.yes ?_; conv => whnf)
          | (refine Case.no ?_; conv => whnf)
          | (refine Case.isTrue (by assumption) ?_; conv => whnf)
          | (refine Case.isFalse (by assumption) ?_; conv => whnf)
          | (refine Case.decT (by assumption) ?_; conv => whnf)
          | (refine Case.decF (by assumption) ?_; conv => whnf)
          | (refine Case.decT (by omega) ?_; conv => whnf)
          | (refine Case.decF (by omega) ?_; conv => whnf)
          | (refine Case.beqT (by omega) ?_; conv => whnf)
          | (refine Case.beqF (by omega) ?_; conv => whnf)
          | (refine Case.strT (by assumption) ?_; conv => whnf)
          | (refine Case.strF (by assumption) ?_; conv => whnf)
          | (refine Case.strF (by simp only [*]; decide) ?_; conv => whnf)
          | (refine Owes.mk (by decide) ?_; conv => whnf)
          | (refine Elem.mk q _ rfl gl ?_; conv => whnf)
          | (refine Elem.mk q _ rfl gp ?_; conv => whnf)
          | (refine Elem.mk q _ rfl gn ?_; conv => whnf)
          | (rw [gl']; conv => whnf)
          | (rw [gp']; conv => whnf)
          | (rw [gn']; conv => whnf)
          | (refine c.call ⟨rfl, rfl, rfl⟩ ?_; conv => whnf)
          | (refine c.callB ⟨rfl, rfl, rfl⟩ ?_; conv => whnf)
          | (refine step_kinds 2 ?hk ?_; (case hk => decide +kernel); conv => whnf)
          | (refine step_kinds 3 ?hk ?_; (case hk => decide +kernel); conv => whnf)
          | (refine Num.id (by omega) (by omega) ?_; conv => whnf)
          | (refine Case.strI (fun _ => ?_) (fun _ => ?_) <;> conv => whnf)
          | (refine Both.mk ?_ ?_ <;> conv => whnf)
          | (refine Case.dec (fun _ => ?_) (fun _ => ?_) <;> conv => whnf)
          | (refine Case.beqI (fun _ => ?_) (fun _ => ?_) <;> conv => whnf)
          | (refine Case.mk (fun _ => ?_) (fun _ => ?_) <;> conv => whnf)
        all_goals exact Fin.isB rfl
theorem valueWords_spec (p : Int) : Pure 6 [int p] (bool true) := by
  by_cases h : 0 ≤ p ∧ p < 13
  · obtain ⟨q, rfl⟩ : ∃ q : Nat, p = q := ⟨p.toNat, by omega⟩
    exact valueWords_in q (by omega)
  · refine .mk trivial (spec_mk tab_ok Tryd.func6 (by rfl) rfl ?_)
    have h2 : p < 0 ∨ 13 ≤ p := by omega
    rcases h2 with h2 | h2
    · conv => whnf
      repeat' first
        | (refine Case.not ?_; conv => whnf)
        | (refine Case.yes ?_; conv => whnf)
        | (refine Case.no ?_; conv => whnf)
        | (refine Case.isTrue (by assumption) ?_; conv => whnf)
        | (refine Case.isFalse (by assumption) ?_; conv => whnf)
        | (refine Case.decT (by assumption) ?_; conv => whnf)
        | (refine Case.decF (by assumption) ?_; conv => whnf)
        | (refine Case.decT (by omega) ?_; conv => whnf)
        | (refine Case.decF (by omega) ?_; conv => whnf)
        | (refine Case.beqT (by omega) ?_; conv => whnf)
        | (refine Case.beqF (by omega) ?_; conv => whnf)
        | (refine Case.strT (by assumption) ?_; conv => whnf)
        | (refine Case.strF (by assumption) ?_; conv => whnf)
        | (refine Case.strF (by simp only [*]; decide) ?_; conv => whnf)
        | (refine valive_spec.call rfl ?_; conv => whnf)
        | (refine step_kinds 2 ?hk ?_; (case hk => decide +kernel); conv => whnf)
        | (refine step_kinds 3 ?hk ?_; (case hk => decide +kernel); conv => whnf)
        | (refine Num.id (by omega) (by omega) ?_; conv => whnf)
        | (refine Case.strI (fun _ => ?_) (fun _ => ?_) <;> conv => whnf)
        | (refine Both.mk ?_ ?_ <;> conv => whnf)
        | (refine Case.dec (fun _ => ?_) (fun _ => ?_) <;> conv => whnf)
        | (refine Case.beqI (fun _ => ?_) (fun _ => ?_) <;> conv => whnf)
        | (refine Case.mk (fun _ => ?_) (fun _ => ?_) <;> conv => whnf)
      exact Fin.isB rfl
    · have h3 : ¬ p < 0 := by omega
      conv => whnf
      repeat' first
        | (refine Case.not ?_; conv => whnf)
        | (refine Case.yes ?_; conv => whnf)
        | (refine Case.no ?_; conv => whnf)
        | (refine Case.isTrue (by assumption) ?_; conv => whnf)
        | (refine Case.isFalse (by assumption) ?_; conv => whnf)
        | (refine Case.decT (by assumption) ?_; conv => whnf)
        | (refine Case.decF (by assumption) ?_; conv => whnf)
        | (refine Case.decT (by omega) ?_; conv => whnf)
        | (refine Case.decF (by omega) ?_; conv => whnf)
        | (refine Case.beqT (by omega) ?_; conv => whnf)
        | (refine Case.beqF (by omega) ?_; conv => whnf)
        | (refine Case.strT (by assumption) ?_; conv => whnf)
        | (refine Case.strF (by assumption) ?_; conv => whnf)
        | (refine Case.strF (by simp only [*]; decide) ?_; conv => whnf)
        | (refine valive_spec.call rfl ?_; conv => whnf)
        | (refine step_kinds 2 ?hk ?_; (case hk => decide +kernel); conv => whnf)
        | (refine step_kinds 3 ?hk ?_; (case hk => decide +kernel); conv => whnf)
        | (refine Num.id (by omega) (by omega) ?_; conv => whnf)
        | (refine Case.strI (fun _ => ?_) (fun _ => ?_) <;> conv => whnf)
        | (refine Both.mk ?_ ?_ <;> conv => whnf)
        | (refine Case.dec (fun _ => ?_) (fun _ => ?_) <;> conv => whnf)
        | (refine Case.beqI (fun _ => ?_) (fun _ => ?_) <;> conv => whnf)
        | (refine Case.mk (fun _ => ?_) (fun _ => ?_) <;> conv => whnf)
      · exact Fin.isB rfl
      all_goals (exfalso; simp_all; omega)
theorem walkValueWords (a0 : Int) (W : World) (w0 : (Lit.int .i64 a0).wf = true) : Calls Tryd.prog 6 #[.int .i64 a0] W fun e w' => e = .returned (.bool true) ∧ Below W.heap.size W w' :=
  calls_of_spec (valueWords_spec a0).2 W (laidOk W) [.int .i64 a0] (repL_cons (rep_val rfl) repL_nil)
end Go.Proofs.YtofjmhigfihhbaaDoor.Aw
