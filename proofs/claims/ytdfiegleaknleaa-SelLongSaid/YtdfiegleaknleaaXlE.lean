/- SelLong: its walk. -/
import Derived.Test.YtdfiegleaknleaaXlF
namespace Go.Proofs.Ytdfiegleaknleaa.Aw
open Go Go.RowKit Go.Lib
set_option linter.unusedVariables false
set_option linter.unusedSimpArgs false
set_option maxRecDepth 100000
def tokA : Tok := { kind := 1, text := [97] }
def tokC13 : Tok := { kind := 13 }
def longT : Nat → List Tok
  | 0 => []
  | n + 1 => (if 0 < n then longT n ++ [tokC13] else longT n) ++ [tokA]
def selA : Selr := [(0, { tag := [97] })]
theorem longT_len : ∀ n, (longT (n + 1)).length = 2 * n + 1
  | 0 => rfl
  | n + 1 => by
    rw [longT, if_pos (Nat.zero_lt_succ n)]
    simp only [List.length_append, List.length_cons, List.length_nil, longT_len n]
    omega
theorem longT_at : ∀ n j, j ≤ 2 * n → (longT (n + 1))[j]? = some (if j % 2 = 0 then tokA else tokC13)
  | 0, j, h => by
    have : j = 0 := by omega
    subst this
    rfl
  | n + 1, j, h => by
    have hl := longT_len n
    rw [longT, if_pos (Nat.zero_lt_succ n)]
    rcases Nat.lt_or_ge j (2 * n + 1) with h1 | h1
    · rw [List.append_assoc, List.getElem?_append_left (by omega)]
      exact longT_at n j (by omega)
    · rw [List.append_assoc, List.getElem?_append_right (by omega), hl]
      have : j = 2 * n + 1 ∨ j = 2 * n + 2 := by omega
      rcases this with rfl | rfl
      · rw [if_neg (by omega), Nat.sub_self]; rfl
      · rw [if_pos (by omega), show 2 * n + 2 - (2 * n + 1) = 1 by omega]; rfl
theorem sel_one {b : Bool} {nest : SNest} {t : List Tok} {q : Int} {i : Nat} (h1 : tk t i = tokA) (h2 : (tk t (i + 1)).kind = 13 ∨ t.length = i + 1) : sSel b nest t q i = (selA, true, i + 1) := by
  have k1 : (tk t i).kind = 1 := by rw [h1]; rfl
  have k2 : (tk t (i + 1)).kind = 13 ∨ ((tk t (i + 1)).kind = 0 ∧ t.length ≤ i + 1) := by
    rcases h2 with h2 | h2
    · exact .inl h2
    · exact .inr ⟨by unfold tk; rw [List.getElem?_eq_none (by omega)], by omega⟩
  have nD : ∀ c, isD t (i + 1) c = false := fun c => by
    simp only [isD, Bool.and_eq_false_imp, decide_eq_true_eq]
    omega
  have hS : ∀ c, sSimple b nest t (i + 1) c = (c, false, true, i + 1) := fun c => by
    unfold sSimple
    rw [if_neg (by omega), if_neg (by simp [nD]), if_neg (by omega), if_neg (by omega)]
  have hC : sCmp b nest t i = ({ tag := [97] }, true, i + 1) := by
    unfold sCmp
    rw [if_pos k1, h1, sCmpRun, hS]
    rfl
  have hw : ws t (i + 1) = i + 1 := ws_self (by omega)
  have hp : pcomb t (i + 1) = 0 := by simp [pcomb, nD]
  have he : sEnds t (i + 1) q = true := by
    simp only [sEnds, Bool.or_eq_true, decide_eq_true_eq]
    omega
  have hm : sComb t (i + 1) q = (0, true, i + 1) := by
    unfold sComb
    rw [hw, hp, if_neg (by omega), if_pos he]
  unfold sSel
  rw [sSelRun, hC]
  simp only [hm]
  rfl
theorem long_list {b : Bool} {nest : SNest} {n : Nat} : ∀ (m j f : Nat) (out : List Selr), j + m = n → m < f → sListRun b nest (longT (n + 1)) 0 f (2 * j) out = (out ++ List.replicate (m + 1) selA, true, 2 * n + 1)
  | 0, j, f + 1, out, hj, hf => by
    have hl := longT_len n
    have h1 : tk (longT (n + 1)) (2 * j) = tokA := by unfold tk; rw [longT_at n (2 * j) (by omega), if_pos (by omega)]
    have h2 : (tk (longT (n + 1)) (2 * j + 1)).kind = 0 := by unfold tk; rw [List.getElem?_eq_none (by omega)]
    have hw : ws (longT (n + 1)) (2 * j) = 2 * j := ws_self (by rw [h1]; decide)
    rw [sListRun, hw, sel_one h1 (.inr (by omega))]
    simp only [Bool.true_eq_false, if_false]
    rw [if_neg (by omega)]
    simp
    omega
  | m + 1, j, f + 1, out, hj, hf => by
    have hl := longT_len n
    have h1 : tk (longT (n + 1)) (2 * j) = tokA := by unfold tk; rw [longT_at n (2 * j) (by omega), if_pos (by omega)]
    have h2 : tk (longT (n + 1)) (2 * j + 1) = tokC13 := by unfold tk; rw [longT_at n (2 * j + 1) (by omega), if_neg (by omega)]
    have hw : ws (longT (n + 1)) (2 * j) = 2 * j := ws_self (by rw [h1]; decide)
    have h3 : (tk (longT (n + 1)) (2 * j + 1)).kind = 13 := by rw [h2]; rfl
    rw [sListRun, hw, sel_one h1 (.inl h3)]
    simp only [Bool.true_eq_false, if_false]
    rw [if_pos h3, show 2 * j + 1 + 1 = 2 * (j + 1) by omega, long_list m (j + 1) f _ (by omega) (by omega)]
    rw [List.append_assoc]
    simp [List.replicate_succ]
theorem long_parse (n : Nat) : sParse (longT (n + 1)) = if 2 * n + 1 ≤ 1000 then (List.replicate (n + 1) selA, true) else ([], false) := by
  have hl := longT_len n
  unfold sParse
  by_cases h : 2 * n + 1 ≤ 1000
  · rw [if_neg (by omega), if_pos h]
    have e : sNest (longT (n + 1)) 9 0 0 = (List.replicate (n + 1) selA, true, 2 * n + 1) := by
      unfold sNest sList
      have := long_list (b := decide ((0 : Int) = 8)) (nest := sNest (longT (n + 1)) 8 (0 + 1)) (n := n) n 0 ((longT (n + 1)).length + 1) [] (by omega) (by omega)
      simpa using this
    rw [e, if_neg (by simp; omega)]
  · rw [if_pos (by omega), if_neg h]
theorem long_fit (n : Nat) (hn : n < 1000) : Fit (longT (n + 1)) := by
  have hl := longT_len n
  have hk : ∀ i, tk (longT (n + 1)) i = tokA ∨ tk (longT (n + 1)) i = tokC13 ∨ tk (longT (n + 1)) i = {} := fun i => by
    unfold tk
    rcases Nat.lt_or_ge (2 * n) i with h | h
    · rw [List.getElem?_eq_none (by omega)]; exact .inr (.inr rfl)
    · rw [longT_at n i h]
      dsimp only
      by_cases h2 : i % 2 = 0
      · rw [if_pos h2]; exact .inl rfl
      · rw [if_neg h2]; exact .inr (.inl rfl)
  refine ⟨by omega, fun i => ?_, fun i => ?_⟩ <;> rcases hk i with h | h | h <;> rw [h] <;> decide
set_option maxHeartbeats 2000000 in
theorem selLong_spec (w : Int) (hw : -9223372036854775808 ≤ w ∧ w < 9223372036854775808) : Pure 11 [int w] (bool true) := by
  refine ⟨trivial, spec_mk tab_ok Try.func11 (by rfl) rfl ?_⟩
  conv => whnf
  repeat' first
    | (refine Case.not ?_; conv => whnf)
    | (refine Case.yes ?_; conv => whnf)
    | (refine Case.no ?_; conv => whnf)
    | (refine Case.isTrue (by assumption) ?_; conv => whnf)
    | (refine Case.isFalse (by assumption) ?_; conv => whnf)
    | (refine Case.decT (by assumption) ?_; conv => whnf)
    | (refine Case.decF (by assumption) ?_; conv => whnf)
    | (refine Case.decT (by omega) ?_; conv => whnf)
    | (refine Case.decF (by omega) ?_; conv => whnf)
    | (refine Case.beqT (by omega) ?_; conv => whnf)
    | (refine Case.beqF (by omega) ?_; conv => whnf)
    | (refine Case.strT (by assumption) ?_; conv => whnf)
    | (refine Case.strF (by assumption) ?_; conv => whnf)
    | (refine Case.strF (by simp only [*]; decide) ?_; conv => whnf)
    | (refine alive_spec.call rfl ?_; conv => whnf)
    | (refine step_kinds 2 ?hk ?_; (case hk => decide +kernel); conv => whnf)
    | (refine step_kinds 3 ?hk ?_; (case hk => decide +kernel); conv => whnf)
    | (refine Num.id (by omega) (by omega) ?_; conv => whnf)
    | (refine Case.strI (fun _ => ?_) (fun _ => ?_) <;> conv => whnf)
    | (refine Both.mk ?_ ?_ <;> conv => whnf)
    | (refine Case.dec (fun _ => ?_) (fun _ => ?_) <;> conv => whnf)
    | (refine Case.beqI (fun _ => ?_) (fun _ => ?_) <;> conv => whnf)
    | (refine Case.mk (fun _ => ?_) (fun _ => ?_) <;> conv => whnf)
  · exact Fin.isB rfl
  · exact Fin.isB rfl
  · obtain ⟨n, rfl⟩ : ∃ n : Nat, w = n := ⟨w.toNat, by omega⟩
    have hn : 495 ≤ n ∧ n ≤ 505 := by omega
    refine step_loop tab_ok (fun i : Nat => padK [int n, .junk, .junk, .junk, .own 0 25 5 (toksF (longT i)), int i] 56) (fun _ => []) 1 (fun i => i ≤ n) (fun i => n - i) 0 (by omega) (fun _ => rfl) ?_ ?_
    ·
      repeat' first | exact trivial | exact rfl | exact Nat.zero_le _ | exact Nat.zero_lt_succ _ | exact (by decide : (0 : Nat) < 1) | exact (by decide : (1 : Nat) < 4) | exact (by decide : (2 : Nat) < 4) | exact (by decide : (3 : Nat) < 4) | exact (by decide : (1 : Nat) < 2) | exact (by decide : (2 : Nat) < 3) | exact congrArg int (by (try dsimp only); omega) | exact congrArg bool (by (try dsimp only); simp; omega) | (show _ < List.length _; simp; done) | apply And.intro
    · intro i hi
      have lz : (toksF (longT i)).length ≤ 2 * i := by
        cases i with
        | zero => simp [longT]
        | succ i => have := longT_len i; simp; omega
      conv => whnf
      refine Case.dec (fun h0 => ?_) (fun h0 => ?_)
      · conv => whnf
        repeat' first
          | (refine Case.not ?_; conv => whnf)
          | (refine Case.yes ?_; conv => whnf)
          | (refine Case.no ?_; conv => whnf)
          | (refine Case.isTrue (by assumption) ?_; conv => whnf)
          | (refine Case.isFalse (by assumption) ?_; conv => whnf)
          | (refine Case.decT (by assumption) ?_; conv => whnf)
          | (refine Case.decF (by assumption) ?_; conv => whnf)
          | (refine Case.decT (by omega) ?_; conv => whnf)
          | (refine Case.decF (by omega) ?_; conv => whnf)
          | (refine Case.beqT (by omega) ?_; conv => whnf)
          | (refine Case.beqF (by omega) ?_; conv => whnf)
          | (refine Case.strT (by assumption) ?_; conv => whnf)
          | (refine Case.strF (by assumption) ?_; conv => whnf)
          | (refine Case.strF (by simp only [*]; decide) ?_; conv => whnf)
          | (refine Owes.mk (by first | (dsimp only [List.length]; omega) | (simp only [List.length_cons, List.length_nil, List.length_append]; omega)) ?_; conv => whnf)
          | (refine step_kinds 2 ?hk ?_; (case hk => decide +kernel); conv => whnf)
          | (refine step_kinds 3 ?hk ?_; (case hk => decide +kernel); conv => whnf)
          | (refine Num.id (by omega) (by omega) ?_; conv => whnf)
          | (refine Case.strI (fun _ => ?_) (fun _ => ?_) <;> conv => whnf)
          | (refine Both.mk ?_ ?_ <;> conv => whnf)
          | (refine Case.dec (fun _ => ?_) (fun _ => ?_) <;> conv => whnf)
          | (refine Case.beqI (fun _ => ?_) (fun _ => ?_) <;> conv => whnf)
          | (refine Case.mk (fun _ => ?_) (fun _ => ?_) <;> conv => whnf)
        all_goals refine ⟨i + 1, by omega, by omega, ?_⟩
        · have e : longT (i + 1) = (longT i ++ [tokC13]) ++ [tokA] := by rw [longT, if_pos (by omega)]
          rw [e]
          repeat' first | exact trivial | exact rfl | exact Nat.zero_le _ | exact Nat.zero_lt_succ _ | exact (by decide : (0 : Nat) < 1) | exact (by decide : (1 : Nat) < 4) | exact (by decide : (2 : Nat) < 4) | exact (by decide : (3 : Nat) < 4) | exact (by decide : (1 : Nat) < 2) | exact (by decide : (2 : Nat) < 3) | exact congrArg int (by (try dsimp only); omega) | exact congrArg (D.own _ _ _) (by simp [tokRow, tokC13, tokA]; done) | exact congrArg bool (by (try dsimp only); simp; omega) | (show _ < List.length _; simp; done) | apply And.intro
        · have e : longT (i + 1) = longT i ++ [tokA] := by rw [longT, if_neg (by omega)]
          rw [e]
          repeat' first | exact trivial | exact rfl | exact Nat.zero_le _ | exact Nat.zero_lt_succ _ | exact (by decide : (0 : Nat) < 1) | exact (by decide : (1 : Nat) < 4) | exact (by decide : (2 : Nat) < 4) | exact (by decide : (3 : Nat) < 4) | exact (by decide : (1 : Nat) < 2) | exact (by decide : (2 : Nat) < 3) | exact congrArg int (by (try dsimp only); omega) | exact congrArg (D.own _ _ _) (by simp [tokRow, tokC13, tokA]; done) | exact congrArg bool (by (try dsimp only); simp; omega) | (show _ < List.length _; simp; done) | apply And.intro
      · have hin : i = n := by omega
        subst hin
        obtain ⟨m, rfl⟩ : ∃ m, i = m + 1 := ⟨i - 1, by omega⟩
        have hp := parse_spec (long_fit m (by omega))
        rw [long_parse] at hp
        conv => whnf
        refine call_freeze 0 ?_
        by_cases h5 : 2 * m + 1 ≤ 1000
        · rw [if_pos h5] at hp
          refine hp.call ?_
          conv => whnf
          repeat' first
            | (refine Case.not ?_; conv => whnf)
            | (refine Case.yes ?_; conv => whnf)
            | (refine Case.no ?_; conv => whnf)
            | (refine Case.isTrue (by assumption) ?_; conv => whnf)
            | (refine Case.isFalse (by assumption) ?_; conv => whnf)
            | (refine Case.decT (by assumption) ?_; conv => whnf)
            | (refine Case.decF (by assumption) ?_; conv => whnf)
            | (refine Case.decT (by omega) ?_; conv => whnf)
            | (refine Case.decF (by omega) ?_; conv => whnf)
            | (refine Case.beqT (by omega) ?_; conv => whnf)
            | (refine Case.beqF (by omega) ?_; conv => whnf)
            | (refine Case.strT (by assumption) ?_; conv => whnf)
            | (refine Case.strF (by assumption) ?_; conv => whnf)
            | (refine Case.strF (by simp only [*]; decide) ?_; conv => whnf)
            | (refine step_kinds 2 ?hk ?_; (case hk => decide +kernel); conv => whnf)
            | (refine step_kinds 3 ?hk ?_; (case hk => decide +kernel); conv => whnf)
            | (refine Num.id (by omega) (by omega) ?_; conv => whnf)
            | (refine Case.strI (fun _ => ?_) (fun _ => ?_) <;> conv => whnf)
            | (refine Both.mk ?_ ?_ <;> conv => whnf)
            | (refine Case.dec (fun _ => ?_) (fun _ => ?_) <;> conv => whnf)
            | (refine Case.beqI (fun _ => ?_) (fun _ => ?_) <;> conv => whnf)
            | (refine Case.mk (fun _ => ?_) (fun _ => ?_) <;> conv => whnf)
          · exact Fin.isB (by simp)
          · rename_i x
            exfalso
            apply x
            symm
            show decide _ = true
            rw [decide_eq_true_eq]
            omega
        · rw [if_neg h5] at hp
          refine hp.call ?_
          conv => whnf
          repeat' first
            | (refine Case.not ?_; conv => whnf)
            | (refine Case.yes ?_; conv => whnf)
            | (refine Case.no ?_; conv => whnf)
            | (refine Case.isTrue (by assumption) ?_; conv => whnf)
            | (refine Case.isFalse (by assumption) ?_; conv => whnf)
            | (refine Case.decT (by assumption) ?_; conv => whnf)
            | (refine Case.decF (by assumption) ?_; conv => whnf)
            | (refine Case.decT (by omega) ?_; conv => whnf)
            | (refine Case.decF (by omega) ?_; conv => whnf)
            | (refine Case.beqT (by omega) ?_; conv => whnf)
            | (refine Case.beqF (by omega) ?_; conv => whnf)
            | (refine Case.strT (by assumption) ?_; conv => whnf)
            | (refine Case.strF (by assumption) ?_; conv => whnf)
            | (refine Case.strF (by simp only [*]; decide) ?_; conv => whnf)
            | (refine step_kinds 2 ?hk ?_; (case hk => decide +kernel); conv => whnf)
            | (refine step_kinds 3 ?hk ?_; (case hk => decide +kernel); conv => whnf)
            | (refine Num.id (by omega) (by omega) ?_; conv => whnf)
            | (refine Case.strI (fun _ => ?_) (fun _ => ?_) <;> conv => whnf)
            | (refine Both.mk ?_ ?_ <;> conv => whnf)
            | (refine Case.dec (fun _ => ?_) (fun _ => ?_) <;> conv => whnf)
            | (refine Case.beqI (fun _ => ?_) (fun _ => ?_) <;> conv => whnf)
            | (refine Case.mk (fun _ => ?_) (fun _ => ?_) <;> conv => whnf)
          · exact Fin.isB rfl
          · rename_i x
            exfalso
            apply x
            symm
            show decide _ = false
            rw [decide_eq_false_iff_not]
            omega
theorem wfL {a : Int} (h : (Lit.int .i64 a).wf = true) : -9223372036854775808 ≤ a ∧ a < 9223372036854775808 := by
  simp only [Lit.wf, Bool.and_eq_true, decide_eq_true_eq] at h
  have e1 : IntKind.i64.min = -9223372036854775808 := by decide
  have e2 : IntKind.i64.max = 9223372036854775807 := by decide
  omega
theorem walkSelLong (a0 : Int) (W : World) (w0 : (Lit.int .i64 a0).wf = true) : Calls Try.prog 11 #[.int .i64 a0] W fun e w' => e = .returned (.bool true) ∧ Below W.heap.size W w' :=
  calls_of_spec (selLong_spec a0 (wfL w0)).2 W [.int .i64 a0] (repL_cons (rep_val rfl) repL_nil)
end Go.Proofs.Ytdfiegleaknleaa.Aw
