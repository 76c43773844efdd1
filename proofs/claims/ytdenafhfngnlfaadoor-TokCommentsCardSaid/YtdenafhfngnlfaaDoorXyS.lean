/- TokSigns. -/
import Derived.Test.YtdenafhfngnlfaaDoorXyR
import Derived.Test.YtdenafhfngnlfaaDoorAwW
namespace Go.Proofs.YtdenafhfngnlfaaDoor.Aw
open Go Go.RowKit Go.Lib
set_option linter.unusedVariables false
set_option linter.unusedSimpArgs false
set_option maxRecDepth 100000
theorem signOk_at (c : UInt8) : (∀ i, i < 9 → signL.getD i 0 = c → ofB [c] = [{ kind := 11 + i }]) ∧ ((∀ j, j < 9 → signL.getD j 0 ≠ c) → delimB c.toNat = true → ofB [c] = [{ kind := 10, c := c.toNat }]) ∧ (ofB [c]).length ≤ 1 := by
  have h := List.all_eq_true.1 signOk_all c.toNat (List.mem_range.2 c.toNat_lt)
  rw [UInt8.ofNat_toNat] at h
  unfold signOk at h
  simp only [Bool.and_eq_true, List.all_eq_true, List.mem_range, Bool.or_eq_true, bne_iff_ne, decide_eq_true_eq, Bool.not_eq_true', ne_eq] at h
  obtain ⟨⟨h1, h2⟩, h3⟩ := h
  refine ⟨fun i hi hc => (h1 i hi).resolve_left (fun h => h hc), fun hn hd => ?_, h3⟩
  rcases h2 with (h2 | h2) | h2
  · obtain ⟨j, hj, e⟩ := List.getElem_of_mem (List.contains_iff_mem.1 h2)
    exact absurd (by rw [List.getD_eq_getElem?_getD, List.getElem?_eq_getElem hj, Option.getD_some, e]) (hn j hj)
  · rw [hd] at h2
    cases h2
  · exact h2
theorem delimB_iff (n : Nat) : delimB n = true ↔ 32 < n ∧ n < 127 ∧ n ≠ 34 ∧ n ≠ 39 ∧ n ≠ 95 ∧ ¬ (48 ≤ n ∧ n ≤ 57) ∧ ¬ (97 ≤ n ∧ n ≤ 122) ∧ ¬ (65 ≤ n ∧ n ≤ 90) := by
  unfold delimB
  simp only [Bool.and_eq_true, decide_eq_true_eq, Bool.not_eq_true', beq_eq_false_iff_ne, ne_eq, Bool.and_eq_false_imp, decide_eq_false_iff_not]
  omega
set_option maxHeartbeats 4000000 in
theorem signs_spec (c : UInt8) : Pure 8 [.f (.v (.int .u8 c.toNat))] (bool true) := by
  have hb : ([c].map byteRow) = [byteRow c] := rfl
  have ho := of4_val [c] (by simp)
  refine ⟨trivial, spec_mk tab_ok Tryd.func8 (by rfl) rfl ?_⟩
  conv => whnf
  repeat' first
    | (refine Case.not ?_; conv => whnf)
    | (refine Case.yes ?_; conv => whnf)
    | (refine Case.no ?_; conv => whnf)
    | (refine Case.isTrue (by assumption) ?_; conv => whnf)
    | (refine Case.isFalse (by assumption) ?_; conv => whnf)
    | (refine Case.decT (by assumption) ?_; conv => whnf)
    | (refine Case.decF (by assumption) ?_; conv => whnf)
    | (refine Case.decT (by omega) ?_; conv => whnf)
    | (refine Case.decF (by omega) ?_; conv => whnf)
    | (refine Case.beqT (by omega) ?_; conv => whnf)
    | (refine Case.beqF (by omega) ?_; conv => whnf)
    | (refine Case.strT (by assumption) ?_; conv => whnf)
    | (refine Case.strF (by assumption) ?_; conv => whnf)
    | (refine Case.strF (by simp only [*]; decide) ?_; conv => whnf)
    | (refine alive4_spec.call rfl ?_; conv => whnf)
    | (refine ho.callO ?_; conv => whnf)
    | (refine Owes.mk ⟨rfl, rfl, List.cons_ne_nil _ _⟩ ?_; conv => whnf)
    | (refine step_kinds 2 ?hk ?_; (case hk => decide +kernel); conv => whnf)
    | (refine step_kinds 3 ?hk ?_; (case hk => decide +kernel); conv => whnf)
    | (refine step_auto 2 ?hk ?_; (case hk => decide +kernel); conv => whnf)
    | (refine step_auto 3 ?hk ?_; (case hk => decide +kernel); conv => whnf)
    | (refine Num.id (by omega) (by omega) ?_; conv => whnf)
    | (refine Case.strI (fun _ => ?_) (fun _ => ?_) <;> conv => whnf)
    | (refine Both.mk ?_ ?_ <;> conv => whnf)
    | (refine Case.dec (fun _ => ?_) (fun _ => ?_) <;> conv => whnf)
    | (refine Case.beqI (fun _ => ?_) (fun _ => ?_) <;> conv => whnf)
    | (refine Case.mk (fun _ => ?_) (fun _ => ?_) <;> conv => whnf)
    | (refine Way.fst ?_; conv => whnf)
  refine step_loop tab_ok (fun i : Nat => padK [.f (.v (.int .u8 c.toNat)), .junk, .junk, bool true, .f (.sl ((ofB [c]).map tokRow)), .f (.sl (signL.map byteRow)), .own 2 3 1 (ptsF [11, 12, 13, 14, 15, 16, 17, 18, 19]), int i] 110) (fun _ => []) 3 (fun i : Nat => i ≤ 9 ∧ ∀ j, j < i → signL.getD j 0 ≠ c) (fun i => 9 - i) 0 ⟨by simp, by simp⟩ (fun _ => rfl) ?_ ?_
  ·
    repeat' first | exact trivial | exact rfl | exact Nat.zero_le _ | exact Nat.zero_lt_succ _ | exact (by decide : (0 : Nat) < 1) | exact (by decide : (1 : Nat) < 4) | exact (by decide : (2 : Nat) < 4) | exact (by decide : (3 : Nat) < 4) | exact (by decide : (1 : Nat) < 2) | exact (by decide : (2 : Nat) < 3) | exact congrArg int (by (try dsimp only); omega) | exact congrArg bool (by (try dsimp only); simp; omega) | (show _ < List.length _; simp; done) | apply And.intro
  · rintro i ⟨h1, h2⟩
    dsimp only
    conv => whnf
    have hs := signOk_at c
    have hlen : (signL.map byteRow).length = 9 := rfl
    refine Case.dec (fun h0 => ?_) (fun h0 => ?_)
    · have h0' : i < 9 := by omega
      have gi : (signL.map byteRow)[i]? = some (byteRow (signL.getD i 0)) := by
        rw [List.getElem?_map, List.getD_eq_getElem?_getD, List.getElem?_eq_getElem (show i < signL.length from h0')]
        rfl
      by_cases hc : signL.getD i 0 = c
      · have e := hs.1 i h0' hc
        have gk : (ptsF [11, 12, 13, 14, 15, 16, 17, 18, 19])[i]? = some [.v (.int .i64 (11 + i))] := by
          have : ∀ i, i < 9 → (ptsF [11, 12, 13, 14, 15, 16, 17, 18, 19])[i]? = some [.v (.int .i64 (11 + (i : Int)))] := by
            intro i hi
            rcases i with _ | _ | _ | _ | _ | _ | _ | _ | _ | i <;> first | rfl | omega
          exact this i h0'
        obtain ⟨z, hz⟩ : ∃ z : Int, z = 11 + i := ⟨_, rfl⟩
        rw [← hz] at e gk
        rw [e]
        have gk' : (ptsF [11, 12, 13, 14, 15, 16, 17, 18, 19])[(i : Int).toNat]? = some [.v (.int .i64 z)] := gk
        clear hs e hz
        conv => whnf
        have hce : (signL.getD i 0).toNat = c.toNat := by rw [hc]
        repeat' first
          | (refine Case.not ?_; conv => whnf)
          | (refine Case.yes ?_; conv => whnf)
          | (refine Case.no ?_; conv => whnf)
          | (refine Case.isTrue (by assumption) ?_; conv => whnf)
          | (refine Case.isFalse (by assumption) ?_; conv => whnf)
          | (refine Case.decT (by assumption) ?_; conv => whnf)
          | (refine Case.decF (by assumption) ?_; conv => whnf)
          | (refine Case.decT (by omega) ?_; conv => whnf)
          | (refine Case.decF (by omega) ?_; conv => whnf)
          | (refine Case.beqT (by omega) ?_; conv => whnf)
          | (refine Case.beqF (by omega) ?_; conv => whnf)
          | (refine Case.strT (by assumption) ?_; conv => whnf)
          | (refine Case.strF (by assumption) ?_; conv => whnf)
          | (refine Case.strF (by simp only [*]; decide) ?_; conv => whnf)
          | (refine Owes.mk bytes_row ?_; conv => whnf)
          | (refine Owes.mk byteRow_len ?_; conv => whnf)
          | (refine Elem.mk i _ rfl gi ?_; conv => whnf)
          | (refine Owes.mk toks4_row ?_; conv => whnf)
          | (refine Elem.mk 0 _ rfl rfl ?_; conv => whnf)
          | (refine Owes.mk rfl ?_; conv => whnf)
          | (refine Elem.mk i _ rfl gk ?_; conv => whnf)
          | (rw [gk']; conv => whnf)
          | (refine Case.isTrue (by simp) ?_; conv => whnf)
          | (refine Case.isFalse (by simp) ?_; conv => whnf)
          | (refine step_kinds 2 ?hk ?_; (case hk => decide +kernel); conv => whnf)
          | (refine step_kinds 3 ?hk ?_; (case hk => decide +kernel); conv => whnf)
          | (refine step_auto 2 ?hk ?_; (case hk => decide +kernel); conv => whnf)
          | (refine step_auto 3 ?hk ?_; (case hk => decide +kernel); conv => whnf)
          | (refine Num.id (by omega) (by omega) ?_; conv => whnf)
          | (refine Case.strI (fun _ => ?_) (fun _ => ?_) <;> conv => whnf)
          | (refine Both.mk ?_ ?_ <;> conv => whnf)
          | (refine Case.dec (fun _ => ?_) (fun _ => ?_) <;> conv => whnf)
          | (refine Case.beqI (fun _ => ?_) (fun _ => ?_) <;> conv => whnf)
          | (refine Case.mk (fun _ => ?_) (fun _ => ?_) <;> conv => whnf)
          | (refine Way.fst ?_; conv => whnf)
        all_goals first | exact Fin.isB (by simp) | exact Fin.isB rfl
      · conv => whnf
        have hce : ¬ (signL.getD i 0).toNat = c.toNat := fun h => hc (UInt8.toNat_inj.1 h)
        repeat' first
          | (refine Case.not ?_; conv => whnf)
          | (refine Case.yes ?_; conv => whnf)
          | (refine Case.no ?_; conv => whnf)
          | (refine Case.isTrue (by assumption) ?_; conv => whnf)
          | (refine Case.isFalse (by assumption) ?_; conv => whnf)
          | (refine Case.decT (by assumption) ?_; conv => whnf)
          | (refine Case.decF (by assumption) ?_; conv => whnf)
          | (refine Case.decT (by omega) ?_; conv => whnf)
          | (refine Case.decF (by omega) ?_; conv => whnf)
          | (refine Case.beqT (by omega) ?_; conv => whnf)
          | (refine Case.beqF (by omega) ?_; conv => whnf)
          | (refine Case.strT (by assumption) ?_; conv => whnf)
          | (refine Case.strF (by assumption) ?_; conv => whnf)
          | (refine Case.strF (by simp only [*]; decide) ?_; conv => whnf)
          | (refine Owes.mk bytes_row ?_; conv => whnf)
          | (refine Owes.mk byteRow_len ?_; conv => whnf)
          | (refine Elem.mk i _ rfl gi ?_; conv => whnf)
          | (refine step_kinds 2 ?hk ?_; (case hk => decide +kernel); conv => whnf)
          | (refine step_kinds 3 ?hk ?_; (case hk => decide +kernel); conv => whnf)
          | (refine step_auto 2 ?hk ?_; (case hk => decide +kernel); conv => whnf)
          | (refine step_auto 3 ?hk ?_; (case hk => decide +kernel); conv => whnf)
          | (refine Num.id (by omega) (by omega) ?_; conv => whnf)
          | (refine Case.strI (fun _ => ?_) (fun _ => ?_) <;> conv => whnf)
          | (refine Both.mk ?_ ?_ <;> conv => whnf)
          | (refine Case.dec (fun _ => ?_) (fun _ => ?_) <;> conv => whnf)
          | (refine Case.beqI (fun _ => ?_) (fun _ => ?_) <;> conv => whnf)
          | (refine Case.mk (fun _ => ?_) (fun _ => ?_) <;> conv => whnf)
          | (refine Way.fst ?_; conv => whnf)
        refine ⟨i + 1, ⟨by omega, fun j hj => ?_⟩, by omega, ?_⟩
        · rcases Nat.lt_or_ge j i with h | h
          · exact h2 j h
          · rw [show j = i by omega]; exact hc
        ·
          repeat' first | exact trivial | exact rfl | exact Nat.zero_le _ | exact Nat.zero_lt_succ _ | exact (by decide : (0 : Nat) < 1) | exact (by decide : (1 : Nat) < 4) | exact (by decide : (2 : Nat) < 4) | exact (by decide : (3 : Nat) < 4) | exact (by decide : (1 : Nat) < 2) | exact (by decide : (2 : Nat) < 3) | exact congrArg int (by (try dsimp only); omega) | exact congrArg bool (by (try dsimp only); simp; omega) | (show _ < List.length _; simp; done) | apply And.intro
    · have h9 : i = 9 := by omega
      subst h9
      have hl3 : (List.map tokRow (ofB [c])).length = (ofB [c]).length := List.length_map ..
      by_cases hd : delimB c.toNat = true
      · have e := hs.2.1 h2 hd
        rw [delimB_iff] at hd
        rw [e]
        clear hs h1 h2
        have hmB := c.toNat_lt
        generalize c.toNat = m at *
        have hc4 : (32 < m ∧ m < 48 ∧ m ≠ 34 ∧ m ≠ 39) ∨ (57 < m ∧ m < 65) ∨ (90 < m ∧ m < 97 ∧ m ≠ 95) ∨ (122 < m ∧ m < 127) := by omega
        clear hd
        conv => whnf
        rcases hc4 with hc4 | hc4 | hc4 | hc4
        · have q0 : decide ((m : Int) > 32) = true := decide_eq_true (by omega)
          have q1 : decide ((m : Int) < 127) = true := decide_eq_true (by omega)
          have q2 : ((m : Int) != 34) = true := by simp; omega
          have q3 : ((m : Int) != 39) = true := by simp; omega
          have q4 : ((m : Int) != 95) = true := by simp; omega
          have q5 : decide ((m : Int) ≥ 48) = false := decide_eq_false (by omega)
          have q6 : decide ((m : Int) ≤ 57) = true := decide_eq_true (by omega)
          have q7 : decide ((m : Int) ≥ 97) = false := decide_eq_false (by omega)
          have q8 : decide ((m : Int) ≤ 122) = true := decide_eq_true (by omega)
          have q9 : decide ((m : Int) ≥ 65) = false := decide_eq_false (by omega)
          have q10 : decide ((m : Int) ≤ 90) = true := decide_eq_true (by omega)
          have hm : m < 256 := by omega
          clear hc4
          repeat' first | (refine Case.yes ?_; conv => whnf) | (refine Case.no ?_; conv => whnf) | (rw [q0]; conv => whnf) | (rw [q1]; conv => whnf) | (rw [q2]; conv => whnf) | (rw [q3]; conv => whnf) | (rw [q4]; conv => whnf) | (rw [q5]; conv => whnf) | (rw [q6]; conv => whnf) | (rw [q7]; conv => whnf) | (rw [q8]; conv => whnf) | (rw [q9]; conv => whnf) | (rw [q10]; conv => whnf)
          all_goals
            repeat' first
              | (refine Case.not ?_; conv => whnf)
              | (refine Case.yes ?_; conv => whnf)
              | (refine Case.no ?_; conv => whnf)
              | (refine Case.isTrue (by assumption) ?_; conv => whnf)
              | (refine Case.isFalse (by assumption) ?_; conv => whnf)
              | (refine Case.decT (by assumption) ?_; conv => whnf)
              | (refine Case.decF (by assumption) ?_; conv => whnf)
              | (refine Case.decT (by omega) ?_; conv => whnf)
              | (refine Case.decF (by omega) ?_; conv => whnf)
              | (refine Case.beqT (by omega) ?_; conv => whnf)
              | (refine Case.beqF (by omega) ?_; conv => whnf)
              | (refine Case.strT (by assumption) ?_; conv => whnf)
              | (refine Case.strF (by assumption) ?_; conv => whnf)
              | (refine Case.strF (by simp only [*]; decide) ?_; conv => whnf)
              | (refine Owes.mk toks4_row ?_; conv => whnf)
              | (refine Elem.mk 0 _ rfl rfl ?_; conv => whnf)
              | (refine Case.isTrue (by simp) ?_; conv => whnf)
              | (refine Case.isFalse (by simp) ?_; conv => whnf)
              | (refine step_kinds 2 ?hk ?_; (case hk => decide +kernel); conv => whnf)
              | (refine step_kinds 3 ?hk ?_; (case hk => decide +kernel); conv => whnf)
              | (refine step_auto 2 ?hk ?_; (case hk => decide +kernel); conv => whnf)
              | (refine step_auto 3 ?hk ?_; (case hk => decide +kernel); conv => whnf)
              | (refine Num.id (by omega) (by omega) ?_; conv => whnf)
              | (refine Case.strI (fun _ => ?_) (fun _ => ?_) <;> conv => whnf)
              | (refine Both.mk ?_ ?_ <;> conv => whnf)
              | (refine Case.dec (fun _ => ?_) (fun _ => ?_) <;> conv => whnf)
              | (refine Case.beqI (fun _ => ?_) (fun _ => ?_) <;> conv => whnf)
              | (refine Case.mk (fun _ => ?_) (fun _ => ?_) <;> conv => whnf)
              | (refine Way.fst ?_; conv => whnf)
          all_goals first | exact Fin.isB (by simp) | exact Fin.isB rfl
        · have q0 : decide ((m : Int) > 32) = true := decide_eq_true (by omega)
          have q1 : decide ((m : Int) < 127) = true := decide_eq_true (by omega)
          have q2 : ((m : Int) != 34) = true := by simp; omega
          have q3 : ((m : Int) != 39) = true := by simp; omega
          have q4 : ((m : Int) != 95) = true := by simp; omega
          have q5 : decide ((m : Int) ≥ 48) = true := decide_eq_true (by omega)
          have q6 : decide ((m : Int) ≤ 57) = false := decide_eq_false (by omega)
          have q7 : decide ((m : Int) ≥ 97) = false := decide_eq_false (by omega)
          have q8 : decide ((m : Int) ≤ 122) = true := decide_eq_true (by omega)
          have q9 : decide ((m : Int) ≥ 65) = false := decide_eq_false (by omega)
          have q10 : decide ((m : Int) ≤ 90) = true := decide_eq_true (by omega)
          have hm : m < 256 := by omega
          clear hc4
          repeat' first | (refine Case.yes ?_; conv => whnf) | (refine Case.no ?_; conv => whnf) | (rw [q0]; conv => whnf) | (rw [q1]; conv => whnf) | (rw [q2]; conv => whnf) | (rw [q3]; conv => whnf) | (rw [q4]; conv => whnf) | (rw [q5]; conv => whnf) | (rw [q6]; conv => whnf) | (rw [q7]; conv => whnf) | (rw [q8]; conv => whnf) | (rw [q9]; conv => whnf) | (rw [q10]; conv => whnf)
          all_goals
            repeat' first
              | (refine Case.not ?_; conv => whnf)
              | (refine Case.yes ?_; conv => whnf)
              | (refine Case.no ?_; conv => whnf)
              | (refine Case.isTrue (by assumption) ?_; conv => whnf)
              | (refine Case.isFalse (by assumption) ?_; conv => whnf)
              | (refine Case.decT (by assumption) ?_; conv => whnf)
              | (refine Case.decF (by assumption) ?_; conv => whnf)
              | (refine Case.decT (by omega) ?_; conv => whnf)
              | (refine Case.decF (by omega) ?_; conv => whnf)
              | (refine Case.beqT (by omega) ?_; conv => whnf)
              | (refine Case.beqF (by omega) ?_; conv => whnf)
              | (refine Case.strT (by assumption) ?_; conv => whnf)
              | (refine Case.strF (by assumption) ?_; conv => whnf)
              | (refine Case.strF (by simp only [*]; decide) ?_; conv => whnf)
              | (refine Owes.mk toks4_row ?_; conv => whnf)
              | (refine Elem.mk 0 _ rfl rfl ?_; conv => whnf)
              | (refine Case.isTrue (by simp) ?_; conv => whnf)
              | (refine Case.isFalse (by simp) ?_; conv => whnf)
              | (refine step_kinds 2 ?hk ?_; (case hk => decide +kernel); conv => whnf)
              | (refine step_kinds 3 ?hk ?_; (case hk => decide +kernel); conv => whnf)
              | (refine step_auto 2 ?hk ?_; (case hk => decide +kernel); conv => whnf)
              | (refine step_auto 3 ?hk ?_; (case hk => decide +kernel); conv => whnf)
              | (refine Num.id (by omega) (by omega) ?_; conv => whnf)
              | (refine Case.strI (fun _ => ?_) (fun _ => ?_) <;> conv => whnf)
              | (refine Both.mk ?_ ?_ <;> conv => whnf)
              | (refine Case.dec (fun _ => ?_) (fun _ => ?_) <;> conv => whnf)
              | (refine Case.beqI (fun _ => ?_) (fun _ => ?_) <;> conv => whnf)
              | (refine Case.mk (fun _ => ?_) (fun _ => ?_) <;> conv => whnf)
              | (refine Way.fst ?_; conv => whnf)
          all_goals first | exact Fin.isB (by simp) | exact Fin.isB rfl
        · have q0 : decide ((m : Int) > 32) = true := decide_eq_true (by omega)
          have q1 : decide ((m : Int) < 127) = true := decide_eq_true (by omega)
          have q2 : ((m : Int) != 34) = true := by simp; omega
          have q3 : ((m : Int) != 39) = true := by simp; omega
          have q4 : ((m : Int) != 95) = true := by simp; omega
          have q5 : decide ((m : Int) ≥ 48) = true := decide_eq_true (by omega)
          have q6 : decide ((m : Int) ≤ 57) = false := decide_eq_false (by omega)
          have q7 : decide ((m : Int) ≥ 97) = false := decide_eq_false (by omega)
          have q8 : decide ((m : Int) ≤ 122) = true := decide_eq_true (by omega)
          have q9 : decide ((m : Int) ≥ 65) = true := decide_eq_true (by omega)
          have q10 : decide ((m : Int) ≤ 90) = false := decide_eq_false (by omega)
          have hm : m < 256 := by omega
          clear hc4
          repeat' first | (refine Case.yes ?_; conv => whnf) | (refine Case.no ?_; conv => whnf) | (rw [q0]; conv => whnf) | (rw [q1]; conv => whnf) | (rw [q2]; conv => whnf) | (rw [q3]; conv => whnf) | (rw [q4]; conv => whnf) | (rw [q5]; conv => whnf) | (rw [q6]; conv => whnf) | (rw [q7]; conv => whnf) | (rw [q8]; conv => whnf) | (rw [q9]; conv => whnf) | (rw [q10]; conv => whnf)
          all_goals
            repeat' first
              | (refine Case.not ?_; conv => whnf)
              | (refine Case.yes ?_; conv => whnf)
              | (refine Case.no ?_; conv => whnf)
              | (refine Case.isTrue (by assumption) ?_; conv => whnf)
              | (refine Case.isFalse (by assumption) ?_; conv => whnf)
              | (refine Case.decT (by assumption) ?_; conv => whnf)
              | (refine Case.decF (by assumption) ?_; conv => whnf)
              | (refine Case.decT (by omega) ?_; conv => whnf)
              | (refine Case.decF (by omega) ?_; conv => whnf)
              | (refine Case.beqT (by omega) ?_; conv => whnf)
              | (refine Case.beqF (by omega) ?_; conv => whnf)
              | (refine Case.strT (by assumption) ?_; conv => whnf)
              | (refine Case.strF (by assumption) ?_; conv => whnf)
              | (refine Case.strF (by simp only [*]; decide) ?_; conv => whnf)
              | (refine Owes.mk toks4_row ?_; conv => whnf)
              | (refine Elem.mk 0 _ rfl rfl ?_; conv => whnf)
              | (refine Case.isTrue (by simp) ?_; conv => whnf)
              | (refine Case.isFalse (by simp) ?_; conv => whnf)
              | (refine step_kinds 2 ?hk ?_; (case hk => decide +kernel); conv => whnf)
              | (refine step_kinds 3 ?hk ?_; (case hk => decide +kernel); conv => whnf)
              | (refine step_auto 2 ?hk ?_; (case hk => decide +kernel); conv => whnf)
              | (refine step_auto 3 ?hk ?_; (case hk => decide +kernel); conv => whnf)
              | (refine Num.id (by omega) (by omega) ?_; conv => whnf)
              | (refine Case.strI (fun _ => ?_) (fun _ => ?_) <;> conv => whnf)
              | (refine Both.mk ?_ ?_ <;> conv => whnf)
              | (refine Case.dec (fun _ => ?_) (fun _ => ?_) <;> conv => whnf)
              | (refine Case.beqI (fun _ => ?_) (fun _ => ?_) <;> conv => whnf)
              | (refine Case.mk (fun _ => ?_) (fun _ => ?_) <;> conv => whnf)
              | (refine Way.fst ?_; conv => whnf)
          all_goals first | exact Fin.isB (by simp) | exact Fin.isB rfl
        · have q0 : decide ((m : Int) > 32) = true := decide_eq_true (by omega)
          have q1 : decide ((m : Int) < 127) = true := decide_eq_true (by omega)
          have q2 : ((m : Int) != 34) = true := by simp; omega
          have q3 : ((m : Int) != 39) = true := by simp; omega
          have q4 : ((m : Int) != 95) = true := by simp; omega
          have q5 : decide ((m : Int) ≥ 48) = true := decide_eq_true (by omega)
          have q6 : decide ((m : Int) ≤ 57) = false := decide_eq_false (by omega)
          have q7 : decide ((m : Int) ≥ 97) = true := decide_eq_true (by omega)
          have q8 : decide ((m : Int) ≤ 122) = false := decide_eq_false (by omega)
          have q9 : decide ((m : Int) ≥ 65) = true := decide_eq_true (by omega)
          have q10 : decide ((m : Int) ≤ 90) = false := decide_eq_false (by omega)
          have hm : m < 256 := by omega
          clear hc4
          repeat' first | (refine Case.yes ?_; conv => whnf) | (refine Case.no ?_; conv => whnf) | (rw [q0]; conv => whnf) | (rw [q1]; conv => whnf) | (rw [q2]; conv => whnf) | (rw [q3]; conv => whnf) | (rw [q4]; conv => whnf) | (rw [q5]; conv => whnf) | (rw [q6]; conv => whnf) | (rw [q7]; conv => whnf) | (rw [q8]; conv => whnf) | (rw [q9]; conv => whnf) | (rw [q10]; conv => whnf)
          all_goals
            repeat' first
              | (refine Case.not ?_; conv => whnf)
              | (refine Case.yes ?_; conv => whnf)
              | (refine Case.no ?_; conv => whnf)
              | (refine Case.isTrue (by assumption) ?_; conv => whnf)
              | (refine Case.isFalse (by assumption) ?_; conv => whnf)
              | (refine Case.decT (by assumption) ?_; conv => whnf)
              | (refine Case.decF (by assumption) ?_; conv => whnf)
              | (refine Case.decT (by omega) ?_; conv => whnf)
              | (refine Case.decF (by omega) ?_; conv => whnf)
              | (refine Case.beqT (by omega) ?_; conv => whnf)
              | (refine Case.beqF (by omega) ?_; conv => whnf)
              | (refine Case.strT (by assumption) ?_; conv => whnf)
              | (refine Case.strF (by assumption) ?_; conv => whnf)
              | (refine Case.strF (by simp only [*]; decide) ?_; conv => whnf)
              | (refine Owes.mk toks4_row ?_; conv => whnf)
              | (refine Elem.mk 0 _ rfl rfl ?_; conv => whnf)
              | (refine Case.isTrue (by simp) ?_; conv => whnf)
              | (refine Case.isFalse (by simp) ?_; conv => whnf)
              | (refine step_kinds 2 ?hk ?_; (case hk => decide +kernel); conv => whnf)
              | (refine step_kinds 3 ?hk ?_; (case hk => decide +kernel); conv => whnf)
              | (refine step_auto 2 ?hk ?_; (case hk => decide +kernel); conv => whnf)
              | (refine step_auto 3 ?hk ?_; (case hk => decide +kernel); conv => whnf)
              | (refine Num.id (by omega) (by omega) ?_; conv => whnf)
              | (refine Case.strI (fun _ => ?_) (fun _ => ?_) <;> conv => whnf)
              | (refine Both.mk ?_ ?_ <;> conv => whnf)
              | (refine Case.dec (fun _ => ?_) (fun _ => ?_) <;> conv => whnf)
              | (refine Case.beqI (fun _ => ?_) (fun _ => ?_) <;> conv => whnf)
              | (refine Case.mk (fun _ => ?_) (fun _ => ?_) <;> conv => whnf)
              | (refine Way.fst ?_; conv => whnf)
          all_goals first | exact Fin.isB (by simp) | exact Fin.isB rfl
      · rw [delimB_iff] at hd
        have hl1 := hs.2.2
        clear hs h1 h2
        have hmB := c.toNat_lt
        generalize c.toNat = m at *
        have hc4 : m ≤ 32 ∨ 127 ≤ m ∨ m = 34 ∨ m = 39 ∨ m = 95 ∨ (48 ≤ m ∧ m ≤ 57) ∨ (97 ≤ m ∧ m ≤ 122) ∨ (65 ≤ m ∧ m ≤ 90) := by omega
        clear hd
        conv => whnf
        rcases hc4 with hc4 | hc4 | hc4 | hc4 | hc4 | hc4 | hc4 | hc4
        · have q0 : decide ((m : Int) > 32) = false := decide_eq_false (by omega)
          have hm : m < 256 := by omega
          clear hc4
          repeat' first | (refine Case.yes ?_; conv => whnf) | (refine Case.no ?_; conv => whnf) | (rw [q0]; conv => whnf)
          all_goals
            repeat' first
              | (refine Case.not ?_; conv => whnf)
              | (refine Case.yes ?_; conv => whnf)
              | (refine Case.no ?_; conv => whnf)
              | (refine Case.isTrue (by assumption) ?_; conv => whnf)
              | (refine Case.isFalse (by assumption) ?_; conv => whnf)
              | (refine Case.decT (by assumption) ?_; conv => whnf)
              | (refine Case.decF (by assumption) ?_; conv => whnf)
              | (refine Case.decT (by omega) ?_; conv => whnf)
              | (refine Case.decF (by omega) ?_; conv => whnf)
              | (refine Case.beqT (by omega) ?_; conv => whnf)
              | (refine Case.beqF (by omega) ?_; conv => whnf)
              | (refine Case.strT (by assumption) ?_; conv => whnf)
              | (refine Case.strF (by assumption) ?_; conv => whnf)
              | (refine Case.strF (by simp only [*]; decide) ?_; conv => whnf)
              | (refine Owes.mk toks4_row ?_; conv => whnf)
              | (refine step_kinds 2 ?hk ?_; (case hk => decide +kernel); conv => whnf)
              | (refine step_kinds 3 ?hk ?_; (case hk => decide +kernel); conv => whnf)
              | (refine step_auto 2 ?hk ?_; (case hk => decide +kernel); conv => whnf)
              | (refine step_auto 3 ?hk ?_; (case hk => decide +kernel); conv => whnf)
              | (refine Num.id (by omega) (by omega) ?_; conv => whnf)
              | (refine Case.strI (fun _ => ?_) (fun _ => ?_) <;> conv => whnf)
              | (refine Both.mk ?_ ?_ <;> conv => whnf)
              | (refine Case.dec (fun _ => ?_) (fun _ => ?_) <;> conv => whnf)
              | (refine Case.beqI (fun _ => ?_) (fun _ => ?_) <;> conv => whnf)
              | (refine Case.mk (fun _ => ?_) (fun _ => ?_) <;> conv => whnf)
              | (refine Way.fst ?_; conv => whnf)
          all_goals exact Fin.isB (by simp; omega)
        · have q0 : decide ((m : Int) > 32) = true := decide_eq_true (by omega)
          have q1 : decide ((m : Int) < 127) = false := decide_eq_false (by omega)
          have hm : m < 256 := by omega
          clear hc4
          repeat' first | (refine Case.yes ?_; conv => whnf) | (refine Case.no ?_; conv => whnf) | (rw [q0]; conv => whnf) | (rw [q1]; conv => whnf)
          all_goals
            repeat' first
              | (refine Case.not ?_; conv => whnf)
              | (refine Case.yes ?_; conv => whnf)
              | (refine Case.no ?_; conv => whnf)
              | (refine Case.isTrue (by assumption) ?_; conv => whnf)
              | (refine Case.isFalse (by assumption) ?_; conv => whnf)
              | (refine Case.decT (by assumption) ?_; conv => whnf)
              | (refine Case.decF (by assumption) ?_; conv => whnf)
              | (refine Case.decT (by omega) ?_; conv => whnf)
              | (refine Case.decF (by omega) ?_; conv => whnf)
              | (refine Case.beqT (by omega) ?_; conv => whnf)
              | (refine Case.beqF (by omega) ?_; conv => whnf)
              | (refine Case.strT (by assumption) ?_; conv => whnf)
              | (refine Case.strF (by assumption) ?_; conv => whnf)
              | (refine Case.strF (by simp only [*]; decide) ?_; conv => whnf)
              | (refine Owes.mk toks4_row ?_; conv => whnf)
              | (refine step_kinds 2 ?hk ?_; (case hk => decide +kernel); conv => whnf)
              | (refine step_kinds 3 ?hk ?_; (case hk => decide +kernel); conv => whnf)
              | (refine step_auto 2 ?hk ?_; (case hk => decide +kernel); conv => whnf)
              | (refine step_auto 3 ?hk ?_; (case hk => decide +kernel); conv => whnf)
              | (refine Num.id (by omega) (by omega) ?_; conv => whnf)
              | (refine Case.strI (fun _ => ?_) (fun _ => ?_) <;> conv => whnf)
              | (refine Both.mk ?_ ?_ <;> conv => whnf)
              | (refine Case.dec (fun _ => ?_) (fun _ => ?_) <;> conv => whnf)
              | (refine Case.beqI (fun _ => ?_) (fun _ => ?_) <;> conv => whnf)
              | (refine Case.mk (fun _ => ?_) (fun _ => ?_) <;> conv => whnf)
              | (refine Way.fst ?_; conv => whnf)
          all_goals exact Fin.isB (by simp; omega)
        · have q0 : decide ((m : Int) > 32) = true := decide_eq_true (by omega)
          have q1 : decide ((m : Int) < 127) = true := decide_eq_true (by omega)
          have q2 : ((m : Int) != 34) = false := by simp; omega
          have hm : m < 256 := by omega
          clear hc4
          repeat' first | (refine Case.yes ?_; conv => whnf) | (refine Case.no ?_; conv => whnf) | (rw [q0]; conv => whnf) | (rw [q1]; conv => whnf) | (rw [q2]; conv => whnf)
          all_goals
            repeat' first
              | (refine Case.not ?_; conv => whnf)
              | (refine Case.yes ?_; conv => whnf)
              | (refine Case.no ?_; conv => whnf)
              | (refine Case.isTrue (by assumption) ?_; conv => whnf)
              | (refine Case.isFalse (by assumption) ?_; conv => whnf)
              | (refine Case.decT (by assumption) ?_; conv => whnf)
              | (refine Case.decF (by assumption) ?_; conv => whnf)
              | (refine Case.decT (by omega) ?_; conv => whnf)
              | (refine Case.decF (by omega) ?_; conv => whnf)
              | (refine Case.beqT (by omega) ?_; conv => whnf)
              | (refine Case.beqF (by omega) ?_; conv => whnf)
              | (refine Case.strT (by assumption) ?_; conv => whnf)
              | (refine Case.strF (by assumption) ?_; conv => whnf)
              | (refine Case.strF (by simp only [*]; decide) ?_; conv => whnf)
              | (refine Owes.mk toks4_row ?_; conv => whnf)
              | (refine step_kinds 2 ?hk ?_; (case hk => decide +kernel); conv => whnf)
              | (refine step_kinds 3 ?hk ?_; (case hk => decide +kernel); conv => whnf)
              | (refine step_auto 2 ?hk ?_; (case hk => decide +kernel); conv => whnf)
              | (refine step_auto 3 ?hk ?_; (case hk => decide +kernel); conv => whnf)
              | (refine Num.id (by omega) (by omega) ?_; conv => whnf)
              | (refine Case.strI (fun _ => ?_) (fun _ => ?_) <;> conv => whnf)
              | (refine Both.mk ?_ ?_ <;> conv => whnf)
              | (refine Case.dec (fun _ => ?_) (fun _ => ?_) <;> conv => whnf)
              | (refine Case.beqI (fun _ => ?_) (fun _ => ?_) <;> conv => whnf)
              | (refine Case.mk (fun _ => ?_) (fun _ => ?_) <;> conv => whnf)
              | (refine Way.fst ?_; conv => whnf)
          all_goals exact Fin.isB (by simp; omega)
        · have q0 : decide ((m : Int) > 32) = true := decide_eq_true (by omega)
          have q1 : decide ((m : Int) < 127) = true := decide_eq_true (by omega)
          have q2 : ((m : Int) != 34) = true := by simp; omega
          have q3 : ((m : Int) != 39) = false := by simp; omega
          have hm : m < 256 := by omega
          clear hc4
          repeat' first | (refine Case.yes ?_; conv => whnf) | (refine Case.no ?_; conv => whnf) | (rw [q0]; conv => whnf) | (rw [q1]; conv => whnf) | (rw [q2]; conv => whnf) | (rw [q3]; conv => whnf)
          all_goals
            repeat' first
              | (refine Case.not ?_; conv => whnf)
              | (refine Case.yes ?_; conv => whnf)
              | (refine Case.no ?_; conv => whnf)
              | (refine Case.isTrue (by assumption) ?_; conv => whnf)
              | (refine Case.isFalse (by assumption) ?_; conv => whnf)
              | (refine Case.decT (by assumption) ?_; conv => whnf)
              | (refine Case.decF (by assumption) ?_; conv => whnf)
              | (refine Case.decT (by omega) ?_; conv => whnf)
              | (refine Case.decF (by omega) ?_; conv => whnf)
              | (refine Case.beqT (by omega) ?_; conv => whnf)
              | (refine Case.beqF (by omega) ?_; conv => whnf)
              | (refine Case.strT (by assumption) ?_; conv => whnf)
              | (refine Case.strF (by assumption) ?_; conv => whnf)
              | (refine Case.strF (by simp only [*]; decide) ?_; conv => whnf)
              | (refine Owes.mk toks4_row ?_; conv => whnf)
              | (refine step_kinds 2 ?hk ?_; (case hk => decide +kernel); conv => whnf)
              | (refine step_kinds 3 ?hk ?_; (case hk => decide +kernel); conv => whnf)
              | (refine step_auto 2 ?hk ?_; (case hk => decide +kernel); conv => whnf)
              | (refine step_auto 3 ?hk ?_; (case hk => decide +kernel); conv => whnf)
              | (refine Num.id (by omega) (by omega) ?_; conv => whnf)
              | (refine Case.strI (fun _ => ?_) (fun _ => ?_) <;> conv => whnf)
              | (refine Both.mk ?_ ?_ <;> conv => whnf)
              | (refine Case.dec (fun _ => ?_) (fun _ => ?_) <;> conv => whnf)
              | (refine Case.beqI (fun _ => ?_) (fun _ => ?_) <;> conv => whnf)
              | (refine Case.mk (fun _ => ?_) (fun _ => ?_) <;> conv => whnf)
              | (refine Way.fst ?_; conv => whnf)
          all_goals exact Fin.isB (by simp; omega)
        · have q0 : decide ((m : Int) > 32) = true := decide_eq_true (by omega)
          have q1 : decide ((m : Int) < 127) = true := decide_eq_true (by omega)
          have q2 : ((m : Int) != 34) = true := by simp; omega
          have q3 : ((m : Int) != 39) = true := by simp; omega
          have q4 : ((m : Int) != 95) = false := by simp; omega
          have hm : m < 256 := by omega
          clear hc4
          repeat' first | (refine Case.yes ?_; conv => whnf) | (refine Case.no ?_; conv => whnf) | (rw [q0]; conv => whnf) | (rw [q1]; conv => whnf) | (rw [q2]; conv => whnf) | (rw [q3]; conv => whnf) | (rw [q4]; conv => whnf)
          all_goals
            repeat' first
              | (refine Case.not ?_; conv => whnf)
              | (refine Case.yes ?_; conv => whnf)
              | (refine Case.no ?_; conv => whnf)
              | (refine Case.isTrue (by assumption) ?_; conv => whnf)
              | (refine Case.isFalse (by assumption) ?_; conv => whnf)
              | (refine Case.decT (by assumption) ?_; conv => whnf)
              | (refine Case.decF (by assumption) ?_; conv => whnf)
              | (refine Case.decT (by omega) ?_; conv => whnf)
              | (refine Case.decF (by omega) ?_; conv => whnf)
              | (refine Case.beqT (by omega) ?_; conv => whnf)
              | (refine Case.beqF (by omega) ?_; conv => whnf)
              | (refine Case.strT (by assumption) ?_; conv => whnf)
              | (refine Case.strF (by assumption) ?_; conv => whnf)
              | (refine Case.strF (by simp only [*]; decide) ?_; conv => whnf)
              | (refine Owes.mk toks4_row ?_; conv => whnf)
              | (refine step_kinds 2 ?hk ?_; (case hk => decide +kernel); conv => whnf)
              | (refine step_kinds 3 ?hk ?_; (case hk => decide +kernel); conv => whnf)
              | (refine step_auto 2 ?hk ?_; (case hk => decide +kernel); conv => whnf)
              | (refine step_auto 3 ?hk ?_; (case hk => decide +kernel); conv => whnf)
              | (refine Num.id (by omega) (by omega) ?_; conv => whnf)
              | (refine Case.strI (fun _ => ?_) (fun _ => ?_) <;> conv => whnf)
              | (refine Both.mk ?_ ?_ <;> conv => whnf)
              | (refine Case.dec (fun _ => ?_) (fun _ => ?_) <;> conv => whnf)
              | (refine Case.beqI (fun _ => ?_) (fun _ => ?_) <;> conv => whnf)
              | (refine Case.mk (fun _ => ?_) (fun _ => ?_) <;> conv => whnf)
              | (refine Way.fst ?_; conv => whnf)
          all_goals exact Fin.isB (by simp; omega)
        · have q0 : decide ((m : Int) > 32) = true := decide_eq_true (by omega)
          have q1 : decide ((m : Int) < 127) = true := decide_eq_true (by omega)
          have q2 : ((m : Int) != 34) = true := by simp; omega
          have q3 : ((m : Int) != 39) = true := by simp; omega
          have q4 : ((m : Int) != 95) = true := by simp; omega
          have q5 : decide ((m : Int) ≥ 48) = true := decide_eq_true (by omega)
          have q6 : decide ((m : Int) ≤ 57) = true := decide_eq_true (by omega)
          have hm : m < 256 := by omega
          clear hc4
          repeat' first | (refine Case.yes ?_; conv => whnf) | (refine Case.no ?_; conv => whnf) | (rw [q0]; conv => whnf) | (rw [q1]; conv => whnf) | (rw [q2]; conv => whnf) | (rw [q3]; conv => whnf) | (rw [q4]; conv => whnf) | (rw [q5]; conv => whnf) | (rw [q6]; conv => whnf)
          all_goals
            repeat' first
              | (refine Case.not ?_; conv => whnf)
              | (refine Case.yes ?_; conv => whnf)
              | (refine Case.no ?_; conv => whnf)
              | (refine Case.isTrue (by assumption) ?_; conv => whnf)
              | (refine Case.isFalse (by assumption) ?_; conv => whnf)
              | (refine Case.decT (by assumption) ?_; conv => whnf)
              | (refine Case.decF (by assumption) ?_; conv => whnf)
              | (refine Case.decT (by omega) ?_; conv => whnf)
              | (refine Case.decF (by omega) ?_; conv => whnf)
              | (refine Case.beqT (by omega) ?_; conv => whnf)
              | (refine Case.beqF (by omega) ?_; conv => whnf)
              | (refine Case.strT (by assumption) ?_; conv => whnf)
              | (refine Case.strF (by assumption) ?_; conv => whnf)
              | (refine Case.strF (by simp only [*]; decide) ?_; conv => whnf)
              | (refine Owes.mk toks4_row ?_; conv => whnf)
              | (refine step_kinds 2 ?hk ?_; (case hk => decide +kernel); conv => whnf)
              | (refine step_kinds 3 ?hk ?_; (case hk => decide +kernel); conv => whnf)
              | (refine step_auto 2 ?hk ?_; (case hk => decide +kernel); conv => whnf)
              | (refine step_auto 3 ?hk ?_; (case hk => decide +kernel); conv => whnf)
              | (refine Num.id (by omega) (by omega) ?_; conv => whnf)
              | (refine Case.strI (fun _ => ?_) (fun _ => ?_) <;> conv => whnf)
              | (refine Both.mk ?_ ?_ <;> conv => whnf)
              | (refine Case.dec (fun _ => ?_) (fun _ => ?_) <;> conv => whnf)
              | (refine Case.beqI (fun _ => ?_) (fun _ => ?_) <;> conv => whnf)
              | (refine Case.mk (fun _ => ?_) (fun _ => ?_) <;> conv => whnf)
              | (refine Way.fst ?_; conv => whnf)
          all_goals exact Fin.isB (by simp; omega)
        · have q0 : decide ((m : Int) > 32) = true := decide_eq_true (by omega)
          have q1 : decide ((m : Int) < 127) = true := decide_eq_true (by omega)
          have q2 : ((m : Int) != 34) = true := by simp; omega
          have q3 : ((m : Int) != 39) = true := by simp; omega
          have q4 : ((m : Int) != 95) = true := by simp; omega
          have q5 : decide ((m : Int) ≥ 48) = true := decide_eq_true (by omega)
          have q6 : decide ((m : Int) ≤ 57) = false := decide_eq_false (by omega)
          have q7 : decide ((m : Int) ≥ 97) = true := decide_eq_true (by omega)
          have q8 : decide ((m : Int) ≤ 122) = true := decide_eq_true (by omega)
          have hm : m < 256 := by omega
          clear hc4
          repeat' first | (refine Case.yes ?_; conv => whnf) | (refine Case.no ?_; conv => whnf) | (rw [q0]; conv => whnf) | (rw [q1]; conv => whnf) | (rw [q2]; conv => whnf) | (rw [q3]; conv => whnf) | (rw [q4]; conv => whnf) | (rw [q5]; conv => whnf) | (rw [q6]; conv => whnf) | (rw [q7]; conv => whnf) | (rw [q8]; conv => whnf)
          all_goals
            repeat' first
              | (refine Case.not ?_; conv => whnf)
              | (refine Case.yes ?_; conv => whnf)
              | (refine Case.no ?_; conv => whnf)
              | (refine Case.isTrue (by assumption) ?_; conv => whnf)
              | (refine Case.isFalse (by assumption) ?_; conv => whnf)
              | (refine Case.decT (by assumption) ?_; conv => whnf)
              | (refine Case.decF (by assumption) ?_; conv => whnf)
              | (refine Case.decT (by omega) ?_; conv => whnf)
              | (refine Case.decF (by omega) ?_; conv => whnf)
              | (refine Case.beqT (by omega) ?_; conv => whnf)
              | (refine Case.beqF (by omega) ?_; conv => whnf)
              | (refine Case.strT (by assumption) ?_; conv => whnf)
              | (refine Case.strF (by assumption) ?_; conv => whnf)
              | (refine Case.strF (by simp only [*]; decide) ?_; conv => whnf)
              | (refine Owes.mk toks4_row ?_; conv => whnf)
              | (refine step_kinds 2 ?hk ?_; (case hk => decide +kernel); conv => whnf)
              | (refine step_kinds 3 ?hk ?_; (case hk => decide +kernel); conv => whnf)
              | (refine step_auto 2 ?hk ?_; (case hk => decide +kernel); conv => whnf)
              | (refine step_auto 3 ?hk ?_; (case hk => decide +kernel); conv => whnf)
              | (refine Num.id (by omega) (by omega) ?_; conv => whnf)
              | (refine Case.strI (fun _ => ?_) (fun _ => ?_) <;> conv => whnf)
              | (refine Both.mk ?_ ?_ <;> conv => whnf)
              | (refine Case.dec (fun _ => ?_) (fun _ => ?_) <;> conv => whnf)
              | (refine Case.beqI (fun _ => ?_) (fun _ => ?_) <;> conv => whnf)
              | (refine Case.mk (fun _ => ?_) (fun _ => ?_) <;> conv => whnf)
              | (refine Way.fst ?_; conv => whnf)
          all_goals exact Fin.isB (by simp; omega)
        · have q0 : decide ((m : Int) > 32) = true := decide_eq_true (by omega)
          have q1 : decide ((m : Int) < 127) = true := decide_eq_true (by omega)
          have q2 : ((m : Int) != 34) = true := by simp; omega
          have q3 : ((m : Int) != 39) = true := by simp; omega
          have q4 : ((m : Int) != 95) = true := by simp; omega
          have q5 : decide ((m : Int) ≥ 48) = true := decide_eq_true (by omega)
          have q6 : decide ((m : Int) ≤ 57) = false := decide_eq_false (by omega)
          have q7 : decide ((m : Int) ≥ 97) = false := decide_eq_false (by omega)
          have q8 : decide ((m : Int) ≤ 122) = true := decide_eq_true (by omega)
          have q9 : decide ((m : Int) ≥ 65) = true := decide_eq_true (by omega)
          have q10 : decide ((m : Int) ≤ 90) = true := decide_eq_true (by omega)
          have hm : m < 256 := by omega
          clear hc4
          repeat' first | (refine Case.yes ?_; conv => whnf) | (refine Case.no ?_; conv => whnf) | (rw [q0]; conv => whnf) | (rw [q1]; conv => whnf) | (rw [q2]; conv => whnf) | (rw [q3]; conv => whnf) | (rw [q4]; conv => whnf) | (rw [q5]; conv => whnf) | (rw [q6]; conv => whnf) | (rw [q7]; conv => whnf) | (rw [q8]; conv => whnf) | (rw [q9]; conv => whnf) | (rw [q10]; conv => whnf)
          all_goals
            repeat' first
              | (refine Case.not ?_; conv => whnf)
              | (refine Case.yes ?_; conv => whnf)
              | (refine Case.no ?_; conv => whnf)
              | (refine Case.isTrue (by assumption) ?_; conv => whnf)
              | (refine Case.isFalse (by assumption) ?_; conv => whnf)
              | (refine Case.decT (by assumption) ?_; conv => whnf)
              | (refine Case.decF (by assumption) ?_; conv => whnf)
              | (refine Case.decT (by omega) ?_; conv => whnf)
              | (refine Case.decF (by omega) ?_; conv => whnf)
              | (refine Case.beqT (by omega) ?_; conv => whnf)
              | (refine Case.beqF (by omega) ?_; conv => whnf)
              | (refine Case.strT (by assumption) ?_; conv => whnf)
              | (refine Case.strF (by assumption) ?_; conv => whnf)
              | (refine Case.strF (by simp only [*]; decide) ?_; conv => whnf)
              | (refine Owes.mk toks4_row ?_; conv => whnf)
              | (refine step_kinds 2 ?hk ?_; (case hk => decide +kernel); conv => whnf)
              | (refine step_kinds 3 ?hk ?_; (case hk => decide +kernel); conv => whnf)
              | (refine step_auto 2 ?hk ?_; (case hk => decide +kernel); conv => whnf)
              | (refine step_auto 3 ?hk ?_; (case hk => decide +kernel); conv => whnf)
              | (refine Num.id (by omega) (by omega) ?_; conv => whnf)
              | (refine Case.strI (fun _ => ?_) (fun _ => ?_) <;> conv => whnf)
              | (refine Both.mk ?_ ?_ <;> conv => whnf)
              | (refine Case.dec (fun _ => ?_) (fun _ => ?_) <;> conv => whnf)
              | (refine Case.beqI (fun _ => ?_) (fun _ => ?_) <;> conv => whnf)
              | (refine Case.mk (fun _ => ?_) (fun _ => ?_) <;> conv => whnf)
              | (refine Way.fst ?_; conv => whnf)
          all_goals exact Fin.isB (by simp; omega)
end Go.Proofs.YtdenafhfngnlfaaDoor.Aw
