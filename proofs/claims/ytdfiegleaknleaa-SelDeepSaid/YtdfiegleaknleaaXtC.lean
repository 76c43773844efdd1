/- SelDeep: its walk. -/
import Derived.Test.YtdfiegleaknleaaXtB
import Derived.Test.YtdfiegleaknleaaXlR
namespace Go.Proofs.Ytdfiegleaknleaa.Aw
open Go Go.RowKit Go.Lib
set_option linter.unusedVariables false
set_option linter.unusedSimpArgs false
set_option maxRecDepth 100000
def boolsF (l : List Bool) : List (List F) := l.map fun b => [.v (.bool b)]
theorem boolsF_row {l : List Bool} : ∀ e ∈ boolsF l, e.length = 1 := fun e h => by
  obtain ⟨p, _, rfl⟩ := List.mem_map.1 h
  rfl
theorem deepS_len (bl : List Bool) : (deepS bl).length = 1 := by cases bl <;> rfl
theorem boolsF_get {l : List Bool} {i : Nat} {b : Bool} (h : l[i]? = some b) : (boolsF l)[i]? = some [.v (.bool b)] := by simp [boolsF, h]
def upB (l : List Bool) (i : Nat) : List Bool := (l.take i).reverse
theorem upB_len {l : List Bool} {i : Nat} (h : i ≤ l.length) : (upB l i).length = i := by simp [upB]; omega
theorem upB_next {l : List Bool} {i : Nat} {b : Bool} (h : l[i]? = some b) : upB l (i + 1) = b :: upB l i := by
  unfold upB
  rw [List.take_add_one, h]
  simp
theorem upB_get {l : List Bool} {n j : Nat} (hn : n ≤ l.length) (hj : j < n) : (upB l n)[j]? = l[n - 1 - j]? := by
  unfold upB
  rw [List.getElem?_reverse (by simp; omega)]
  simp only [List.length_take]
  rw [show min n l.length - 1 - j = n - 1 - j by omega, List.getElem?_take]
  rw [if_pos (by omega)]
theorem add_ok {a b : ByteArray} (ha : a.size ≤ 1000000) (hb : b.size ≤ 1000000) : a.size + b.size ≤ 9223372036854775807 := by omega
set_option maxHeartbeats 4000000 in
theorem selDeep_spec (n : Int) (is : List Bool) (hn : -9223372036854775808 ≤ n ∧ n < 9223372036854775808) : Pure 5 [int n, .f (.sl (boolsF is))] (bool true) := by
  have hlen : (boolsF is).length = is.length := by simp [boolsF]
  refine ⟨trivial, spec_mk tab_ok Try.func5 (by rfl) rfl ?_⟩
  conv => whnf
  repeat' first
    | (refine Case.not ?_; conv => whnf)
    | (refine Case.yes ?_; conv => whnf)
    | (refine Case.no ?_; conv => whnf)
    | (refine Case.isTrue (by assumption) ?_; conv => whnf)
    | (refine Case.isFalse (by assumption) ?_; conv => whnf)
    | (refine Case.decT (by assumption) ?_; conv => whnf)
    | (refine Case.decF (by assumption) ?_; conv => whnf)
    | (refine Case.decT (by omega) ?_; conv => whnf)
    | (refine Case.decF (by omega) ?_; conv => whnf)
    | (refine Case.beqT (by omega) ?_; conv => whnf)
    | (refine Case.beqF (by omega) ?_; conv => whnf)
    | (refine Case.strT (by assumption) ?_; conv => whnf)
    | (refine Case.strF (by assumption) ?_; conv => whnf)
    | (refine Case.strF (by simp only [*]; decide) ?_; conv => whnf)
    | (refine alive_spec.call rfl ?_; conv => whnf)
    | (refine step_kinds 2 ?hk ?_; (case hk => decide +kernel); conv => whnf)
    | (refine step_kinds 3 ?hk ?_; (case hk => decide +kernel); conv => whnf)
    | (refine Num.id (by omega) (by omega) ?_; conv => whnf)
    | (refine Case.strI (fun _ => ?_) (fun _ => ?_) <;> conv => whnf)
    | (refine Both.mk ?_ ?_ <;> conv => whnf)
    | (refine Case.dec (fun _ => ?_) (fun _ => ?_) <;> conv => whnf)
    | (refine Case.beqI (fun _ => ?_) (fun _ => ?_) <;> conv => whnf)
    | (refine Case.mk (fun _ => ?_) (fun _ => ?_) <;> conv => whnf)
  · exact Fin.isB rfl
  · exact Fin.isB rfl
  · exact Fin.isB rfl
  · obtain ⟨n, rfl⟩ : ∃ m : Nat, n = m := ⟨n.toNat, by omega⟩
    have hn20 : n ≤ 20 := by omega
    have hni : n ≤ is.length := by omega
    refine step_loop tab_ok (fun i : Nat => padK [int n, .f (.sl (boolsF is)), .junk, .junk, .junk, .junk, .str (deepB (upB is i)), int i] 127) (fun _ => []) 0 (fun i => i ≤ n) (fun i => n - i) 0 (by omega) (fun _ => rfl) ?_ ?_
    ·
      repeat' first | exact trivial | exact rfl | exact Nat.zero_le _ | exact Nat.zero_lt_succ _ | exact (by decide : (0 : Nat) < 1) | exact (by decide : (1 : Nat) < 4) | exact (by decide : (2 : Nat) < 4) | exact (by decide : (3 : Nat) < 4) | exact (by decide : (1 : Nat) < 2) | exact (by decide : (2 : Nat) < 3) | exact congrArg int (by (try dsimp only); omega) | exact congrArg bool (by (try dsimp only); simp; omega) | (show _ < List.length _; simp; done) | apply And.intro
    · intro i hi
      have hz : (deepB (upB is i)).size ≤ 1000000 := by rw [deepB_size, upB_len (by omega)]; omega
      conv => whnf
      refine Case.dec (fun h0 => ?_) (fun h0 => ?_)
      · obtain ⟨b, hb⟩ : ∃ b, is[i]? = some b := ⟨_, List.getElem?_eq_getElem (by omega)⟩
        have e := upB_next hb
        have hz2 : ∀ x : ByteArray, x.size ≤ 10 → (x ++ deepB (upB is i)).size ≤ 1000000 := fun x hx => by
          rw [ByteArray.size_append, deepB_size, upB_len (by omega)]; omega
        cases b
        · conv => whnf
          repeat' first
            | (refine Case.not ?_; conv => whnf)
            | (refine Case.yes ?_; conv => whnf)
            | (refine Case.no ?_; conv => whnf)
            | (refine Case.isTrue (by assumption) ?_; conv => whnf)
            | (refine Case.isFalse (by assumption) ?_; conv => whnf)
            | (refine Case.decT (by assumption) ?_; conv => whnf)
            | (refine Case.decF (by assumption) ?_; conv => whnf)
            | (refine Case.decT (by omega) ?_; conv => whnf)
            | (refine Case.decF (by omega) ?_; conv => whnf)
            | (refine Case.beqT (by omega) ?_; conv => whnf)
            | (refine Case.beqF (by omega) ?_; conv => whnf)
            | (refine Case.strT (by assumption) ?_; conv => whnf)
            | (refine Case.strF (by assumption) ?_; conv => whnf)
            | (refine Case.strF (by simp only [*]; decide) ?_; conv => whnf)
            | (refine Owes.mk boolsF_row ?_; conv => whnf)
            | (refine Elem.mk i _ rfl (boolsF_get hb) ?_; conv => whnf)
            | (refine Owes.mk (add_ok (by decide) hz) ?_; conv => whnf)
            | (refine Owes.mk (add_ok (hz2 _ (by decide)) (by decide)) ?_; conv => whnf)
            | (refine step_kinds 2 ?hk ?_; (case hk => decide +kernel); conv => whnf)
            | (refine step_kinds 3 ?hk ?_; (case hk => decide +kernel); conv => whnf)
            | (refine Num.id (by omega) (by omega) ?_; conv => whnf)
            | (refine Case.strI (fun _ => ?_) (fun _ => ?_) <;> conv => whnf)
            | (refine Both.mk ?_ ?_ <;> conv => whnf)
            | (refine Case.dec (fun _ => ?_) (fun _ => ?_) <;> conv => whnf)
            | (refine Case.beqI (fun _ => ?_) (fun _ => ?_) <;> conv => whnf)
            | (refine Case.mk (fun _ => ?_) (fun _ => ?_) <;> conv => whnf)
          refine ⟨i + 1, by omega, by omega, ?_⟩
          rw [e]
          repeat' first | exact trivial | exact rfl | exact Nat.zero_le _ | exact Nat.zero_lt_succ _ | exact (by decide : (0 : Nat) < 1) | exact (by decide : (1 : Nat) < 4) | exact (by decide : (2 : Nat) < 4) | exact (by decide : (3 : Nat) < 4) | exact (by decide : (1 : Nat) < 2) | exact (by decide : (2 : Nat) < 3) | exact congrArg int (by (try dsimp only); omega) | exact congrArg bool (by (try dsimp only); simp; omega) | (show _ < List.length _; simp; done) | apply And.intro
        · conv => whnf
          repeat' first
            | (refine Case.not ?_; conv => whnf)
            | (refine Case.yes ?_; conv => whnf)
            | (refine Case.no ?_; conv => whnf)
            | (refine Case.isTrue (by assumption) ?_; conv => whnf)
            | (refine Case.isFalse (by assumption) ?_; conv => whnf)
            | (refine Case.decT (by assumption) ?_; conv => whnf)
            | (refine Case.decF (by assumption) ?_; conv => whnf)
            | (refine Case.decT (by omega) ?_; conv => whnf)
            | (refine Case.decF (by omega) ?_; conv => whnf)
            | (refine Case.beqT (by omega) ?_; conv => whnf)
            | (refine Case.beqF (by omega) ?_; conv => whnf)
            | (refine Case.strT (by assumption) ?_; conv => whnf)
            | (refine Case.strF (by assumption) ?_; conv => whnf)
            | (refine Case.strF (by simp only [*]; decide) ?_; conv => whnf)
            | (refine Owes.mk boolsF_row ?_; conv => whnf)
            | (refine Elem.mk i _ rfl (boolsF_get hb) ?_; conv => whnf)
            | (refine Owes.mk (add_ok (by decide) hz) ?_; conv => whnf)
            | (refine Owes.mk (add_ok (hz2 _ (by decide)) (by decide)) ?_; conv => whnf)
            | (refine step_kinds 2 ?hk ?_; (case hk => decide +kernel); conv => whnf)
            | (refine step_kinds 3 ?hk ?_; (case hk => decide +kernel); conv => whnf)
            | (refine Num.id (by omega) (by omega) ?_; conv => whnf)
            | (refine Case.strI (fun _ => ?_) (fun _ => ?_) <;> conv => whnf)
            | (refine Both.mk ?_ ?_ <;> conv => whnf)
            | (refine Case.dec (fun _ => ?_) (fun _ => ?_) <;> conv => whnf)
            | (refine Case.beqI (fun _ => ?_) (fun _ => ?_) <;> conv => whnf)
            | (refine Case.mk (fun _ => ?_) (fun _ => ?_) <;> conv => whnf)
          refine ⟨i + 1, by omega, by omega, ?_⟩
          rw [e]
          repeat' first | exact trivial | exact rfl | exact Nat.zero_le _ | exact Nat.zero_lt_succ _ | exact (by decide : (0 : Nat) < 1) | exact (by decide : (1 : Nat) < 4) | exact (by decide : (2 : Nat) < 4) | exact (by decide : (3 : Nat) < 4) | exact (by decide : (1 : Nat) < 2) | exact (by decide : (2 : Nat) < 3) | exact congrArg int (by (try dsimp only); omega) | exact congrArg bool (by (try dsimp only); simp; omega) | (show _ < List.length _; simp; done) | apply And.intro
      · have hin : i = n := by omega
        subst hin
        have hbl := upB_len hni
        generalize hB : upB is i = bl at *
        have ho := of_spec (deepB bl) (by rw [deepB_size]; omega)
        have hp := parse_spec (ofT_fit (deepB bl) (by rw [deepB_size]; omega))
        have hdp := deep_parse bl (by omega)
        rw [deep_tokens] at ho hp
        by_cases h8 : bl.length ≤ 8
        · rw [if_pos h8] at hdp
          rw [hdp] at hp
          conv => whnf
          repeat' first
            | (refine Case.not ?_; conv => whnf)
            | (refine Case.yes ?_; conv => whnf)
            | (refine Case.no ?_; conv => whnf)
            | (refine Case.isTrue (by assumption) ?_; conv => whnf)
            | (refine Case.isFalse (by assumption) ?_; conv => whnf)
            | (refine Case.decT (by assumption) ?_; conv => whnf)
            | (refine Case.decF (by assumption) ?_; conv => whnf)
            | (refine Case.decT (by omega) ?_; conv => whnf)
            | (refine Case.decF (by omega) ?_; conv => whnf)
            | (refine Case.beqT (by omega) ?_; conv => whnf)
            | (refine Case.beqF (by omega) ?_; conv => whnf)
            | (refine Case.strT (by assumption) ?_; conv => whnf)
            | (refine Case.strF (by assumption) ?_; conv => whnf)
            | (refine Case.strF (by simp only [*]; decide) ?_; conv => whnf)
            | (refine ho.call ?_; conv => whnf)
            | (refine hp.call ?_; conv => whnf)
            | (refine step_kinds 2 ?hk ?_; (case hk => decide +kernel); conv => whnf)
            | (refine step_kinds 3 ?hk ?_; (case hk => decide +kernel); conv => whnf)
            | (refine Num.id (by omega) (by omega) ?_; conv => whnf)
            | (refine Case.strI (fun _ => ?_) (fun _ => ?_) <;> conv => whnf)
            | (refine Both.mk ?_ ?_ <;> conv => whnf)
            | (refine Case.dec (fun _ => ?_) (fun _ => ?_) <;> conv => whnf)
            | (refine Case.beqI (fun _ => ?_) (fun _ => ?_) <;> conv => whnf)
            | (refine Case.mk (fun _ => ?_) (fun _ => ?_) <;> conv => whnf)
          refine step_loop tab_ok (fun j : Nat => padK [int i, .f (.sl (boolsF is)), .junk, .junk, .junk, .junk, .junk, .junk, .junk, .f (.sl ((deepS (bl.drop j)).map selRow)), .junk, int ((i : Int) - 1 - j)] 127) (fun _ => []) 0 (fun j => j ≤ i) (fun j => i - j) 0 (by omega) (fun _ => rfl) ?_ ?_
          ·
            repeat' first | exact trivial | exact rfl | exact Nat.zero_le _ | exact Nat.zero_lt_succ _ | exact (by decide : (0 : Nat) < 1) | exact (by decide : (1 : Nat) < 4) | exact (by decide : (2 : Nat) < 4) | exact (by decide : (3 : Nat) < 4) | exact (by decide : (1 : Nat) < 2) | exact (by decide : (2 : Nat) < 3) | exact congrArg int (by (try dsimp only); omega) | exact congrArg bool (by (try dsimp only); simp; omega) | (show _ < List.length _; simp; done) | apply And.intro
          · intro j hj
            rcases Nat.lt_or_ge j i with hji | hji
            · obtain ⟨b, hb⟩ : ∃ b, bl[j]? = some b := ⟨_, List.getElem?_eq_getElem (by omega)⟩
              have hb2 : is[i - 1 - j]? = some b := by rw [← upB_get hni hji, hB]; exact hb
              have hd : bl.drop j = b :: bl.drop (j + 1) := drop_cons' hb
              have hS : deepS (bl.drop j) = [[(0, { pss := [{ kind := if b then 8 else 7, list := (deepS (bl.drop (j + 1))).map selRow }] })]] := by rw [hd]; rfl
              have hl1 : (((deepS (bl.drop (j + 1))).map selRow).length : Int) = 1 := by rw [List.length_map, deepS_len]; rfl
              rw [hS]
              cases b
              · conv => whnf
                repeat' first
                  | (refine Case.not ?_; conv => whnf)
                  | (refine Case.yes ?_; conv => whnf)
                  | (refine Case.no ?_; conv => whnf)
                  | (refine Case.isTrue (by assumption) ?_; conv => whnf)
                  | (refine Case.isFalse (by assumption) ?_; conv => whnf)
                  | (refine Case.decT (by assumption) ?_; conv => whnf)
                  | (refine Case.decF (by assumption) ?_; conv => whnf)
                  | (refine Case.decT (by omega) ?_; conv => whnf)
                  | (refine Case.decF (by omega) ?_; conv => whnf)
                  | (refine Case.beqT (by omega) ?_; conv => whnf)
                  | (refine Case.beqF (by omega) ?_; conv => whnf)
                  | (refine Case.strT (by assumption) ?_; conv => whnf)
                  | (refine Case.strF (by assumption) ?_; conv => whnf)
                  | (refine Case.strF (by simp only [*]; decide) ?_; conv => whnf)
                  | (refine Owes.mk boolsF_row ?_; conv => whnf)
                  | (refine Owes.mk sels_row ?_; conv => whnf)
                  | (refine Owes.mk parts_row ?_; conv => whnf)
                  | (refine Owes.mk pss_row ?_; conv => whnf)
                  | (refine Elem.mk 0 _ rfl rfl ?_; conv => whnf)
                  | (refine Elem.mk (i - 1 - j) _ (by omega) (boolsF_get hb2) ?_; conv => whnf)
                  | (refine Case.beqT (show (((deepS (bl.drop (j + 1))).map selRow).length : Int) = 1 from hl1) ?_; conv => whnf)
                  | (refine Case.isTrue (by decide) ?_; conv => whnf)
                  | (refine Case.isFalse (by decide) ?_; conv => whnf)
                  | (refine step_kinds 2 ?hk ?_; (case hk => decide +kernel); conv => whnf)
                  | (refine step_kinds 3 ?hk ?_; (case hk => decide +kernel); conv => whnf)
                  | (refine Num.id (by omega) (by omega) ?_; conv => whnf)
                  | (refine Case.strI (fun _ => ?_) (fun _ => ?_) <;> conv => whnf)
                  | (refine Both.mk ?_ ?_ <;> conv => whnf)
                  | (refine Case.dec (fun _ => ?_) (fun _ => ?_) <;> conv => whnf)
                  | (refine Case.beqI (fun _ => ?_) (fun _ => ?_) <;> conv => whnf)
                  | (refine Case.mk (fun _ => ?_) (fun _ => ?_) <;> conv => whnf)
                refine ⟨j + 1, by omega, by omega, ?_⟩
                repeat' first | exact trivial | exact rfl | exact Nat.zero_le _ | exact Nat.zero_lt_succ _ | exact (by decide : (0 : Nat) < 1) | exact (by decide : (1 : Nat) < 4) | exact (by decide : (2 : Nat) < 4) | exact (by decide : (3 : Nat) < 4) | exact (by decide : (1 : Nat) < 2) | exact (by decide : (2 : Nat) < 3) | exact congrArg int (by (try dsimp only); omega) | exact congrArg bool (by (try dsimp only); simp; omega) | (show _ < List.length _; simp; done) | apply And.intro
              · conv => whnf
                repeat' first
                  | (refine Case.not ?_; conv => whnf)
                  | (refine Case.yes ?_; conv => whnf)
                  | (refine Case.no ?_; conv => whnf)
                  | (refine Case.isTrue (by assumption) ?_; conv => whnf)
                  | (refine Case.isFalse (by assumption) ?_; conv => whnf)
                  | (refine Case.decT (by assumption) ?_; conv => whnf)
                  | (refine Case.decF (by assumption) ?_; conv => whnf)
                  | (refine Case.decT (by omega) ?_; conv => whnf)
                  | (refine Case.decF (by omega) ?_; conv => whnf)
                  | (refine Case.beqT (by omega) ?_; conv => whnf)
                  | (refine Case.beqF (by omega) ?_; conv => whnf)
                  | (refine Case.strT (by assumption) ?_; conv => whnf)
                  | (refine Case.strF (by assumption) ?_; conv => whnf)
                  | (refine Case.strF (by simp only [*]; decide) ?_; conv => whnf)
                  | (refine Owes.mk boolsF_row ?_; conv => whnf)
                  | (refine Owes.mk sels_row ?_; conv => whnf)
                  | (refine Owes.mk parts_row ?_; conv => whnf)
                  | (refine Owes.mk pss_row ?_; conv => whnf)
                  | (refine Elem.mk 0 _ rfl rfl ?_; conv => whnf)
                  | (refine Elem.mk (i - 1 - j) _ (by omega) (boolsF_get hb2) ?_; conv => whnf)
                  | (refine Case.beqT (show (((deepS (bl.drop (j + 1))).map selRow).length : Int) = 1 from hl1) ?_; conv => whnf)
                  | (refine Case.isTrue (by decide) ?_; conv => whnf)
                  | (refine Case.isFalse (by decide) ?_; conv => whnf)
                  | (refine step_kinds 2 ?hk ?_; (case hk => decide +kernel); conv => whnf)
                  | (refine step_kinds 3 ?hk ?_; (case hk => decide +kernel); conv => whnf)
                  | (refine Num.id (by omega) (by omega) ?_; conv => whnf)
                  | (refine Case.strI (fun _ => ?_) (fun _ => ?_) <;> conv => whnf)
                  | (refine Both.mk ?_ ?_ <;> conv => whnf)
                  | (refine Case.dec (fun _ => ?_) (fun _ => ?_) <;> conv => whnf)
                  | (refine Case.beqI (fun _ => ?_) (fun _ => ?_) <;> conv => whnf)
                  | (refine Case.mk (fun _ => ?_) (fun _ => ?_) <;> conv => whnf)
                refine ⟨j + 1, by omega, by omega, ?_⟩
                repeat' first | exact trivial | exact rfl | exact Nat.zero_le _ | exact Nat.zero_lt_succ _ | exact (by decide : (0 : Nat) < 1) | exact (by decide : (1 : Nat) < 4) | exact (by decide : (2 : Nat) < 4) | exact (by decide : (3 : Nat) < 4) | exact (by decide : (1 : Nat) < 2) | exact (by decide : (2 : Nat) < 3) | exact congrArg int (by (try dsimp only); omega) | exact congrArg bool (by (try dsimp only); simp; omega) | (show _ < List.length _; simp; done) | apply And.intro
            · have hd : bl.drop j = [] := by rw [List.drop_eq_nil_iff]; omega
              rw [hd]
              conv => whnf
              repeat' first
                | (refine Case.not ?_; conv => whnf)
                | (refine Case.yes ?_; conv => whnf)
                | (refine Case.no ?_; conv => whnf)
                | (refine Case.isTrue (by assumption) ?_; conv => whnf)
                | (refine Case.isFalse (by assumption) ?_; conv => whnf)
                | (refine Case.decT (by assumption) ?_; conv => whnf)
                | (refine Case.decF (by assumption) ?_; conv => whnf)
                | (refine Case.decT (by omega) ?_; conv => whnf)
                | (refine Case.decF (by omega) ?_; conv => whnf)
                | (refine Case.beqT (by omega) ?_; conv => whnf)
                | (refine Case.beqF (by omega) ?_; conv => whnf)
                | (refine Case.strT (by assumption) ?_; conv => whnf)
                | (refine Case.strF (by assumption) ?_; conv => whnf)
                | (refine Case.strF (by simp only [*]; decide) ?_; conv => whnf)
                | (refine Owes.mk sels_row ?_; conv => whnf)
                | (refine Owes.mk parts_row ?_; conv => whnf)
                | (refine Elem.mk 0 _ rfl rfl ?_; conv => whnf)
                | (refine Case.isTrue (by decide) ?_; conv => whnf)
                | (refine Case.isFalse (by decide) ?_; conv => whnf)
                | (refine step_kinds 2 ?hk ?_; (case hk => decide +kernel); conv => whnf)
                | (refine step_kinds 3 ?hk ?_; (case hk => decide +kernel); conv => whnf)
                | (refine Num.id (by omega) (by omega) ?_; conv => whnf)
                | (refine Case.strI (fun _ => ?_) (fun _ => ?_) <;> conv => whnf)
                | (refine Both.mk ?_ ?_ <;> conv => whnf)
                | (refine Case.dec (fun _ => ?_) (fun _ => ?_) <;> conv => whnf)
                | (refine Case.beqI (fun _ => ?_) (fun _ => ?_) <;> conv => whnf)
                | (refine Case.mk (fun _ => ?_) (fun _ => ?_) <;> conv => whnf)
              exact Fin.isB (by simp)
        · rw [if_neg h8] at hdp
          rw [hdp] at hp
          conv => whnf
          repeat' first
            | (refine Case.not ?_; conv => whnf)
            | (refine Case.yes ?_; conv => whnf)
            | (refine Case.no ?_; conv => whnf)
            | (refine Case.isTrue (by assumption) ?_; conv => whnf)
            | (refine Case.isFalse (by assumption) ?_; conv => whnf)
            | (refine Case.decT (by assumption) ?_; conv => whnf)
            | (refine Case.decF (by assumption) ?_; conv => whnf)
            | (refine Case.decT (by omega) ?_; conv => whnf)
            | (refine Case.decF (by omega) ?_; conv => whnf)
            | (refine Case.beqT (by omega) ?_; conv => whnf)
            | (refine Case.beqF (by omega) ?_; conv => whnf)
            | (refine Case.strT (by assumption) ?_; conv => whnf)
            | (refine Case.strF (by assumption) ?_; conv => whnf)
            | (refine Case.strF (by simp only [*]; decide) ?_; conv => whnf)
            | (refine ho.call ?_; conv => whnf)
            | (refine hp.call ?_; conv => whnf)
            | (refine step_kinds 2 ?hk ?_; (case hk => decide +kernel); conv => whnf)
            | (refine step_kinds 3 ?hk ?_; (case hk => decide +kernel); conv => whnf)
            | (refine Num.id (by omega) (by omega) ?_; conv => whnf)
            | (refine Case.strI (fun _ => ?_) (fun _ => ?_) <;> conv => whnf)
            | (refine Both.mk ?_ ?_ <;> conv => whnf)
            | (refine Case.dec (fun _ => ?_) (fun _ => ?_) <;> conv => whnf)
            | (refine Case.beqI (fun _ => ?_) (fun _ => ?_) <;> conv => whnf)
            | (refine Case.mk (fun _ => ?_) (fun _ => ?_) <;> conv => whnf)
          exact Fin.isB (by simp; omega)
theorem walkSelDeep (a0 : Int) (a1 : List Bool) (W : World) (w0 : (Lit.int .i64 a0).wf = true) {v : Value} (hv : RepF (fun b => b < W.heap.size) W (.sl (a1.map fun b => [.v (.bool b)])) v) : Calls Try.prog 5 #[.int .i64 a0, v] W fun e w' => e = .returned (.bool true) ∧ Below W.heap.size W w' := by
  have hw : -9223372036854775808 ≤ a0 ∧ a0 < 9223372036854775808 := by
    simp only [Lit.wf, Bool.and_eq_true, decide_eq_true_eq] at w0
    have e1 : IntKind.i64.min = -9223372036854775808 := by decide
    have e2 : IntKind.i64.max = 9223372036854775807 := by decide
    omega
  exact calls_of_spec (selDeep_spec a0 a1 hw).2 W [.int .i64 a0, v] (repL_cons (rep_val rfl) (repL_cons (by unfold Rep; exact hv) repL_nil))
end Go.Proofs.Ytdfiegleaknleaa.Aw
