/- The reference's Value, as a contract. -/
import Derived.Test.YtlhegfkpgchaeaaGreatDoorXvP
namespace Go.Proofs.YtlhegfkpgchaeaaGreatDoor.Aw
open Go Go.RowKit Go.Lib
set_option linter.unusedVariables false
set_option linter.unusedSimpArgs false
set_option maxRecDepth 100000
theorem wordRun_lt (s : List UInt8) : ∀ (l : List (List UInt8)) (k : Nat), (wordRun s l k).2 = true → k ≤ (wordRun s l k).1 ∧ (wordRun s l k).1 < k + l.length
 | [], k, h => by simp [wordRun] at h
 | x :: r, k, h => by
  unfold wordRun at *
  split at h
  ·rw [if_pos (by assumption)]; simp
  ·rw [if_neg (by assumption)]
   have := wordRun_lt s r (k + 1) h
   simp
   omega
theorem wordRun_leV (s : List UInt8) : ∀ (l : List (List UInt8)) (k : Nat), (wordRun s l k).1 ≤ k + l.length
 | [], k => by simp [wordRun]
 | x :: r, k => by
  unfold wordRun
  split
  ·simp
  ·have := wordRun_leV s r (k + 1)
   simp
   omega
theorem key_cases (k : Tok) : keyR k colorL = (0, 0, false) ∨ ∃ j : Nat, j < 5 ∧ keyR k colorL = (1, (j : Int), true) := by
 unfold keyR
 split
 ·split
  ·have := wordRun_lt _ _ _ (by assumption : (wordV (lower k.text) colorL).2 = true)
   exact .inr ⟨_, by have h2 := this.2; rw [Nat.zero_add] at h2; exact h2, rfl⟩
  ·exact .inl rfl
 ·exact .inl rfl
theorem valueR_len {p : Int} {t : List Tok} (h : ¬ t.length = 1) : valueR p t = (0, 0, false) := by
 unfold valueR
 split
 ·match t, h with
  | [], _ => rfl
  | [k], h => simp at h
  | _ :: _ :: _, _ => rfl
 ·rfl
set_option maxHeartbeats 4000000 in
theorem rvalue_spec (p : Int) (t : List Tok) (hl : t.length < 9223372036854775808) (hx : ∀ k ∈ t, k.text.length ≤ 140737488355328) : Pure 53 [int p, .f (.sl (toksF t))] (valD (valueR p t)) := by
 have hlen : (toksF t).length = t.length := by simp
 refine .mk (valD_scal _) (spec_mk tab_ok Tryz.func53 (by rfl) rfl ?_)
 by_cases h1 : t.length = 1
 ·obtain ⟨k, rfl⟩ : ∃ k, t = [k] := by
   match t, h1 with
   | [k], _ => exact ⟨k, rfl⟩
  have hk := hx k (by simp)
  have hget : (toksF [k])[0]? = some (tokRow k) := rfl
  have hwl : (wordV (lower k.text) wideL).1 ≤ 3 := wordRun_leV _ _ _
  by_cases hp0 : p = 0
  ·have hkc := rkey_spec k hk colorL (by decide)
   rcases key_cases k with e | ⟨j, hj, e⟩
   ·rw [e] at hkc
    conv => whnf
    repeat' first
     | (refine Case.not ?_; conv => whnf)
     | (refine Case.yes ?_; conv => whnf)
     | (refine Case.no ?_; conv => whnf)
     | (refine Case.decT (by assumption) ?_; conv => whnf)
     | (refine Case.decF (by omega) ?_; conv => whnf)
     | (refine (lower_specB _ hk).call ⟨rfl, rfl⟩ ?_; conv => whnf)
     | (refine (word_spec (lower k.text) wideL (by decide)).call ⟨rfl, rfl, rfl⟩ ?_; conv => whnf)
     | (refine (rcolor_spec _ hk).call ⟨rfl, rfl⟩ ?_; conv => whnf)
     | (refine Owes.mk toksF_row ?_; conv => whnf)
     | (refine Elem.mk 0 _ rfl hget ?_; conv => whnf)
     | (refine hkc.call ⟨⟨rfl, rfl, rfl, rfl, rfl, rfl⟩, rfl, rfl⟩ ?_; conv => whnf)
     | (refine Num.id (by omega) (by omega) ?_; conv => whnf)
     | (refine Case.dec (fun _ => ?_) (fun _ => ?_) <;> conv => whnf)
     | (refine Case.mk (fun _ => ?_) (fun _ => ?_) <;> conv => whnf)
    all_goals (refine Fin.v3 ?_; show _ = (if 0 ≤ p ∧ p < 8 then value1 p k else (0, 0, false)); unfold value1; (repeat' split) <;> first | rfl | (exfalso; omega) | (rw [e]; rfl) | (unfold clampW; (repeat' split) <;> first | rfl | (exfalso; omega) | (refine Prod.ext rfl (Prod.ext ?_ rfl); dsimp only; omega) | fail) | (exfalso; simp_all; done) | (simp_all; done))
   ·rw [e] at hkc
    have h5 : j = 0 ∨ j = 1 ∨ j = 2 ∨ j = 3 ∨ j = 4 := by omega
    rcases h5 with rfl | rfl | rfl | rfl | rfl
    ·conv => whnf
     repeat' first
      | (refine Case.not ?_; conv => whnf)
      | (refine Case.yes ?_; conv => whnf)
      | (refine Case.decT (by assumption) ?_; conv => whnf)
      | (refine Case.decF (by omega) ?_; conv => whnf)
      | (refine (lower_specB _ hk).call ⟨rfl, rfl⟩ ?_; conv => whnf)
      | (refine (word_spec (lower k.text) wideL (by decide)).call ⟨rfl, rfl, rfl⟩ ?_; conv => whnf)
      | (refine (rcolor_spec _ hk).call ⟨rfl, rfl⟩ ?_; conv => whnf)
      | (refine Owes.mk toksF_row ?_; conv => whnf)
      | (refine Elem.mk 0 _ rfl hget ?_; conv => whnf)
      | (refine hkc.call ⟨⟨rfl, rfl, rfl, rfl, rfl, rfl⟩, rfl, rfl⟩ ?_; conv => whnf)
      | (refine Owes.mk rfl ?_; conv => whnf)
      | (refine Elem.mk 0 _ rfl rfl ?_; conv => whnf)
      | (refine Num.id (by omega) (by omega) ?_; conv => whnf)
      | (refine Case.dec (fun _ => ?_) (fun _ => ?_) <;> conv => whnf)
      | (refine Case.mk (fun _ => ?_) (fun _ => ?_) <;> conv => whnf)
     all_goals (refine Fin.v3 ?_; show _ = (if 0 ≤ p ∧ p < 8 then value1 p k else (0, 0, false)); unfold value1; (repeat' split) <;> first | rfl | (exfalso; omega) | (rw [e]; rfl) | (unfold clampW; (repeat' split) <;> first | rfl | (exfalso; omega) | (refine Prod.ext rfl (Prod.ext ?_ rfl); dsimp only; omega) | fail) | (exfalso; simp_all; done) | (simp_all; done))
    ·conv => whnf
     repeat' first
      | (refine Case.not ?_; conv => whnf)
      | (refine Case.yes ?_; conv => whnf)
      | (refine Case.decT (by assumption) ?_; conv => whnf)
      | (refine Case.decF (by omega) ?_; conv => whnf)
      | (refine (lower_specB _ hk).call ⟨rfl, rfl⟩ ?_; conv => whnf)
      | (refine (word_spec (lower k.text) wideL (by decide)).call ⟨rfl, rfl, rfl⟩ ?_; conv => whnf)
      | (refine (rcolor_spec _ hk).call ⟨rfl, rfl⟩ ?_; conv => whnf)
      | (refine Owes.mk toksF_row ?_; conv => whnf)
      | (refine Elem.mk 0 _ rfl hget ?_; conv => whnf)
      | (refine hkc.call ⟨⟨rfl, rfl, rfl, rfl, rfl, rfl⟩, rfl, rfl⟩ ?_; conv => whnf)
      | (refine Owes.mk rfl ?_; conv => whnf)
      | (refine Elem.mk 1 _ rfl rfl ?_; conv => whnf)
      | (refine Num.id (by omega) (by omega) ?_; conv => whnf)
      | (refine Case.dec (fun _ => ?_) (fun _ => ?_) <;> conv => whnf)
      | (refine Case.mk (fun _ => ?_) (fun _ => ?_) <;> conv => whnf)
     all_goals (refine Fin.v3 ?_; show _ = (if 0 ≤ p ∧ p < 8 then value1 p k else (0, 0, false)); unfold value1; (repeat' split) <;> first | rfl | (exfalso; omega) | (rw [e]; rfl) | (unfold clampW; (repeat' split) <;> first | rfl | (exfalso; omega) | (refine Prod.ext rfl (Prod.ext ?_ rfl); dsimp only; omega) | fail) | (exfalso; simp_all; done) | (simp_all; done))
    ·conv => whnf
     repeat' first
      | (refine Case.not ?_; conv => whnf)
      | (refine Case.yes ?_; conv => whnf)
      | (refine Case.decT (by assumption) ?_; conv => whnf)
      | (refine Case.decF (by omega) ?_; conv => whnf)
      | (refine (lower_specB _ hk).call ⟨rfl, rfl⟩ ?_; conv => whnf)
      | (refine (word_spec (lower k.text) wideL (by decide)).call ⟨rfl, rfl, rfl⟩ ?_; conv => whnf)
      | (refine (rcolor_spec _ hk).call ⟨rfl, rfl⟩ ?_; conv => whnf)
      | (refine Owes.mk toksF_row ?_; conv => whnf)
      | (refine Elem.mk 0 _ rfl hget ?_; conv => whnf)
      | (refine hkc.call ⟨⟨rfl, rfl, rfl, rfl, rfl, rfl⟩, rfl, rfl⟩ ?_; conv => whnf)
      | (refine Owes.mk rfl ?_; conv => whnf)
      | (refine Elem.mk 2 _ rfl rfl ?_; conv => whnf)
      | (refine Num.id (by omega) (by omega) ?_; conv => whnf)
      | (refine Case.dec (fun _ => ?_) (fun _ => ?_) <;> conv => whnf)
      | (refine Case.mk (fun _ => ?_) (fun _ => ?_) <;> conv => whnf)
     all_goals (refine Fin.v3 ?_; show _ = (if 0 ≤ p ∧ p < 8 then value1 p k else (0, 0, false)); unfold value1; (repeat' split) <;> first | rfl | (exfalso; omega) | (rw [e]; rfl) | (unfold clampW; (repeat' split) <;> first | rfl | (exfalso; omega) | (refine Prod.ext rfl (Prod.ext ?_ rfl); dsimp only; omega) | fail) | (exfalso; simp_all; done) | (simp_all; done))
    ·conv => whnf
     repeat' first
      | (refine Case.not ?_; conv => whnf)
      | (refine Case.yes ?_; conv => whnf)
      | (refine Case.decT (by assumption) ?_; conv => whnf)
      | (refine Case.decF (by omega) ?_; conv => whnf)
      | (refine (lower_specB _ hk).call ⟨rfl, rfl⟩ ?_; conv => whnf)
      | (refine (word_spec (lower k.text) wideL (by decide)).call ⟨rfl, rfl, rfl⟩ ?_; conv => whnf)
      | (refine (rcolor_spec _ hk).call ⟨rfl, rfl⟩ ?_; conv => whnf)
      | (refine Owes.mk toksF_row ?_; conv => whnf)
      | (refine Elem.mk 0 _ rfl hget ?_; conv => whnf)
      | (refine hkc.call ⟨⟨rfl, rfl, rfl, rfl, rfl, rfl⟩, rfl, rfl⟩ ?_; conv => whnf)
      | (refine Owes.mk rfl ?_; conv => whnf)
      | (refine Elem.mk 3 _ rfl rfl ?_; conv => whnf)
      | (refine Num.id (by omega) (by omega) ?_; conv => whnf)
      | (refine Case.dec (fun _ => ?_) (fun _ => ?_) <;> conv => whnf)
      | (refine Case.mk (fun _ => ?_) (fun _ => ?_) <;> conv => whnf)
     all_goals (refine Fin.v3 ?_; show _ = (if 0 ≤ p ∧ p < 8 then value1 p k else (0, 0, false)); unfold value1; (repeat' split) <;> first | rfl | (exfalso; omega) | (rw [e]; rfl) | (unfold clampW; (repeat' split) <;> first | rfl | (exfalso; omega) | (refine Prod.ext rfl (Prod.ext ?_ rfl); dsimp only; omega) | fail) | (exfalso; simp_all; done) | (simp_all; done))
    ·conv => whnf
     repeat' first
      | (refine Case.not ?_; conv => whnf)
      | (refine Case.yes ?_; conv => whnf)
      | (refine Case.decT (by assumption) ?_; conv => whnf)
      | (refine Case.decF (by omega) ?_; conv => whnf)
      | (refine (lower_specB _ hk).call ⟨rfl, rfl⟩ ?_; conv => whnf)
      | (refine (word_spec (lower k.text) wideL (by decide)).call ⟨rfl, rfl, rfl⟩ ?_; conv => whnf)
      | (refine (rcolor_spec _ hk).call ⟨rfl, rfl⟩ ?_; conv => whnf)
      | (refine Owes.mk toksF_row ?_; conv => whnf)
      | (refine Elem.mk 0 _ rfl hget ?_; conv => whnf)
      | (refine hkc.call ⟨⟨rfl, rfl, rfl, rfl, rfl, rfl⟩, rfl, rfl⟩ ?_; conv => whnf)
      | (refine Owes.mk rfl ?_; conv => whnf)
      | (refine Elem.mk 4 _ rfl rfl ?_; conv => whnf)
      | (refine Num.id (by omega) (by omega) ?_; conv => whnf)
      | (refine Case.dec (fun _ => ?_) (fun _ => ?_) <;> conv => whnf)
      | (refine Case.mk (fun _ => ?_) (fun _ => ?_) <;> conv => whnf)
     all_goals (refine Fin.v3 ?_; show _ = (if 0 ≤ p ∧ p < 8 then value1 p k else (0, 0, false)); unfold value1; (repeat' split) <;> first | rfl | (exfalso; omega) | (rw [e]; rfl) | (unfold clampW; (repeat' split) <;> first | rfl | (exfalso; omega) | (refine Prod.ext rfl (Prod.ext ?_ rfl); dsimp only; omega) | fail) | (exfalso; simp_all; done) | (simp_all; done))
  ·conv => whnf
   repeat' first
    | (refine Case.not ?_; conv => whnf)
    | (refine Case.yes ?_; conv => whnf)
    | (refine Case.no ?_; conv => whnf)
    | (refine Case.isTrue (by assumption) ?_; conv => whnf)
    | (refine Case.isFalse (by assumption) ?_; conv => whnf)
    | (refine Case.decT (by assumption) ?_; conv => whnf)
    | (refine Case.decF (by assumption) ?_; conv => whnf)
    | (refine Case.decF (by omega) ?_; conv => whnf)
    | (refine (lower_specB _ hk).call ⟨rfl, rfl⟩ ?_; conv => whnf)
    | (refine (word_spec (lower k.text) wideL (by decide)).call ⟨rfl, rfl, rfl⟩ ?_; conv => whnf)
    | (refine (rlength_spec k hk).call ⟨⟨rfl, rfl, rfl, rfl, rfl, rfl⟩, rfl⟩ ?_; conv => whnf)
    | (refine (rkey_spec k hk alignL (by decide)).call ⟨⟨rfl, rfl, rfl, rfl, rfl, rfl⟩, rfl, rfl⟩ ?_; conv => whnf)
    | (refine (rkey_spec k hk dispL (by decide)).call ⟨⟨rfl, rfl, rfl, rfl, rfl, rfl⟩, rfl, rfl⟩ ?_; conv => whnf)
    | (refine (rkey_spec k hk autoL (by decide)).call ⟨⟨rfl, rfl, rfl, rfl, rfl, rfl⟩, rfl, rfl⟩ ?_; conv => whnf)
    | (refine Owes.mk toksF_row ?_; conv => whnf)
    | (refine Elem.mk 0 _ rfl hget ?_; conv => whnf)
    | (refine Num.id (by omega) (by omega) ?_; conv => whnf)
    | (refine Case.dec (fun _ => ?_) (fun _ => ?_) <;> conv => whnf)
    | (refine Case.mk (fun _ => ?_) (fun _ => ?_) <;> conv => whnf)
   all_goals (refine Fin.v3 ?_; show _ = (if 0 ≤ p ∧ p < 8 then value1 p k else (0, 0, false)); unfold value1; (repeat' split) <;> first | rfl | (exfalso; omega) | (rw [e]; rfl) | (unfold clampW; (repeat' split) <;> first | rfl | (exfalso; omega) | (refine Prod.ext rfl (Prod.ext ?_ rfl); dsimp only; omega) | fail) | (exfalso; simp_all; done) | (simp_all; done))
 ·rw [valueR_len h1]
  conv => whnf
  repeat' first | ((first | refine Case.not ?_ | refine Case.yes ?_ | refine Case.decT (by assumption) ?_ | refine Case.decF (by assumption) ?_ | refine Case.decF (by omega) ?_); conv => whnf) | (refine Case.dec (fun _ => ?_) (fun _ => ?_) <;> conv => whnf)
  all_goals exact Fin.v3 rfl
end Go.Proofs.YtlhegfkpgchaeaaGreatDoor.Aw
