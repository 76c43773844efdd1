/- Equal lists: the reference's SameTokens, SameStrings, SameCompound, SameSelectors of one list and itself. -/
import Derived.Test.YtdfiegleaknleaaXrP
namespace Go.Proofs.Ytdfiegleaknleaa.Aw
open Go Go.RowKit Go.Lib
set_option linter.unusedVariables false
set_option linter.unusedSimpArgs false
set_option maxRecDepth 100000
theorem Case.boolT {b : Bool} {A B : Prop} (h : A) : Case (b == b) A B := Case.isTrue (by simp) h
theorem sameTokens_spec (t : List Tok) (ht : t.length < 1000000000) : Pure 17 [.f (.sl (toksF t)), .f (.sl (toksF t))] (bool true) := by
  have hlen : (toksF t).length = t.length := by simp
  refine .mk trivial (spec_mk tab_ok Try.func17 (by rfl) rfl ?_)
  conv => whnf
  repeat' first
    | (refine Case.not ?_; conv => whnf)
    | (refine Case.yes ?_; conv => whnf)
    | (refine Case.no ?_; conv => whnf)
    | (refine Case.isTrue (by assumption) ?_; conv => whnf)
    | (refine Case.isFalse (by assumption) ?_; conv => whnf)
    | (refine Case.decT (by assumption) ?_; conv => whnf)
    | (refine Case.decF (by assumption) ?_; conv => whnf)
    | (refine Case.decT (by omega) ?_; conv => whnf)
    | (refine Case.decF (by omega) ?_; conv => whnf)
    | (refine Case.beqT (by omega) ?_; conv => whnf)
    | (refine Case.beqF (by omega) ?_; conv => whnf)
    | (refine Case.strT (by assumption) ?_; conv => whnf)
    | (refine Case.strF (by assumption) ?_; conv => whnf)
    | (refine Case.strF (by simp only [*]; decide) ?_; conv => whnf)
    | (refine step_kinds 2 ?hk ?_; (case hk => decide +kernel); conv => whnf)
    | (refine step_kinds 3 ?hk ?_; (case hk => decide +kernel); conv => whnf)
    | (refine Num.id (by omega) (by omega) ?_; conv => whnf)
    | (refine Case.strI (fun _ => ?_) (fun _ => ?_) <;> conv => whnf)
    | (refine Both.mk ?_ ?_ <;> conv => whnf)
    | (refine Case.dec (fun _ => ?_) (fun _ => ?_) <;> conv => whnf)
    | (refine Case.beqI (fun _ => ?_) (fun _ => ?_) <;> conv => whnf)
    | (refine Case.mk (fun _ => ?_) (fun _ => ?_) <;> conv => whnf)
    | (refine Way.fst ?_; conv => whnf)
  refine step_loop tab_ok (fun i : Nat => padK [.f (.sl (toksF t)), .f (.sl (toksF t)), .junk, .junk, .junk, int i] 26) (fun _ => []) 0 (fun i => i ≤ t.length) (fun i => t.length - i) 0 (by omega) (fun _ => rfl) ?_ ?_
  ·
    repeat' first | exact trivial | exact rfl | exact Nat.zero_le _ | exact Nat.zero_lt_succ _ | exact (by decide : (0 : Nat) < 1) | exact (by decide : (1 : Nat) < 4) | exact (by decide : (2 : Nat) < 4) | exact (by decide : (3 : Nat) < 4) | exact (by decide : (1 : Nat) < 2) | exact (by decide : (2 : Nat) < 3) | exact congrArg int (by (try dsimp only); omega) | exact congrArg bool (by (try dsimp only); simp; omega) | (show _ < List.length _; simp; done) | apply And.intro
  · intro i hi
    conv => whnf
    refine Case.dec (fun h0 => ?_) (fun h0 => ?_)
    · obtain ⟨k, hk⟩ : ∃ k, t[i]? = some k := ⟨_, List.getElem?_eq_getElem (by omega)⟩
      conv => whnf
      repeat' first
        | (refine Case.not ?_; conv => whnf)
        | (refine Case.yes ?_; conv => whnf)
        | (refine Case.no ?_; conv => whnf)
        | (refine Case.isTrue (by assumption) ?_; conv => whnf)
        | (refine Case.isFalse (by assumption) ?_; conv => whnf)
        | (refine Case.decT (by assumption) ?_; conv => whnf)
        | (refine Case.decF (by assumption) ?_; conv => whnf)
        | (refine Case.decT (by omega) ?_; conv => whnf)
        | (refine Case.decF (by omega) ?_; conv => whnf)
        | (refine Case.beqT (by omega) ?_; conv => whnf)
        | (refine Case.beqF (by omega) ?_; conv => whnf)
        | (refine Case.strT (by assumption) ?_; conv => whnf)
        | (refine Case.strF (by assumption) ?_; conv => whnf)
        | (refine Case.strF (by simp only [*]; decide) ?_; conv => whnf)
        | (refine step_kinds 2 ?hk ?_; (case hk => decide +kernel); conv => whnf)
        | (refine step_kinds 3 ?hk ?_; (case hk => decide +kernel); conv => whnf)
        | (refine Case.strT rfl ?_; conv => whnf)
        | (refine Case.isTrue (by first | (simp; done) | fail "x") ?_; conv => whnf)
        | (refine Case.boolT ?_; conv => whnf)
        | (refine Owes.mk strs_row ?_; conv => whnf)
        | (refine Owes.mk toksF_row ?_; conv => whnf)
        | (refine Elem.mk i _ rfl (toksF_get hk) ?_; conv => whnf)
        | (refine Num.id (by omega) (by omega) ?_; conv => whnf)
        | (refine Case.strI (fun _ => ?_) (fun _ => ?_) <;> conv => whnf)
        | (refine Both.mk ?_ ?_ <;> conv => whnf)
        | (refine Case.dec (fun _ => ?_) (fun _ => ?_) <;> conv => whnf)
        | (refine Case.beqI (fun _ => ?_) (fun _ => ?_) <;> conv => whnf)
        | (refine Case.mk (fun _ => ?_) (fun _ => ?_) <;> conv => whnf)
        | (refine Way.fst ?_; conv => whnf)
      refine ⟨i + 1, by omega, by omega, ?_⟩
      repeat' first | exact trivial | exact rfl | exact Nat.zero_le _ | exact Nat.zero_lt_succ _ | exact (by decide : (0 : Nat) < 1) | exact (by decide : (1 : Nat) < 4) | exact (by decide : (2 : Nat) < 4) | exact (by decide : (3 : Nat) < 4) | exact (by decide : (1 : Nat) < 2) | exact (by decide : (2 : Nat) < 3) | exact congrArg int (by (try dsimp only); omega) | exact congrArg bool (by (try dsimp only); simp; omega) | (show _ < List.length _; simp; done) | apply And.intro
    · conv => whnf
      exact Fin.isB rfl
theorem sameStrings_spec (l : List (List UInt8)) (hl : l.length < 1000000000) : Pure 33 [.f (.sl (strs l)), .f (.sl (strs l))] (bool true) := by
  have hlen := strs_length l
  refine .mk trivial (spec_mk tab_ok Try.func33 (by rfl) rfl ?_)
  conv => whnf
  repeat' first
    | (refine Case.not ?_; conv => whnf)
    | (refine Case.yes ?_; conv => whnf)
    | (refine Case.no ?_; conv => whnf)
    | (refine Case.isTrue (by assumption) ?_; conv => whnf)
    | (refine Case.isFalse (by assumption) ?_; conv => whnf)
    | (refine Case.decT (by assumption) ?_; conv => whnf)
    | (refine Case.decF (by assumption) ?_; conv => whnf)
    | (refine Case.decT (by omega) ?_; conv => whnf)
    | (refine Case.decF (by omega) ?_; conv => whnf)
    | (refine Case.beqT (by omega) ?_; conv => whnf)
    | (refine Case.beqF (by omega) ?_; conv => whnf)
    | (refine Case.strT (by assumption) ?_; conv => whnf)
    | (refine Case.strF (by assumption) ?_; conv => whnf)
    | (refine Case.strF (by simp only [*]; decide) ?_; conv => whnf)
    | (refine step_kinds 2 ?hk ?_; (case hk => decide +kernel); conv => whnf)
    | (refine step_kinds 3 ?hk ?_; (case hk => decide +kernel); conv => whnf)
    | (refine Num.id (by omega) (by omega) ?_; conv => whnf)
    | (refine Case.strI (fun _ => ?_) (fun _ => ?_) <;> conv => whnf)
    | (refine Both.mk ?_ ?_ <;> conv => whnf)
    | (refine Case.dec (fun _ => ?_) (fun _ => ?_) <;> conv => whnf)
    | (refine Case.beqI (fun _ => ?_) (fun _ => ?_) <;> conv => whnf)
    | (refine Case.mk (fun _ => ?_) (fun _ => ?_) <;> conv => whnf)
    | (refine Way.fst ?_; conv => whnf)
  refine step_loop tab_ok (fun i : Nat => padK [.f (.sl (strs l)), .f (.sl (strs l)), .junk, .junk, .junk, int i] 26) (fun _ => []) 0 (fun i => i ≤ l.length) (fun i => l.length - i) 0 (by omega) (fun _ => rfl) ?_ ?_
  ·
    repeat' first | exact trivial | exact rfl | exact Nat.zero_le _ | exact Nat.zero_lt_succ _ | exact (by decide : (0 : Nat) < 1) | exact (by decide : (1 : Nat) < 4) | exact (by decide : (2 : Nat) < 4) | exact (by decide : (3 : Nat) < 4) | exact (by decide : (1 : Nat) < 2) | exact (by decide : (2 : Nat) < 3) | exact congrArg int (by (try dsimp only); omega) | exact congrArg bool (by (try dsimp only); simp; omega) | (show _ < List.length _; simp; done) | apply And.intro
  · intro i hi
    conv => whnf
    refine Case.dec (fun h0 => ?_) (fun h0 => ?_)
    · obtain ⟨k, hk⟩ : ∃ k, l[i]? = some k := ⟨_, List.getElem?_eq_getElem (by omega)⟩
      conv => whnf
      repeat' first
        | (refine Case.not ?_; conv => whnf)
        | (refine Case.yes ?_; conv => whnf)
        | (refine Case.no ?_; conv => whnf)
        | (refine Case.isTrue (by assumption) ?_; conv => whnf)
        | (refine Case.isFalse (by assumption) ?_; conv => whnf)
        | (refine Case.decT (by assumption) ?_; conv => whnf)
        | (refine Case.decF (by assumption) ?_; conv => whnf)
        | (refine Case.decT (by omega) ?_; conv => whnf)
        | (refine Case.decF (by omega) ?_; conv => whnf)
        | (refine Case.beqT (by omega) ?_; conv => whnf)
        | (refine Case.beqF (by omega) ?_; conv => whnf)
        | (refine Case.strT (by assumption) ?_; conv => whnf)
        | (refine Case.strF (by assumption) ?_; conv => whnf)
        | (refine Case.strF (by simp only [*]; decide) ?_; conv => whnf)
        | (refine step_kinds 2 ?hk ?_; (case hk => decide +kernel); conv => whnf)
        | (refine step_kinds 3 ?hk ?_; (case hk => decide +kernel); conv => whnf)
        | (refine Case.strT rfl ?_; conv => whnf)
        | (refine Case.isTrue (by first | (simp; done) | fail "x") ?_; conv => whnf)
        | (refine Case.boolT ?_; conv => whnf)
        | (refine Owes.mk strs_row ?_; conv => whnf)
        | (refine Owes.mk toksF_row ?_; conv => whnf)
        | (refine Elem.mk i _ rfl (strs_get hk) ?_; conv => whnf)
        | (refine Num.id (by omega) (by omega) ?_; conv => whnf)
        | (refine Case.strI (fun _ => ?_) (fun _ => ?_) <;> conv => whnf)
        | (refine Both.mk ?_ ?_ <;> conv => whnf)
        | (refine Case.dec (fun _ => ?_) (fun _ => ?_) <;> conv => whnf)
        | (refine Case.beqI (fun _ => ?_) (fun _ => ?_) <;> conv => whnf)
        | (refine Case.mk (fun _ => ?_) (fun _ => ?_) <;> conv => whnf)
        | (refine Way.fst ?_; conv => whnf)
      refine ⟨i + 1, by omega, by omega, ?_⟩
      repeat' first | exact trivial | exact rfl | exact Nat.zero_le _ | exact Nat.zero_lt_succ _ | exact (by decide : (0 : Nat) < 1) | exact (by decide : (1 : Nat) < 4) | exact (by decide : (2 : Nat) < 4) | exact (by decide : (3 : Nat) < 4) | exact (by decide : (1 : Nat) < 2) | exact (by decide : (2 : Nat) < 3) | exact congrArg int (by (try dsimp only); omega) | exact congrArg bool (by (try dsimp only); simp; omega) | (show _ < List.length _; simp; done) | apply And.intro
    · conv => whnf
      exact Fin.isB rfl
/-- Selectors such as can be read: not too many, not too deep. -/
def SelOk : Nat → List Selr → Prop
  | 0, l => l.length < 1000000000 ∧ ∀ s ∈ l, s.length < 1000000000 ∧ ∀ p ∈ s, p.2.ids.length < 1000000000 ∧ p.2.cls.length < 1000000000 ∧ p.2.atts.length < 1000000000 ∧ p.2.pss.length < 1000000000 ∧ ∀ x ∈ p.2.pss, x.list = []
  | k + 1, l => l.length < 1000000000 ∧ ∀ s ∈ l, s.length < 1000000000 ∧ ∀ p ∈ s, p.2.ids.length < 1000000000 ∧ p.2.cls.length < 1000000000 ∧ p.2.atts.length < 1000000000 ∧ p.2.pss.length < 1000000000 ∧ ∀ x ∈ p.2.pss, ∃ l', x.list = l'.map selRow ∧ SelOk k l'
abbrev Cmp.cells (c : Cmp) : Cells := [.str ⟨c.tag.toArray⟩, .f (.sl (strs c.ids)), .f (.sl (strs c.cls)), .f (.sl (c.atts.map Att.row)), .f (.sl (c.pss.map Psd.row))]
/-- One compound. -/
structure CmpOk (Q : List (List F) → Prop) (c : Cmp) : Prop where
  ids : c.ids.length < 1000000000
  cls : c.cls.length < 1000000000
  atts : c.atts.length < 1000000000
  pss : c.pss.length < 1000000000
  list : ∀ x ∈ c.pss, Q x.list
theorem atts_row {l : List Att} : ∀ e ∈ l.map Att.row, e.length = 3 := by simp [Att.row]
theorem pss_row {l : List Psd} : ∀ e ∈ l.map Psd.row, e.length = 4 := by simp [Psd.row]
theorem parts_row {l : Selr} : ∀ e ∈ l.map partRow, e.length = 6 := fun e h => by
  obtain ⟨p, _, rfl⟩ := List.mem_map.1 h
  rfl
theorem sels_row {l : List Selr} : ∀ e ∈ l.map selRow, e.length = 1 := by simp [selRow]
theorem map_get {α β : Type} {f : α → β} {l : List α} {i : Nat} {x : α} (h : l[i]? = some x) : (l.map f)[i]? = some (f x) := by simp [h]
set_option maxHeartbeats 2000000 in
theorem sameCompound_spec (Q : List (List F) → Prop) (hQ : ∀ l, Q l → Pure 16 [.f (.sl l), .f (.sl l)] (bool true)) (c : Cmp) (hc : CmpOk Q c) : Pure 22 [c.d, c.d] (bool true) := by
  obtain ⟨z1, z2, z3, z4, z5⟩ := hc
  have l3 : (c.atts.map Att.row).length = c.atts.length := List.length_map ..
  have l4 : (c.pss.map Psd.row).length = c.pss.length := List.length_map ..
  refine .mk trivial (spec_mk tab_ok Try.func22 (by rfl) rfl ?_)
  conv => whnf
  repeat' first
    | (refine Case.not ?_; conv => whnf)
    | (refine Case.yes ?_; conv => whnf)
    | (refine Case.no ?_; conv => whnf)
    | (refine Case.isTrue (by assumption) ?_; conv => whnf)
    | (refine Case.isFalse (by assumption) ?_; conv => whnf)
    | (refine Case.decT (by assumption) ?_; conv => whnf)
    | (refine Case.decF (by assumption) ?_; conv => whnf)
    | (refine Case.decT (by omega) ?_; conv => whnf)
    | (refine Case.decF (by omega) ?_; conv => whnf)
    | (refine Case.beqT (by omega) ?_; conv => whnf)
    | (refine Case.beqF (by omega) ?_; conv => whnf)
    | (refine Case.strT (by assumption) ?_; conv => whnf)
    | (refine Case.strF (by assumption) ?_; conv => whnf)
    | (refine Case.strF (by simp only [*]; decide) ?_; conv => whnf)
    | (refine step_kinds 2 ?hk ?_; (case hk => decide +kernel); conv => whnf)
    | (refine step_kinds 3 ?hk ?_; (case hk => decide +kernel); conv => whnf)
    | (refine Case.strT rfl ?_; conv => whnf)
    | (refine Case.isTrue (by first | (simp; done) | fail "x") ?_; conv => whnf)
    | (refine Case.boolT ?_; conv => whnf)
    | (refine Owes.mk strs_row ?_; conv => whnf)
    | (refine Owes.mk toksF_row ?_; conv => whnf)
    | (refine (sameStrings_spec c.ids z1).call ⟨rfl, rfl, rfl⟩ ?_; conv => whnf)
    | (refine (sameStrings_spec c.cls z2).call ⟨rfl, rfl, rfl⟩ ?_; conv => whnf)
    | (refine Num.id (by omega) (by omega) ?_; conv => whnf)
    | (refine Case.strI (fun _ => ?_) (fun _ => ?_) <;> conv => whnf)
    | (refine Both.mk ?_ ?_ <;> conv => whnf)
    | (refine Case.dec (fun _ => ?_) (fun _ => ?_) <;> conv => whnf)
    | (refine Case.beqI (fun _ => ?_) (fun _ => ?_) <;> conv => whnf)
    | (refine Case.mk (fun _ => ?_) (fun _ => ?_) <;> conv => whnf)
    | (refine Way.fst ?_; conv => whnf)
  refine step_loop tab_ok (fun i : Nat => padK [.junk, .junk, .ptr 0 0, .ptr 1 0, .junk, int i] 110) (fun _ => [some c.cells, some c.cells]) 0 (fun i => i ≤ c.atts.length) (fun i => c.atts.length - i) 0 (by omega) (fun _ => rfl) ?_ ?_
  ·
    repeat' first | exact trivial | exact rfl | exact Nat.zero_le _ | exact Nat.zero_lt_succ _ | exact (by decide : (0 : Nat) < 1) | exact (by decide : (1 : Nat) < 4) | exact (by decide : (2 : Nat) < 4) | exact (by decide : (3 : Nat) < 4) | exact (by decide : (1 : Nat) < 2) | exact (by decide : (2 : Nat) < 3) | exact congrArg int (by (try dsimp only); omega) | exact congrArg bool (by (try dsimp only); simp; omega) | (show _ < List.length _; simp; done) | apply And.intro
  · intro i hi
    conv => whnf
    refine Case.dec (fun h0 => ?_) (fun h0 => ?_)
    · obtain ⟨k, hk⟩ : ∃ k, c.atts[i]? = some k := ⟨_, List.getElem?_eq_getElem (by omega)⟩
      conv => whnf
      repeat' first
        | (refine Case.not ?_; conv => whnf)
        | (refine Case.yes ?_; conv => whnf)
        | (refine Case.no ?_; conv => whnf)
        | (refine Case.isTrue (by assumption) ?_; conv => whnf)
        | (refine Case.isFalse (by assumption) ?_; conv => whnf)
        | (refine Case.decT (by assumption) ?_; conv => whnf)
        | (refine Case.decF (by assumption) ?_; conv => whnf)
        | (refine Case.decT (by omega) ?_; conv => whnf)
        | (refine Case.decF (by omega) ?_; conv => whnf)
        | (refine Case.beqT (by omega) ?_; conv => whnf)
        | (refine Case.beqF (by omega) ?_; conv => whnf)
        | (refine Case.strT (by assumption) ?_; conv => whnf)
        | (refine Case.strF (by assumption) ?_; conv => whnf)
        | (refine Case.strF (by simp only [*]; decide) ?_; conv => whnf)
        | (refine step_kinds 2 ?hk ?_; (case hk => decide +kernel); conv => whnf)
        | (refine step_kinds 3 ?hk ?_; (case hk => decide +kernel); conv => whnf)
        | (refine Case.strT rfl ?_; conv => whnf)
        | (refine Case.isTrue (by first | (simp; done) | fail "x") ?_; conv => whnf)
        | (refine Case.boolT ?_; conv => whnf)
        | (refine Owes.mk strs_row ?_; conv => whnf)
        | (refine Owes.mk toksF_row ?_; conv => whnf)
        | (refine Owes.mk atts_row ?_; conv => whnf)
        | (refine Elem.mk i _ rfl (map_get hk) ?_; conv => whnf)
        | (refine Num.id (by omega) (by omega) ?_; conv => whnf)
        | (refine Case.strI (fun _ => ?_) (fun _ => ?_) <;> conv => whnf)
        | (refine Both.mk ?_ ?_ <;> conv => whnf)
        | (refine Case.dec (fun _ => ?_) (fun _ => ?_) <;> conv => whnf)
        | (refine Case.beqI (fun _ => ?_) (fun _ => ?_) <;> conv => whnf)
        | (refine Case.mk (fun _ => ?_) (fun _ => ?_) <;> conv => whnf)
        | (refine Way.fst ?_; conv => whnf)
      refine ⟨i + 1, by omega, by omega, ?_⟩
      repeat' first | exact trivial | exact rfl | exact Nat.zero_le _ | exact Nat.zero_lt_succ _ | exact (by decide : (0 : Nat) < 1) | exact (by decide : (1 : Nat) < 4) | exact (by decide : (2 : Nat) < 4) | exact (by decide : (3 : Nat) < 4) | exact (by decide : (1 : Nat) < 2) | exact (by decide : (2 : Nat) < 3) | exact congrArg int (by (try dsimp only); omega) | exact congrArg bool (by (try dsimp only); simp; omega) | (show _ < List.length _; simp; done) | apply And.intro
    · conv => whnf
      repeat' first
        | (refine Case.not ?_; conv => whnf)
        | (refine Case.yes ?_; conv => whnf)
        | (refine Case.no ?_; conv => whnf)
        | (refine Case.isTrue (by assumption) ?_; conv => whnf)
        | (refine Case.isFalse (by assumption) ?_; conv => whnf)
        | (refine Case.decT (by assumption) ?_; conv => whnf)
        | (refine Case.decF (by assumption) ?_; conv => whnf)
        | (refine Case.decT (by omega) ?_; conv => whnf)
        | (refine Case.decF (by omega) ?_; conv => whnf)
        | (refine Case.beqT (by omega) ?_; conv => whnf)
        | (refine Case.beqF (by omega) ?_; conv => whnf)
        | (refine Case.strT (by assumption) ?_; conv => whnf)
        | (refine Case.strF (by assumption) ?_; conv => whnf)
        | (refine Case.strF (by simp only [*]; decide) ?_; conv => whnf)
        | (refine step_kinds 2 ?hk ?_; (case hk => decide +kernel); conv => whnf)
        | (refine step_kinds 3 ?hk ?_; (case hk => decide +kernel); conv => whnf)
        | (refine Num.id (by omega) (by omega) ?_; conv => whnf)
        | (refine Case.strI (fun _ => ?_) (fun _ => ?_) <;> conv => whnf)
        | (refine Both.mk ?_ ?_ <;> conv => whnf)
        | (refine Case.dec (fun _ => ?_) (fun _ => ?_) <;> conv => whnf)
        | (refine Case.beqI (fun _ => ?_) (fun _ => ?_) <;> conv => whnf)
        | (refine Case.mk (fun _ => ?_) (fun _ => ?_) <;> conv => whnf)
        | (refine Way.fst ?_; conv => whnf)
      refine step_loop tab_ok (fun i : Nat => padK [.junk, .junk, .ptr 0 0, .ptr 1 0, .junk, .junk, int i] 110) (fun _ => [some c.cells, some c.cells]) 0 (fun i => i ≤ c.pss.length) (fun i => c.pss.length - i) 0 (by omega) (fun _ => rfl) ?_ ?_
      ·
        repeat' first | exact trivial | exact rfl | exact Nat.zero_le _ | exact Nat.zero_lt_succ _ | exact (by decide : (0 : Nat) < 1) | exact (by decide : (1 : Nat) < 4) | exact (by decide : (2 : Nat) < 4) | exact (by decide : (3 : Nat) < 4) | exact (by decide : (1 : Nat) < 2) | exact (by decide : (2 : Nat) < 3) | exact congrArg int (by (try dsimp only); omega) | exact congrArg bool (by (try dsimp only); simp; omega) | (show _ < List.length _; simp; done) | apply And.intro
      · intro i hi
        conv => whnf
        refine Case.dec (fun h0 => ?_) (fun h0 => ?_)
        · obtain ⟨k, hk⟩ : ∃ k, c.pss[i]? = some k := ⟨_, List.getElem?_eq_getElem (by omega)⟩
          have hq := hQ k.list (z5 k (List.mem_of_getElem? hk))
          conv => whnf
          repeat' first
            | (refine Case.not ?_; conv => whnf)
            | (refine Case.yes ?_; conv => whnf)
            | (refine Case.no ?_; conv => whnf)
            | (refine Case.isTrue (by assumption) ?_; conv => whnf)
            | (refine Case.isFalse (by assumption) ?_; conv => whnf)
            | (refine Case.decT (by assumption) ?_; conv => whnf)
            | (refine Case.decF (by assumption) ?_; conv => whnf)
            | (refine Case.decT (by omega) ?_; conv => whnf)
            | (refine Case.decF (by omega) ?_; conv => whnf)
            | (refine Case.beqT (by omega) ?_; conv => whnf)
            | (refine Case.beqF (by omega) ?_; conv => whnf)
            | (refine Case.strT (by assumption) ?_; conv => whnf)
            | (refine Case.strF (by assumption) ?_; conv => whnf)
            | (refine Case.strF (by simp only [*]; decide) ?_; conv => whnf)
            | (refine step_kinds 2 ?hk ?_; (case hk => decide +kernel); conv => whnf)
            | (refine step_kinds 3 ?hk ?_; (case hk => decide +kernel); conv => whnf)
            | (refine Case.strT rfl ?_; conv => whnf)
            | (refine Case.isTrue (by first | (simp; done) | fail "x") ?_; conv => whnf)
            | (refine Case.boolT ?_; conv => whnf)
            | (refine Owes.mk strs_row ?_; conv => whnf)
            | (refine Owes.mk toksF_row ?_; conv => whnf)
            | (refine Owes.mk pss_row ?_; conv => whnf)
            | (refine Elem.mk i _ rfl (map_get hk) ?_; conv => whnf)
            | (refine hq.call ⟨rfl, rfl, rfl⟩ ?_; conv => whnf)
            | (refine Num.id (by omega) (by omega) ?_; conv => whnf)
            | (refine Case.strI (fun _ => ?_) (fun _ => ?_) <;> conv => whnf)
            | (refine Both.mk ?_ ?_ <;> conv => whnf)
            | (refine Case.dec (fun _ => ?_) (fun _ => ?_) <;> conv => whnf)
            | (refine Case.beqI (fun _ => ?_) (fun _ => ?_) <;> conv => whnf)
            | (refine Case.mk (fun _ => ?_) (fun _ => ?_) <;> conv => whnf)
            | (refine Way.fst ?_; conv => whnf)
          refine ⟨i + 1, by omega, by omega, ?_⟩
          repeat' first | exact trivial | exact rfl | exact Nat.zero_le _ | exact Nat.zero_lt_succ _ | exact (by decide : (0 : Nat) < 1) | exact (by decide : (1 : Nat) < 4) | exact (by decide : (2 : Nat) < 4) | exact (by decide : (3 : Nat) < 4) | exact (by decide : (1 : Nat) < 2) | exact (by decide : (2 : Nat) < 3) | exact congrArg int (by (try dsimp only); omega) | exact congrArg bool (by (try dsimp only); simp; omega) | (show _ < List.length _; simp; done) | apply And.intro
        · conv => whnf
          exact Fin.isB rfl
set_option maxHeartbeats 2000000 in
theorem sameSelectors_step (Q : List (List F) → Prop) (hQ : ∀ l, Q l → Pure 16 [.f (.sl l), .f (.sl l)] (bool true)) (l : List Selr) (hl : l.length < 1000000000) (hs : ∀ s ∈ l, s.length < 1000000000 ∧ ∀ p ∈ s, CmpOk Q p.2) : Pure 16 [.f (.sl (l.map selRow)), .f (.sl (l.map selRow))] (bool true) := by
  have l1 : (l.map selRow).length = l.length := List.length_map ..
  refine .mk trivial (spec_mk tab_ok Try.func16 (by rfl) rfl ?_)
  conv => whnf
  repeat' first
    | (refine Case.not ?_; conv => whnf)
    | (refine Case.yes ?_; conv => whnf)
    | (refine Case.no ?_; conv => whnf)
    | (refine Case.isTrue (by assumption) ?_; conv => whnf)
    | (refine Case.isFalse (by assumption) ?_; conv => whnf)
    | (refine Case.decT (by assumption) ?_; conv => whnf)
    | (refine Case.decF (by assumption) ?_; conv => whnf)
    | (refine Case.decT (by omega) ?_; conv => whnf)
    | (refine Case.decF (by omega) ?_; conv => whnf)
    | (refine Case.beqT (by omega) ?_; conv => whnf)
    | (refine Case.beqF (by omega) ?_; conv => whnf)
    | (refine Case.strT (by assumption) ?_; conv => whnf)
    | (refine Case.strF (by assumption) ?_; conv => whnf)
    | (refine Case.strF (by simp only [*]; decide) ?_; conv => whnf)
    | (refine step_kinds 2 ?hk ?_; (case hk => decide +kernel); conv => whnf)
    | (refine step_kinds 3 ?hk ?_; (case hk => decide +kernel); conv => whnf)
    | (refine Case.strT rfl ?_; conv => whnf)
    | (refine Case.isTrue (by first | (simp; done) | fail "x") ?_; conv => whnf)
    | (refine Case.boolT ?_; conv => whnf)
    | (refine Owes.mk strs_row ?_; conv => whnf)
    | (refine Owes.mk toksF_row ?_; conv => whnf)
    | (refine Num.id (by omega) (by omega) ?_; conv => whnf)
    | (refine Case.strI (fun _ => ?_) (fun _ => ?_) <;> conv => whnf)
    | (refine Both.mk ?_ ?_ <;> conv => whnf)
    | (refine Case.dec (fun _ => ?_) (fun _ => ?_) <;> conv => whnf)
    | (refine Case.beqI (fun _ => ?_) (fun _ => ?_) <;> conv => whnf)
    | (refine Case.mk (fun _ => ?_) (fun _ => ?_) <;> conv => whnf)
    | (refine Way.fst ?_; conv => whnf)
  refine step_loop tab_ok (fun i : Nat => padK [.f (.sl (l.map selRow)), .f (.sl (l.map selRow)), .junk, .junk, .junk, int i] 82) (fun _ => []) 0 (fun i => i ≤ l.length) (fun i => l.length - i) 0 (by omega) (fun _ => rfl) ?_ ?_
  ·
    repeat' first | exact trivial | exact rfl | exact Nat.zero_le _ | exact Nat.zero_lt_succ _ | exact (by decide : (0 : Nat) < 1) | exact (by decide : (1 : Nat) < 4) | exact (by decide : (2 : Nat) < 4) | exact (by decide : (3 : Nat) < 4) | exact (by decide : (1 : Nat) < 2) | exact (by decide : (2 : Nat) < 3) | exact congrArg int (by (try dsimp only); omega) | exact congrArg bool (by (try dsimp only); simp; omega) | (show _ < List.length _; simp; done) | apply And.intro
  · intro i hi
    conv => whnf
    refine Case.dec (fun h0 => ?_) (fun h0 => ?_)
    · obtain ⟨s, hk⟩ : ∃ s, l[i]? = some s := ⟨_, List.getElem?_eq_getElem (by omega)⟩
      obtain ⟨hs1, hs2⟩ := hs s (List.mem_of_getElem? hk)
      have l2 : (s.map partRow).length = s.length := List.length_map ..
      conv => whnf
      repeat' first
        | (refine Case.not ?_; conv => whnf)
        | (refine Case.yes ?_; conv => whnf)
        | (refine Case.no ?_; conv => whnf)
        | (refine Case.isTrue (by assumption) ?_; conv => whnf)
        | (refine Case.isFalse (by assumption) ?_; conv => whnf)
        | (refine Case.decT (by assumption) ?_; conv => whnf)
        | (refine Case.decF (by assumption) ?_; conv => whnf)
        | (refine Case.decT (by omega) ?_; conv => whnf)
        | (refine Case.decF (by omega) ?_; conv => whnf)
        | (refine Case.beqT (by omega) ?_; conv => whnf)
        | (refine Case.beqF (by omega) ?_; conv => whnf)
        | (refine Case.strT (by assumption) ?_; conv => whnf)
        | (refine Case.strF (by assumption) ?_; conv => whnf)
        | (refine Case.strF (by simp only [*]; decide) ?_; conv => whnf)
        | (refine step_kinds 2 ?hk ?_; (case hk => decide +kernel); conv => whnf)
        | (refine step_kinds 3 ?hk ?_; (case hk => decide +kernel); conv => whnf)
        | (refine Case.strT rfl ?_; conv => whnf)
        | (refine Case.isTrue (by first | (simp; done) | fail "x") ?_; conv => whnf)
        | (refine Case.boolT ?_; conv => whnf)
        | (refine Owes.mk strs_row ?_; conv => whnf)
        | (refine Owes.mk toksF_row ?_; conv => whnf)
        | (refine Owes.mk sels_row ?_; conv => whnf)
        | (refine Elem.mk i _ rfl (map_get hk) ?_; conv => whnf)
        | (refine Num.id (by omega) (by omega) ?_; conv => whnf)
        | (refine Case.strI (fun _ => ?_) (fun _ => ?_) <;> conv => whnf)
        | (refine Both.mk ?_ ?_ <;> conv => whnf)
        | (refine Case.dec (fun _ => ?_) (fun _ => ?_) <;> conv => whnf)
        | (refine Case.beqI (fun _ => ?_) (fun _ => ?_) <;> conv => whnf)
        | (refine Case.mk (fun _ => ?_) (fun _ => ?_) <;> conv => whnf)
        | (refine Way.fst ?_; conv => whnf)
      refine step_loop tab_ok (fun k : Nat => padK [.f (.sl (l.map selRow)), .f (.sl (l.map selRow)), .junk, .junk, .junk, int i, int k] 82) (fun _ => []) 0 (fun k => k ≤ s.length) (fun k => s.length - k) 0 (by omega) (fun _ => rfl) ?_ ?_
      ·
        repeat' first | exact trivial | exact rfl | exact Nat.zero_le _ | exact Nat.zero_lt_succ _ | exact (by decide : (0 : Nat) < 1) | exact (by decide : (1 : Nat) < 4) | exact (by decide : (2 : Nat) < 4) | exact (by decide : (3 : Nat) < 4) | exact (by decide : (1 : Nat) < 2) | exact (by decide : (2 : Nat) < 3) | exact congrArg int (by (try dsimp only); omega) | exact congrArg bool (by (try dsimp only); simp; omega) | (show _ < List.length _; simp; done) | apply And.intro
      · intro k hk1
        conv => whnf
        repeat' first
          | (refine Case.not ?_; conv => whnf)
          | (refine Case.yes ?_; conv => whnf)
          | (refine Case.no ?_; conv => whnf)
          | (refine Case.isTrue (by assumption) ?_; conv => whnf)
          | (refine Case.isFalse (by assumption) ?_; conv => whnf)
          | (refine Case.decT (by assumption) ?_; conv => whnf)
          | (refine Case.decF (by assumption) ?_; conv => whnf)
          | (refine Case.decT (by omega) ?_; conv => whnf)
          | (refine Case.decF (by omega) ?_; conv => whnf)
          | (refine Case.beqT (by omega) ?_; conv => whnf)
          | (refine Case.beqF (by omega) ?_; conv => whnf)
          | (refine Case.strT (by assumption) ?_; conv => whnf)
          | (refine Case.strF (by assumption) ?_; conv => whnf)
          | (refine Case.strF (by simp only [*]; decide) ?_; conv => whnf)
          | (refine step_kinds 2 ?hk ?_; (case hk => decide +kernel); conv => whnf)
          | (refine step_kinds 3 ?hk ?_; (case hk => decide +kernel); conv => whnf)
          | (refine Case.strT rfl ?_; conv => whnf)
          | (refine Case.isTrue (by first | (simp; done) | fail "x") ?_; conv => whnf)
          | (refine Case.boolT ?_; conv => whnf)
          | (refine Owes.mk strs_row ?_; conv => whnf)
          | (refine Owes.mk toksF_row ?_; conv => whnf)
          | (refine Owes.mk sels_row ?_; conv => whnf)
          | (refine Elem.mk i _ rfl (map_get hk) ?_; conv => whnf)
          | (refine Num.id (by omega) (by omega) ?_; conv => whnf)
          | (refine Case.strI (fun _ => ?_) (fun _ => ?_) <;> conv => whnf)
          | (refine Both.mk ?_ ?_ <;> conv => whnf)
          | (refine Case.dec (fun _ => ?_) (fun _ => ?_) <;> conv => whnf)
          | (refine Case.beqI (fun _ => ?_) (fun _ => ?_) <;> conv => whnf)
          | (refine Case.mk (fun _ => ?_) (fun _ => ?_) <;> conv => whnf)
          | (refine Way.fst ?_; conv => whnf)
        · obtain ⟨p, hp⟩ : ∃ p, s[k]? = some p := ⟨_, List.getElem?_eq_getElem (by omega)⟩
          have hcc := sameCompound_spec Q hQ p.2 (hs2 p (List.mem_of_getElem? hp))
          repeat' first
            | (refine Case.not ?_; conv => whnf)
            | (refine Case.yes ?_; conv => whnf)
            | (refine Case.no ?_; conv => whnf)
            | (refine Case.isTrue (by assumption) ?_; conv => whnf)
            | (refine Case.isFalse (by assumption) ?_; conv => whnf)
            | (refine Case.decT (by assumption) ?_; conv => whnf)
            | (refine Case.decF (by assumption) ?_; conv => whnf)
            | (refine Case.decT (by omega) ?_; conv => whnf)
            | (refine Case.decF (by omega) ?_; conv => whnf)
            | (refine Case.beqT (by omega) ?_; conv => whnf)
            | (refine Case.beqF (by omega) ?_; conv => whnf)
            | (refine Case.strT (by assumption) ?_; conv => whnf)
            | (refine Case.strF (by assumption) ?_; conv => whnf)
            | (refine Case.strF (by simp only [*]; decide) ?_; conv => whnf)
            | (refine step_kinds 2 ?hk ?_; (case hk => decide +kernel); conv => whnf)
            | (refine step_kinds 3 ?hk ?_; (case hk => decide +kernel); conv => whnf)
            | (refine Case.strT rfl ?_; conv => whnf)
            | (refine Case.isTrue (by first | (simp; done) | fail "x") ?_; conv => whnf)
            | (refine Case.boolT ?_; conv => whnf)
            | (refine Owes.mk strs_row ?_; conv => whnf)
            | (refine Owes.mk toksF_row ?_; conv => whnf)
            | (refine Owes.mk sels_row ?_; conv => whnf)
            | (refine Owes.mk parts_row ?_; conv => whnf)
            | (refine Elem.mk i _ rfl (map_get hk) ?_; conv => whnf)
            | (refine Elem.mk k _ rfl (map_get hp) ?_; conv => whnf)
            | (refine hcc.call ⟨⟨rfl, rfl, rfl, rfl, rfl, rfl⟩, ⟨rfl, rfl, rfl, rfl, rfl, rfl⟩, rfl⟩ ?_; conv => whnf)
            | (refine hcc.callB ⟨⟨rfl, rfl, rfl, rfl, rfl, rfl⟩, ⟨rfl, rfl, rfl, rfl, rfl, rfl⟩, rfl⟩ ?_; conv => whnf)
            | (refine Num.id (by omega) (by omega) ?_; conv => whnf)
            | (refine Case.strI (fun _ => ?_) (fun _ => ?_) <;> conv => whnf)
            | (refine Both.mk ?_ ?_ <;> conv => whnf)
            | (refine Case.dec (fun _ => ?_) (fun _ => ?_) <;> conv => whnf)
            | (refine Case.beqI (fun _ => ?_) (fun _ => ?_) <;> conv => whnf)
            | (refine Case.mk (fun _ => ?_) (fun _ => ?_) <;> conv => whnf)
            | (refine Way.fst ?_; conv => whnf)
          refine ⟨k + 1, by omega, by omega, ?_⟩
          repeat' first | exact trivial | exact rfl | exact Nat.zero_le _ | exact Nat.zero_lt_succ _ | exact (by decide : (0 : Nat) < 1) | exact (by decide : (1 : Nat) < 4) | exact (by decide : (2 : Nat) < 4) | exact (by decide : (3 : Nat) < 4) | exact (by decide : (1 : Nat) < 2) | exact (by decide : (2 : Nat) < 3) | exact congrArg int (by (try dsimp only); omega) | exact congrArg bool (by (try dsimp only); simp; omega) | (show _ < List.length _; simp; done) | apply And.intro
        · refine ⟨i + 1, by omega, by omega, ?_⟩
          repeat' first | exact trivial | exact rfl | exact Nat.zero_le _ | exact Nat.zero_lt_succ _ | exact (by decide : (0 : Nat) < 1) | exact (by decide : (1 : Nat) < 4) | exact (by decide : (2 : Nat) < 4) | exact (by decide : (3 : Nat) < 4) | exact (by decide : (1 : Nat) < 2) | exact (by decide : (2 : Nat) < 3) | exact congrArg int (by (try dsimp only); omega) | exact congrArg bool (by (try dsimp only); simp; omega) | (show _ < List.length _; simp; done) | apply And.intro
    · conv => whnf
      exact Fin.isB rfl
theorem sameSelectors_nil : Pure 16 [.f (.sl []), .f (.sl [])] (bool true) :=
  sameSelectors_step (fun _ => False) (fun _ h => h.elim) [] (by simp) (by simp)
theorem sameSelectors_spec : ∀ (k : Nat) (l : List Selr), SelOk k l → Pure 16 [.f (.sl (l.map selRow)), .f (.sl (l.map selRow))] (bool true)
  | 0, l, h => by
    unfold SelOk at h
    refine sameSelectors_step (fun r => r = []) (fun _ h => by subst h; exact sameSelectors_nil) l h.1 (fun s hs => ⟨(h.2 s hs).1, fun p hp => ?_⟩)
    obtain ⟨g1, g2, g3, g4, g5⟩ := (h.2 s hs).2 p hp
    exact ⟨g1, g2, g3, g4, g5⟩
  | k + 1, l, h => by
    unfold SelOk at h
    refine sameSelectors_step (fun r => ∃ l', r = l'.map selRow ∧ SelOk k l') (fun _ h => by obtain ⟨l', rfl, h⟩ := h; exact sameSelectors_spec k l' h) l h.1 (fun s hs => ⟨(h.2 s hs).1, fun p hp => ?_⟩)
    obtain ⟨g1, g2, g3, g4, g5⟩ := (h.2 s hs).2 p hp
    exact ⟨g1, g2, g3, g4, g5⟩
end Go.Proofs.Ytdfiegleaknleaa.Aw
