/- TokParts, TokComments. -/
import Derived.Test.YtdenafhfngnlfaaDoorXyQ
import Derived.Test.YtdenafhfngnlfaaDoorXkT
import Derived.Test.YtdenafhfngnlfaaDoorXlG
import Derived.Test.YtdenafhfngnlfaaDoorXrS
import Derived.Test.YtdenafhfngnlfaaDoorAwW
namespace Go.Proofs.YtdenafhfngnlfaaDoor.Aw
open Go Go.RowKit Go.Lib
set_option linter.unusedVariables false
set_option linter.unusedSimpArgs false
set_option maxRecDepth 100000
theorem mem_bytes {p : UInt8 → Prop} {a : List UInt8} (h : ∀ j, j < a.length → ∀ c, a[j]? = some c → p c) : ∀ c ∈ a, p c := fun c hc => by
  obtain ⟨i, hi, rfl⟩ := List.mem_iff_getElem.1 hc
  exact h i hi _ (List.getElem?_eq_getElem hi)
structure ParI (a : List UInt8) (i : Nat) : Prop where
  le : i ≤ a.length
  ok : ∀ j, j < i → ∀ c, a[j]? = some c → c.toNat ≠ 92 ∧ c.toNat ≠ 34 ∧ c.toNat ≠ 39 ∧ c.toNat ≠ 47
set_option maxHeartbeats 4000000 in
theorem parts4_spec (a b : List UInt8) : Pure 9 [.f (.sl (a.map byteRow)), .f (.sl (b.map byteRow))] (bool true) := by
  have hal : (a.map byteRow).length = a.length := List.length_map ..
  have hbl : (b.map byteRow).length = b.length := List.length_map ..
  refine ⟨trivial, spec_mk tab_ok Tryd.func9 (by rfl) rfl ?_⟩
  conv => whnf
  repeat' first
    | (refine Case.not ?_; conv => whnf)
    | (refine Case.yes ?_; conv => whnf)
    | (refine Case.no ?_; conv => whnf)
    | (refine Case.isTrue (by assumption) ?_; conv => whnf)
    | (refine Case.isFalse (by assumption) ?_; conv => whnf)
    | (refine Case.decT (by assumption) ?_; conv => whnf)
    | (refine Case.decF (by assumption) ?_; conv => whnf)
    | (refine Case.decT (by omega) ?_; conv => whnf)
    | (refine Case.decF (by omega) ?_; conv => whnf)
    | (refine Case.beqT (by omega) ?_; conv => whnf)
    | (refine Case.beqF (by omega) ?_; conv => whnf)
    | (refine Case.strT (by assumption) ?_; conv => whnf)
    | (refine Case.strF (by assumption) ?_; conv => whnf)
    | (refine Case.strF (by simp only [*]; decide) ?_; conv => whnf)
    | (refine alive4_spec.call rfl ?_; conv => whnf)
    | (refine step_kinds 2 ?hk ?_; (case hk => decide +kernel); conv => whnf)
    | (refine step_kinds 3 ?hk ?_; (case hk => decide +kernel); conv => whnf)
    | (refine step_auto 2 ?hk ?_; (case hk => decide +kernel); conv => whnf)
    | (refine step_auto 3 ?hk ?_; (case hk => decide +kernel); conv => whnf)
    | (refine Num.id (by omega) (by omega) ?_; conv => whnf)
    | (refine Case.strI (fun _ => ?_) (fun _ => ?_) <;> conv => whnf)
    | (refine Both.mk ?_ ?_ <;> conv => whnf)
    | (refine Case.dec (fun _ => ?_) (fun _ => ?_) <;> conv => whnf)
    | (refine Case.beqI (fun _ => ?_) (fun _ => ?_) <;> conv => whnf)
    | (refine Case.mk (fun _ => ?_) (fun _ => ?_) <;> conv => whnf)
    | (refine Way.fst ?_; conv => whnf)
  · exact Fin.isB rfl
  · exact Fin.isB rfl
  · have hl : a.length ≤ 500 ∧ b.length ≤ 500 := by omega
    refine step_loop tab_ok (fun i : Nat => padK [.f (.sl (a.map byteRow)), .f (.sl (b.map byteRow)), .junk, .junk, .junk, bool true, int i] 118) (fun _ => []) 0 (ParI a) (fun i => a.length - i) 0 ⟨by simp, by simp⟩ (fun _ => rfl) ?_ ?_
    ·
      repeat' first | exact trivial | exact rfl | exact Nat.zero_le _ | exact Nat.zero_lt_succ _ | exact (by decide : (0 : Nat) < 1) | exact (by decide : (1 : Nat) < 4) | exact (by decide : (2 : Nat) < 4) | exact (by decide : (3 : Nat) < 4) | exact (by decide : (1 : Nat) < 2) | exact (by decide : (2 : Nat) < 3) | exact congrArg int (by (try dsimp only); omega) | exact congrArg bool (by (try dsimp only); simp; omega) | (show _ < List.length _; simp; done) | apply And.intro
    · rintro i ⟨h1, h2⟩
      conv => whnf
      refine Case.dec (fun h0 => ?_) (fun h0 => ?_)
      · have hi : i < a.length := by omega
        conv => whnf
        repeat' first
          | (refine Case.not ?_; conv => whnf)
          | (refine Case.yes ?_; conv => whnf)
          | (refine Case.no ?_; conv => whnf)
          | (refine Case.isTrue (by assumption) ?_; conv => whnf)
          | (refine Case.isFalse (by assumption) ?_; conv => whnf)
          | (refine Case.decT (by assumption) ?_; conv => whnf)
          | (refine Case.decF (by assumption) ?_; conv => whnf)
          | (refine Case.decT (by omega) ?_; conv => whnf)
          | (refine Case.decF (by omega) ?_; conv => whnf)
          | (refine Case.beqT (by omega) ?_; conv => whnf)
          | (refine Case.beqF (by omega) ?_; conv => whnf)
          | (refine Case.strT (by assumption) ?_; conv => whnf)
          | (refine Case.strF (by assumption) ?_; conv => whnf)
          | (refine Case.strF (by simp only [*]; decide) ?_; conv => whnf)
          | (refine Owes.mk byteRow_len ?_; conv => whnf)
          | (refine Elem.mk i _ rfl (rowAt (by omega)) ?_; conv => whnf)
          | (refine step_kinds 2 ?hk ?_; (case hk => decide +kernel); conv => whnf)
          | (refine step_kinds 3 ?hk ?_; (case hk => decide +kernel); conv => whnf)
          | (refine step_auto 2 ?hk ?_; (case hk => decide +kernel); conv => whnf)
          | (refine step_auto 3 ?hk ?_; (case hk => decide +kernel); conv => whnf)
          | (refine Num.id (by omega) (by omega) ?_; conv => whnf)
          | (refine Case.strI (fun _ => ?_) (fun _ => ?_) <;> conv => whnf)
          | (refine Both.mk ?_ ?_ <;> conv => whnf)
          | (refine Case.dec (fun _ => ?_) (fun _ => ?_) <;> conv => whnf)
          | (refine Case.beqI (fun _ => ?_) (fun _ => ?_) <;> conv => whnf)
          | (refine Case.mk (fun _ => ?_) (fun _ => ?_) <;> conv => whnf)
          | (refine Way.fst ?_; conv => whnf)
        all_goals first | exact Fin.isB rfl | skip
        refine ⟨i + 1, ⟨by omega, fun j hj c hc => ?_⟩, by omega, ?_⟩
        · rcases Nat.lt_or_ge j i with h | h
          · exact h2 j h c hc
          · obtain rfl : j = i := by omega
            have e : bAt a j = c.toNat := by simp [bAt, List.getD_eq_getElem?_getD, hc]
            omega
        ·
          repeat' first | exact trivial | exact rfl | exact Nat.zero_le _ | exact Nat.zero_lt_succ _ | exact (by decide : (0 : Nat) < 1) | exact (by decide : (1 : Nat) < 4) | exact (by decide : (2 : Nat) < 4) | exact (by decide : (3 : Nat) < 4) | exact (by decide : (1 : Nat) < 2) | exact (by decide : (2 : Nat) < 3) | exact congrArg int (by (try dsimp only); omega) | exact congrArg bool (by (try dsimp only); simp; omega) | (show _ < List.length _; simp; done) | apply And.intro
      · have hia : i = a.length := by omega
        subst hia
        have ha := mem_bytes (p := fun c => c.toNat ≠ 92 ∧ c.toNat ≠ 34 ∧ c.toNat ≠ 39 ∧ c.toNat ≠ 47) h2
        clear h1 h2 h0
        conv => whnf
        repeat' first
          | (refine Case.not ?_; conv => whnf)
          | (refine Case.yes ?_; conv => whnf)
          | (refine Case.no ?_; conv => whnf)
          | (refine Case.isTrue (by assumption) ?_; conv => whnf)
          | (refine Case.isFalse (by assumption) ?_; conv => whnf)
          | (refine Case.decT (by assumption) ?_; conv => whnf)
          | (refine Case.decF (by assumption) ?_; conv => whnf)
          | (refine Case.decT (by omega) ?_; conv => whnf)
          | (refine Case.decF (by omega) ?_; conv => whnf)
          | (refine Case.beqT (by omega) ?_; conv => whnf)
          | (refine Case.beqF (by omega) ?_; conv => whnf)
          | (refine Case.strT (by assumption) ?_; conv => whnf)
          | (refine Case.strF (by assumption) ?_; conv => whnf)
          | (refine Case.strF (by simp only [*]; decide) ?_; conv => whnf)
          | (refine Owes.mk byteRow_len ?_; conv => whnf)
          | (refine step_kinds 2 ?hk ?_; (case hk => decide +kernel); conv => whnf)
          | (refine step_kinds 3 ?hk ?_; (case hk => decide +kernel); conv => whnf)
          | (refine step_auto 2 ?hk ?_; (case hk => decide +kernel); conv => whnf)
          | (refine step_auto 3 ?hk ?_; (case hk => decide +kernel); conv => whnf)
          | (refine Num.id (by omega) (by omega) ?_; conv => whnf)
          | (refine Case.strI (fun _ => ?_) (fun _ => ?_) <;> conv => whnf)
          | (refine Both.mk ?_ ?_ <;> conv => whnf)
          | (refine Case.dec (fun _ => ?_) (fun _ => ?_) <;> conv => whnf)
          | (refine Case.beqI (fun _ => ?_) (fun _ => ?_) <;> conv => whnf)
          | (refine Case.mk (fun _ => ?_) (fun _ => ?_) <;> conv => whnf)
          | (refine Way.fst ?_; conv => whnf)
        refine step_loop tab_ok (fun _ : Unit => padK [.f (.sl (a.map byteRow)), .f (.sl (b.map byteRow)), .junk, .junk, .junk, bool true, .junk, int 0] 118) (fun _ => []) 0 (fun _ => True) (fun _ => 0) () trivial (fun _ => rfl) ?_ ?_
        ·
          repeat' first | exact trivial | exact rfl | exact Nat.zero_le _ | exact Nat.zero_lt_succ _ | exact (by decide : (0 : Nat) < 1) | exact (by decide : (1 : Nat) < 4) | exact (by decide : (2 : Nat) < 4) | exact (by decide : (3 : Nat) < 4) | exact (by decide : (1 : Nat) < 2) | exact (by decide : (2 : Nat) < 3) | exact congrArg int (by (try dsimp only); omega) | exact congrArg bool (by (try dsimp only); simp; omega) | (show _ < List.length _; simp; done) | apply And.intro
        · intro _ _
          conv => whnf
          by_cases hb : ∀ x r, b = x :: r → x.toNat ≠ 10 ∧ x.toNat ≠ 13 ∧ x.toNat ≠ 12 ∧ x.toNat ≠ 9 ∧ x.toNat ≠ 32
          · have h1 := of4_val (a ++ [59]) (by simp; omega)
            have h2 := of4_val b (by omega)
            have h3 := of4_val (a ++ [59, 32] ++ b) (by simp; omega)
            have e1 : (a ++ [59] : List UInt8).map byteRow = a.map byteRow ++ [[F.v (.int .u8 59)]] := by simp [byteRow]
            have e3 : (a ++ [59, 32] ++ b : List UInt8).map byteRow = a.map byteRow ++ (⟨#[59, 32]⟩ : ByteArray).data.toList.map byteRow ++ b.map byteRow := by simp [byteRow]
            have eT : ofB (a ++ [59, 32] ++ b) = ofB (a ++ [59]) ++ [{ kind := 9 }] ++ ofB b := law_parts a b ha hb
            have hT : (ofB (a ++ [59]) ++ [{ kind := 9 }] ++ ofB b : List Tok).length < 1000000 := by
              have := tokens_len (prepare (a ++ [59]))
              have := prepare_len (a ++ [59])
              have := tokens_len (prepare b)
              have := prepare_len b
              unfold ofB
              simp at *
              omega
            have hs := sameTokens_spec (ofB (a ++ [59]) ++ [{ kind := 9 }] ++ ofB b) (by omega)
            have e2 : toksF (ofB (a ++ [59]) ++ [{ kind := 9 }] ++ ofB b) = (ofB (a ++ [59])).map tokRow ++ [tokRow { kind := 9 }] ++ (ofB b).map tokRow := by simp [toksF]
            rw [eT] at h3
            rw [e1] at h1
            rw [e3] at h3
            have hs2 : Pure 13 [.f (.sl ((ofB (a ++ [59]) ++ [({ kind := 9 } : Tok)] ++ ofB b).map tokRow)), .f (.sl ((ofB (a ++ [59])).map tokRow ++ [tokRow { kind := 9 }] ++ (ofB b).map tokRow))] (bool true) := by rw [← e2]; exact hs
            have g1 : ((ofB (a ++ [59])).map tokRow).length = (ofB (a ++ [59])).length := List.length_map ..
            have g2 : ((ofB b).map tokRow).length = (ofB b).length := List.length_map ..
            simp only [List.length_append, List.length_cons, List.length_nil] at hT
            clear hs e2 eT e1 e3 ha
            repeat' first
              | (refine Case.not ?_; conv => whnf)
              | (refine Case.yes ?_; conv => whnf)
              | (refine Case.no ?_; conv => whnf)
              | (refine Case.isTrue (by assumption) ?_; conv => whnf)
              | (refine Case.isFalse (by assumption) ?_; conv => whnf)
              | (refine Case.decT (by assumption) ?_; conv => whnf)
              | (refine Case.decF (by assumption) ?_; conv => whnf)
              | (refine Case.decT (by omega) ?_; conv => whnf)
              | (refine Case.decF (by omega) ?_; conv => whnf)
              | (refine Case.beqT (by omega) ?_; conv => whnf)
              | (refine Case.beqF (by omega) ?_; conv => whnf)
              | (refine Case.strT (by assumption) ?_; conv => whnf)
              | (refine Case.strF (by assumption) ?_; conv => whnf)
              | (refine Case.strF (by simp only [*]; decide) ?_; conv => whnf)
              | (refine Owes.mk byteRow_len ?_; conv => whnf)
              | (refine Elem.mk 0 _ rfl (rowAt (by omega)) ?_; conv => whnf)
              | (refine h1.callO ?_; conv => whnf)
              | (refine h2.call ?_; conv => whnf)
              | (refine h3.callO ?_; conv => whnf)
              | (refine Owes.mk toks4_row ?_; conv => whnf)
              | (refine hs2.call ⟨rfl, rfl, rfl⟩ ?_; conv => whnf)
              | (refine hs2.callB ⟨rfl, rfl, rfl⟩ ?_; conv => whnf)
              | (refine Owes.mk (by simp only [List.length_append, List.length_map, List.length_cons, List.length_nil]; show _ * 1 ≤ _; omega) ?_; conv => whnf)
              | (refine Owes.mk (by simp only [List.length_append, List.length_map, List.length_cons, List.length_nil]; show _ * 48 ≤ _; omega) ?_; conv => whnf)
              | (refine step_kinds 2 ?hk ?_; (case hk => decide +kernel); conv => whnf)
              | (refine step_kinds 3 ?hk ?_; (case hk => decide +kernel); conv => whnf)
              | (refine step_auto 2 ?hk ?_; (case hk => decide +kernel); conv => whnf)
              | (refine step_auto 3 ?hk ?_; (case hk => decide +kernel); conv => whnf)
              | (refine Num.id (by omega) (by omega) ?_; conv => whnf)
              | (refine Case.strI (fun _ => ?_) (fun _ => ?_) <;> conv => whnf)
              | (refine Both.mk ?_ ?_ <;> conv => whnf)
              | (refine Case.dec (fun _ => ?_) (fun _ => ?_) <;> conv => whnf)
              | (refine Case.beqI (fun _ => ?_) (fun _ => ?_) <;> conv => whnf)
              | (refine Case.mk (fun _ => ?_) (fun _ => ?_) <;> conv => whnf)
              | (refine Way.fst ?_; conv => whnf)
            all_goals exact Fin.isB rfl
          · obtain ⟨x, r, rfl, hx⟩ : ∃ x r, b = x :: r ∧ (x.toNat = 10 ∨ x.toNat = 13 ∨ x.toNat = 12 ∨ x.toNat = 9 ∨ x.toNat = 32) := by
              cases b with
              | nil => exact absurd (fun x r h => by cases h) hb
              | cons x r => exact ⟨x, r, rfl, Classical.byContradiction fun h => hb (fun y s e => by cases e; omega)⟩
            have e0 : bAt (x :: r) 0 = x.toNat := rfl
            have e1 : ((x :: r).map byteRow).length = r.length + 1 := by simp
            repeat' first
              | (refine Case.not ?_; conv => whnf)
              | (refine Case.yes ?_; conv => whnf)
              | (refine Case.no ?_; conv => whnf)
              | (refine Case.isTrue (by assumption) ?_; conv => whnf)
              | (refine Case.isFalse (by assumption) ?_; conv => whnf)
              | (refine Case.decT (by assumption) ?_; conv => whnf)
              | (refine Case.decF (by assumption) ?_; conv => whnf)
              | (refine Case.decT (by omega) ?_; conv => whnf)
              | (refine Case.decF (by omega) ?_; conv => whnf)
              | (refine Case.beqT (by omega) ?_; conv => whnf)
              | (refine Case.beqF (by omega) ?_; conv => whnf)
              | (refine Case.strT (by assumption) ?_; conv => whnf)
              | (refine Case.strF (by assumption) ?_; conv => whnf)
              | (refine Case.strF (by simp only [*]; decide) ?_; conv => whnf)
              | (refine Owes.mk byteRow_len ?_; conv => whnf)
              | (refine Elem.mk 0 _ rfl (rowAt (by simp)) ?_; conv => whnf)
              | (refine step_kinds 2 ?hk ?_; (case hk => decide +kernel); conv => whnf)
              | (refine step_kinds 3 ?hk ?_; (case hk => decide +kernel); conv => whnf)
              | (refine step_auto 2 ?hk ?_; (case hk => decide +kernel); conv => whnf)
              | (refine step_auto 3 ?hk ?_; (case hk => decide +kernel); conv => whnf)
              | (refine Num.id (by omega) (by omega) ?_; conv => whnf)
              | (refine Case.strI (fun _ => ?_) (fun _ => ?_) <;> conv => whnf)
              | (refine Both.mk ?_ ?_ <;> conv => whnf)
              | (refine Case.dec (fun _ => ?_) (fun _ => ?_) <;> conv => whnf)
              | (refine Case.beqI (fun _ => ?_) (fun _ => ?_) <;> conv => whnf)
              | (refine Case.mk (fun _ => ?_) (fun _ => ?_) <;> conv => whnf)
              | (refine Way.fst ?_; conv => whnf)
            all_goals first | exact Fin.isB rfl | (exfalso; omega)
end Go.Proofs.YtdenafhfngnlfaaDoor.Aw
