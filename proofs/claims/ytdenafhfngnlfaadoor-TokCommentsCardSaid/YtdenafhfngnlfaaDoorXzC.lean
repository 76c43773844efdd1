/- TokComments. -/
import Derived.Test.YtdenafhfngnlfaaDoorXzP
namespace Go.Proofs.YtdenafhfngnlfaaDoor.Aw
open Go Go.RowKit Go.Lib
set_option linter.unusedVariables false
set_option linter.unusedSimpArgs false
set_option maxRecDepth 100000
structure ComI (b : List UInt8) (i : Nat) : Prop where
  le : i ≤ b.length
  ok : ∀ j, j < i → ∀ c, b[j]? = some c → c.toNat ≠ 42 ∧ c.toNat ≠ 47
set_option maxHeartbeats 4000000 in
theorem comments4_spec (a b c : List UInt8) : Pure 6 [.f (.sl (a.map byteRow)), .f (.sl (b.map byteRow)), .f (.sl (c.map byteRow))] (bool true) := by
  have hal : (a.map byteRow).length = a.length := List.length_map ..
  have hbl : (b.map byteRow).length = b.length := List.length_map ..
  have hcl : (c.map byteRow).length = c.length := List.length_map ..
  refine ⟨trivial, spec_mk tab_ok Tryd.func6 (by rfl) rfl ?_⟩
  conv => whnf
  repeat' first
    | (refine Case.not ?_; conv => whnf)
    | (refine Case.yes ?_; conv => whnf)
    | (refine Case.no ?_; conv => whnf)
    | (refine Case.isTrue (by assumption) ?_; conv => whnf)
    | (refine Case.isFalse (by assumption) ?_; conv => whnf)
    | (refine Case.decT (by assumption) ?_; conv => whnf)
    | (refine Case.decF (by assumption) ?_; conv => whnf)
    | (refine Case.decT (by omega) ?_; conv => whnf)
    | (refine Case.decF (by omega) ?_; conv => whnf)
    | (refine Case.beqT (by omega) ?_; conv => whnf)
    | (refine Case.beqF (by omega) ?_; conv => whnf)
    | (refine Case.strT (by assumption) ?_; conv => whnf)
    | (refine Case.strF (by assumption) ?_; conv => whnf)
    | (refine Case.strF (by simp only [*]; decide) ?_; conv => whnf)
    | (refine alive4_spec.call rfl ?_; conv => whnf)
    | (refine step_kinds 2 ?hk ?_; (case hk => decide +kernel); conv => whnf)
    | (refine step_kinds 3 ?hk ?_; (case hk => decide +kernel); conv => whnf)
    | (refine step_auto 2 ?hk ?_; (case hk => decide +kernel); conv => whnf)
    | (refine step_auto 3 ?hk ?_; (case hk => decide +kernel); conv => whnf)
    | (refine Num.id (by omega) (by omega) ?_; conv => whnf)
    | (refine Case.strI (fun _ => ?_) (fun _ => ?_) <;> conv => whnf)
    | (refine Both.mk ?_ ?_ <;> conv => whnf)
    | (refine Case.dec (fun _ => ?_) (fun _ => ?_) <;> conv => whnf)
    | (refine Case.beqI (fun _ => ?_) (fun _ => ?_) <;> conv => whnf)
    | (refine Case.mk (fun _ => ?_) (fun _ => ?_) <;> conv => whnf)
    | (refine Way.fst ?_; conv => whnf)
  · exact Fin.isB rfl
  · exact Fin.isB rfl
  · exact Fin.isB rfl
  · have hl : a.length ≤ 300 ∧ b.length ≤ 300 ∧ c.length ≤ 300 := by omega
    refine step_loop tab_ok (fun i : Nat => padK [.f (.sl (a.map byteRow)), .f (.sl (b.map byteRow)), .f (.sl (c.map byteRow)), .junk, .junk, .junk, .junk, bool true, int i] 129) (fun _ => []) 0 (ComI b) (fun i => b.length - i) 0 ⟨by simp, by simp⟩ (fun _ => rfl) ?_ ?_
    ·
      repeat' first | exact trivial | exact rfl | exact Nat.zero_le _ | exact Nat.zero_lt_succ _ | exact (by decide : (0 : Nat) < 1) | exact (by decide : (1 : Nat) < 4) | exact (by decide : (2 : Nat) < 4) | exact (by decide : (3 : Nat) < 4) | exact (by decide : (1 : Nat) < 2) | exact (by decide : (2 : Nat) < 3) | exact congrArg int (by (try dsimp only); omega) | exact congrArg bool (by (try dsimp only); simp; omega) | (show _ < List.length _; simp; done) | apply And.intro
    · rintro i ⟨h1, h2⟩
      conv => whnf
      refine Case.dec (fun h0 => ?_) (fun h0 => ?_)
      · have hi : i < b.length := by omega
        conv => whnf
        repeat' first
          | (refine Case.not ?_; conv => whnf)
          | (refine Case.yes ?_; conv => whnf)
          | (refine Case.no ?_; conv => whnf)
          | (refine Case.isTrue (by assumption) ?_; conv => whnf)
          | (refine Case.isFalse (by assumption) ?_; conv => whnf)
          | (refine Case.decT (by assumption) ?_; conv => whnf)
          | (refine Case.decF (by assumption) ?_; conv => whnf)
          | (refine Case.decT (by omega) ?_; conv => whnf)
          | (refine Case.decF (by omega) ?_; conv => whnf)
          | (refine Case.beqT (by omega) ?_; conv => whnf)
          | (refine Case.beqF (by omega) ?_; conv => whnf)
          | (refine Case.strT (by assumption) ?_; conv => whnf)
          | (refine Case.strF (by assumption) ?_; conv => whnf)
          | (refine Case.strF (by simp only [*]; decide) ?_; conv => whnf)
          | (refine Owes.mk byteRow_len ?_; conv => whnf)
          | (refine Elem.mk i _ rfl (rowAt (by omega)) ?_; conv => whnf)
          | (refine step_kinds 2 ?hk ?_; (case hk => decide +kernel); conv => whnf)
          | (refine step_kinds 3 ?hk ?_; (case hk => decide +kernel); conv => whnf)
          | (refine step_auto 2 ?hk ?_; (case hk => decide +kernel); conv => whnf)
          | (refine step_auto 3 ?hk ?_; (case hk => decide +kernel); conv => whnf)
          | (refine Num.id (by omega) (by omega) ?_; conv => whnf)
          | (refine Case.strI (fun _ => ?_) (fun _ => ?_) <;> conv => whnf)
          | (refine Both.mk ?_ ?_ <;> conv => whnf)
          | (refine Case.dec (fun _ => ?_) (fun _ => ?_) <;> conv => whnf)
          | (refine Case.beqI (fun _ => ?_) (fun _ => ?_) <;> conv => whnf)
          | (refine Case.mk (fun _ => ?_) (fun _ => ?_) <;> conv => whnf)
          | (refine Way.fst ?_; conv => whnf)
        all_goals first | exact Fin.isB rfl | skip
        refine ⟨i + 1, ⟨by omega, fun j hj c hc => ?_⟩, by omega, ?_⟩
        · rcases Nat.lt_or_ge j i with h | h
          · exact h2 j h c hc
          · obtain rfl : j = i := by omega
            have e : bAt b j = c.toNat := by simp [bAt, List.getD_eq_getElem?_getD, hc]
            omega
        ·
          repeat' first | exact trivial | exact rfl | exact Nat.zero_le _ | exact Nat.zero_lt_succ _ | exact (by decide : (0 : Nat) < 1) | exact (by decide : (1 : Nat) < 4) | exact (by decide : (2 : Nat) < 4) | exact (by decide : (3 : Nat) < 4) | exact (by decide : (1 : Nat) < 2) | exact (by decide : (2 : Nat) < 3) | exact congrArg int (by (try dsimp only); omega) | exact congrArg bool (by (try dsimp only); simp; omega) | (show _ < List.length _; simp; done) | apply And.intro
      · have hib : i = b.length := by omega
        subst hib
        have hb := mem_bytes (p := fun c => c.toNat ≠ 42 ∧ c.toNat ≠ 47) h2
        clear h1 h2 h0
        conv => whnf
        repeat' first
          | (refine Case.not ?_; conv => whnf)
          | (refine Case.yes ?_; conv => whnf)
          | (refine Case.no ?_; conv => whnf)
          | (refine Case.isTrue (by assumption) ?_; conv => whnf)
          | (refine Case.isFalse (by assumption) ?_; conv => whnf)
          | (refine Case.decT (by assumption) ?_; conv => whnf)
          | (refine Case.decF (by assumption) ?_; conv => whnf)
          | (refine Case.decT (by omega) ?_; conv => whnf)
          | (refine Case.decF (by omega) ?_; conv => whnf)
          | (refine Case.beqT (by omega) ?_; conv => whnf)
          | (refine Case.beqF (by omega) ?_; conv => whnf)
          | (refine Case.strT (by assumption) ?_; conv => whnf)
          | (refine Case.strF (by assumption) ?_; conv => whnf)
          | (refine Case.strF (by simp only [*]; decide) ?_; conv => whnf)
          | (refine Owes.mk byteRow_len ?_; conv => whnf)
          | (refine step_kinds 2 ?hk ?_; (case hk => decide +kernel); conv => whnf)
          | (refine step_kinds 3 ?hk ?_; (case hk => decide +kernel); conv => whnf)
          | (refine step_auto 2 ?hk ?_; (case hk => decide +kernel); conv => whnf)
          | (refine step_auto 3 ?hk ?_; (case hk => decide +kernel); conv => whnf)
          | (refine Num.id (by omega) (by omega) ?_; conv => whnf)
          | (refine Case.strI (fun _ => ?_) (fun _ => ?_) <;> conv => whnf)
          | (refine Both.mk ?_ ?_ <;> conv => whnf)
          | (refine Case.dec (fun _ => ?_) (fun _ => ?_) <;> conv => whnf)
          | (refine Case.beqI (fun _ => ?_) (fun _ => ?_) <;> conv => whnf)
          | (refine Case.mk (fun _ => ?_) (fun _ => ?_) <;> conv => whnf)
          | (refine Way.fst ?_; conv => whnf)
        refine step_loop tab_ok (fun i : Nat => padK [.f (.sl (a.map byteRow)), .f (.sl (b.map byteRow)), .f (.sl (c.map byteRow)), .junk, .junk, .junk, .junk, bool true, .junk, int i] 129) (fun _ => []) 0 (ParI a) (fun i => a.length - i) 0 ⟨by simp, by simp⟩ (fun _ => rfl) ?_ ?_
        ·
          repeat' first | exact trivial | exact rfl | exact Nat.zero_le _ | exact Nat.zero_lt_succ _ | exact (by decide : (0 : Nat) < 1) | exact (by decide : (1 : Nat) < 4) | exact (by decide : (2 : Nat) < 4) | exact (by decide : (3 : Nat) < 4) | exact (by decide : (1 : Nat) < 2) | exact (by decide : (2 : Nat) < 3) | exact congrArg int (by (try dsimp only); omega) | exact congrArg bool (by (try dsimp only); simp; omega) | (show _ < List.length _; simp; done) | apply And.intro
        · rintro i ⟨h1, h2⟩
          conv => whnf
          refine Case.dec (fun h0 => ?_) (fun h0 => ?_)
          · have hi : i < a.length := by omega
            conv => whnf
            repeat' first
              | (refine Case.not ?_; conv => whnf)
              | (refine Case.yes ?_; conv => whnf)
              | (refine Case.no ?_; conv => whnf)
              | (refine Case.isTrue (by assumption) ?_; conv => whnf)
              | (refine Case.isFalse (by assumption) ?_; conv => whnf)
              | (refine Case.decT (by assumption) ?_; conv => whnf)
              | (refine Case.decF (by assumption) ?_; conv => whnf)
              | (refine Case.decT (by omega) ?_; conv => whnf)
              | (refine Case.decF (by omega) ?_; conv => whnf)
              | (refine Case.beqT (by omega) ?_; conv => whnf)
              | (refine Case.beqF (by omega) ?_; conv => whnf)
              | (refine Case.strT (by assumption) ?_; conv => whnf)
              | (refine Case.strF (by assumption) ?_; conv => whnf)
              | (refine Case.strF (by simp only [*]; decide) ?_; conv => whnf)
              | (refine Owes.mk byteRow_len ?_; conv => whnf)
              | (refine Elem.mk i _ rfl (rowAt (by omega)) ?_; conv => whnf)
              | (refine step_kinds 2 ?hk ?_; (case hk => decide +kernel); conv => whnf)
              | (refine step_kinds 3 ?hk ?_; (case hk => decide +kernel); conv => whnf)
              | (refine step_auto 2 ?hk ?_; (case hk => decide +kernel); conv => whnf)
              | (refine step_auto 3 ?hk ?_; (case hk => decide +kernel); conv => whnf)
              | (refine Num.id (by omega) (by omega) ?_; conv => whnf)
              | (refine Case.strI (fun _ => ?_) (fun _ => ?_) <;> conv => whnf)
              | (refine Both.mk ?_ ?_ <;> conv => whnf)
              | (refine Case.dec (fun _ => ?_) (fun _ => ?_) <;> conv => whnf)
              | (refine Case.beqI (fun _ => ?_) (fun _ => ?_) <;> conv => whnf)
              | (refine Case.mk (fun _ => ?_) (fun _ => ?_) <;> conv => whnf)
              | (refine Way.fst ?_; conv => whnf)
            all_goals first | exact Fin.isB rfl | skip
            refine ⟨i + 1, ⟨by omega, fun j hj c hc => ?_⟩, by omega, ?_⟩
            · rcases Nat.lt_or_ge j i with h | h
              · exact h2 j h c hc
              · obtain rfl : j = i := by omega
                have e : bAt a j = c.toNat := by simp [bAt, List.getD_eq_getElem?_getD, hc]
                omega
            ·
              repeat' first | exact trivial | exact rfl | exact Nat.zero_le _ | exact Nat.zero_lt_succ _ | exact (by decide : (0 : Nat) < 1) | exact (by decide : (1 : Nat) < 4) | exact (by decide : (2 : Nat) < 4) | exact (by decide : (3 : Nat) < 4) | exact (by decide : (1 : Nat) < 2) | exact (by decide : (2 : Nat) < 3) | exact congrArg int (by (try dsimp only); omega) | exact congrArg bool (by (try dsimp only); simp; omega) | (show _ < List.length _; simp; done) | apply And.intro
          · have hia : i = a.length := by omega
            subst hia
            have ha := mem_bytes (p := fun c => c.toNat ≠ 92 ∧ c.toNat ≠ 34 ∧ c.toNat ≠ 39 ∧ c.toNat ≠ 47) h2
            clear h1 h2 h0
            have q1 := of4_val a (by omega)
            have q2 := of4_val ([47, 42] ++ b ++ [42, 47]) (by simp; omega)
            have q3 := of4_val (a ++ [47, 42] ++ b ++ [42, 47, 32]) (by simp; omega)
            have q4 := of4_val (a ++ [47, 42] ++ b) (by simp; omega)
            have q5 := of4_val c (by omega)
            have e2 : ([47, 42] ++ b ++ [42, 47] : List UInt8).map byteRow = [[F.v (.int .u8 47)], [F.v (.int .u8 42)]] ++ b.map byteRow ++ (⟨#[42, 47]⟩ : ByteArray).data.toList.map byteRow := by simp [byteRow]
            have e3 : (a ++ [47, 42] ++ b ++ [42, 47, 32] : List UInt8).map byteRow = a.map byteRow ++ (⟨#[47, 42]⟩ : ByteArray).data.toList.map byteRow ++ b.map byteRow ++ (⟨#[42, 47, 32]⟩ : ByteArray).data.toList.map byteRow := by simp [byteRow]
            have e4 : (a ++ [47, 42] ++ b : List UInt8).map byteRow = a.map byteRow ++ (⟨#[47, 42]⟩ : ByteArray).data.toList.map byteRow ++ b.map byteRow := by simp [byteRow]
            rw [show ofB ([47, 42] ++ b ++ [42, 47]) = [] from law_rest b hb, e2] at q2
            rw [show ofB (a ++ [47, 42] ++ b ++ [42, 47, 32]) = ofB a ++ [{ kind := 9 }] from law_all a b ha hb, e3] at q3
            rw [show ofB (a ++ [47, 42] ++ b) = ofB a from law_open a b ha hb, e4] at q4
            have hta := tokens_len (prepare a)
            have hpa := prepare_len a
            have htc := tokens_len (prepare c)
            have hpc := prepare_len c
            have g1 : ((ofB a).map tokRow).length = (ofB a).length := List.length_map ..
            have g2 : ((ofB c).map tokRow).length = (ofB c).length := List.length_map ..
            have hoa : (ofB a).length ≤ 300 := by unfold ofB; omega
            have hoc : (ofB c).length ≤ c.length := by unfold ofB; omega
            have hs1 := sameTokens_spec (ofB a) (by omega)
            have hs := sameTokens_spec (ofB a ++ [{ kind := 9 }]) (by simp; omega)
            have e5 : toksF (ofB a ++ [{ kind := 9 }]) = (ofB a).map tokRow ++ [tokRow { kind := 9 }] := by simp [toksF]
            have hs2 : Pure 13 [.f (.sl ((ofB a ++ [({ kind := 9 } : Tok)]).map tokRow)), .f (.sl ((ofB a).map tokRow ++ [tokRow { kind := 9 }]))] (bool true) := by rw [← e5]; exact hs
            clear hs e5 e2 e3 e4 ha hb hta hpa htc hpc
            conv => whnf
            repeat' first
              | (refine Case.not ?_; conv => whnf)
              | (refine Case.yes ?_; conv => whnf)
              | (refine Case.no ?_; conv => whnf)
              | (refine Case.isTrue (by assumption) ?_; conv => whnf)
              | (refine Case.isFalse (by assumption) ?_; conv => whnf)
              | (refine Case.decT (by assumption) ?_; conv => whnf)
              | (refine Case.decF (by assumption) ?_; conv => whnf)
              | (refine Case.decT (by omega) ?_; conv => whnf)
              | (refine Case.decF (by omega) ?_; conv => whnf)
              | (refine Case.beqT (by omega) ?_; conv => whnf)
              | (refine Case.beqF (by omega) ?_; conv => whnf)
              | (refine Case.strT (by assumption) ?_; conv => whnf)
              | (refine Case.strF (by assumption) ?_; conv => whnf)
              | (refine Case.strF (by simp only [*]; decide) ?_; conv => whnf)
              | (refine Owes.mk ⟨rfl, rfl, List.cons_ne_nil _ _⟩ ?_; conv => whnf)
              | (refine Way.snd ?_; conv => whnf)
              | (refine q1.call ?_; conv => whnf)
              | (refine q2.callO ?_; conv => whnf)
              | (refine q3.callO ?_; conv => whnf)
              | (refine q4.callO ?_; conv => whnf)
              | (refine q5.call ?_; conv => whnf)
              | (refine Owes.mk toks4_row ?_; conv => whnf)
              | (refine Owes.mk byteRow_len ?_; conv => whnf)
              | (refine hs1.call ⟨rfl, rfl, rfl⟩ ?_; conv => whnf)
              | (refine hs1.callB ⟨rfl, rfl, rfl⟩ ?_; conv => whnf)
              | (refine hs2.call ⟨rfl, rfl, rfl⟩ ?_; conv => whnf)
              | (refine hs2.callB ⟨rfl, rfl, rfl⟩ ?_; conv => whnf)
              | (refine Owes.mk (by simp only [List.length_append, List.length_map, List.length_cons, List.length_nil]; first | (show _ * 1 ≤ _; simp; omega) | (show _ * 48 ≤ _; omega) | fail "x") ?_; conv => whnf)
              | (refine step_kinds 2 ?hk ?_; (case hk => decide +kernel); conv => whnf)
              | (refine step_kinds 3 ?hk ?_; (case hk => decide +kernel); conv => whnf)
              | (refine step_auto 2 ?hk ?_; (case hk => decide +kernel); conv => whnf)
              | (refine step_auto 3 ?hk ?_; (case hk => decide +kernel); conv => whnf)
              | (refine Num.id (by omega) (by omega) ?_; conv => whnf)
              | (refine Case.strI (fun _ => ?_) (fun _ => ?_) <;> conv => whnf)
              | (refine Both.mk ?_ ?_ <;> conv => whnf)
              | (refine Case.dec (fun _ => ?_) (fun _ => ?_) <;> conv => whnf)
              | (refine Case.beqI (fun _ => ?_) (fun _ => ?_) <;> conv => whnf)
              | (refine Case.mk (fun _ => ?_) (fun _ => ?_) <;> conv => whnf)
              | (refine Way.fst ?_; conv => whnf)
            all_goals first | exact Fin.isB (decide_eq_true (by omega)) | exact Fin.isB rfl | trace_state
end Go.Proofs.YtdenafhfngnlfaaDoor.Aw
