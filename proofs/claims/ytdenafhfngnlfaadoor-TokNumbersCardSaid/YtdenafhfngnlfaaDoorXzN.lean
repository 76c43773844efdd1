/- TokNames. -/
import Derived.Test.YtdenafhfngnlfaaDoorXzB
import Derived.Test.YtdenafhfngnlfaaDoorAwVC
import Derived.Test.YtdenafhfngnlfaaDoorXyQ
import Derived.Test.YtdenafhfngnlfaaDoorXkU
import Derived.Test.YtdenafhfngnlfaaDoorXkV
import Derived.Test.YtdenafhfngnlfaaDoorXlG
import Derived.Test.YtdenafhfngnlfaaDoorXrS
namespace Go.Proofs.YtdenafhfngnlfaaDoor.Aw
open Go Go.RowKit Go.Lib
set_option linter.unusedVariables false
set_option linter.unusedSimpArgs false
set_option maxRecDepth 100000
def letB (c : UInt8) : Prop := (97 ≤ c.toNat ∧ c.toNat ≤ 122) ∨ (65 ≤ c.toNat ∧ c.toNat ≤ 90)
instance (c : UInt8) : Decidable (letB c) := by unfold letB; infer_instance
def nameB (s : List UInt8) : Bool := decide ((∀ c ∈ s, letB c) ∧ s ≠ [] ∧ s.length < 60)
structure NamJ (s : List UInt8) (i : Nat) : Prop where
  le : i ≤ s.length
  ok : ∀ j, j < i → ∀ c, s[j]? = some c → letB c
set_option maxHeartbeats 4000000 in
theorem name4_spec (s : List UInt8) (hsz0 : s.length ≤ 140737488351232) : Pure 12 [.str ⟨s.toArray⟩] (bool (nameB s)) := by
  have hsz : (⟨s.toArray⟩ : ByteArray).size = s.length := rfl
  refine ⟨trivial, spec_mk tab_ok Tryd.func12 (by rfl) rfl ?_⟩
  conv => whnf
  refine step_loop tab_ok (fun i : Nat => padK [.str ⟨s.toArray⟩, .junk, bool false, int i] 40) (fun _ => []) 0 (NamJ s) (fun i => s.length - i) 0 ⟨by simp, by simp⟩ (fun _ => rfl) ?_ ?_
  ·
    repeat' first | exact trivial | exact rfl | exact Nat.zero_le _ | exact Nat.zero_lt_succ _ | exact (by decide : (0 : Nat) < 1) | exact (by decide : (1 : Nat) < 4) | exact (by decide : (2 : Nat) < 4) | exact (by decide : (3 : Nat) < 4) | exact (by decide : (1 : Nat) < 2) | exact (by decide : (2 : Nat) < 3) | exact congrArg int (by (try dsimp only); omega) | exact congrArg bool (by (try dsimp only); simp; omega) | (show _ < List.length _; simp; done) | apply And.intro
  · rintro i ⟨h1, h2⟩
    conv => whnf
    refine Case.dec (fun h0 => ?_) (fun h0 => ?_)
    · have hi : i < s.length := by omega
      obtain ⟨c, hc⟩ : ∃ c, s[i]? = some c := ⟨_, List.getElem?_eq_getElem hi⟩
      have hg : (⟨s.toArray⟩ : ByteArray).data.toList[i]? = some c := hc
      have hbad : ¬ letB c → nameB s = false := fun hn => decide_eq_false fun h => hn (h.1 c (List.mem_of_getElem? hc))
      have hgood : letB c → NamJ s (i + 1) := fun hl => ⟨by omega, fun j hj x hx => by
        rcases Nat.lt_or_ge j i with h | h
        · exact h2 j h x hx
        · obtain rfl : j = i := by omega
          rw [hc] at hx
          cases hx
          exact hl⟩
      conv => whnf
      repeat' first
        | (refine Case.not ?_; conv => whnf)
        | (refine Case.yes ?_; conv => whnf)
        | (refine Case.no ?_; conv => whnf)
        | (refine Case.isTrue (by assumption) ?_; conv => whnf)
        | (refine Case.isFalse (by assumption) ?_; conv => whnf)
        | (refine Case.decT (by assumption) ?_; conv => whnf)
        | (refine Case.decF (by assumption) ?_; conv => whnf)
        | (refine Case.decT (by omega) ?_; conv => whnf)
        | (refine Case.decF (by omega) ?_; conv => whnf)
        | (refine Case.beqT (by omega) ?_; conv => whnf)
        | (refine Case.beqF (by omega) ?_; conv => whnf)
        | (refine Case.strT (by assumption) ?_; conv => whnf)
        | (refine Case.strF (by assumption) ?_; conv => whnf)
        | (refine Case.strF (by simp only [*]; decide) ?_; conv => whnf)
        | (refine Byte.mk i c rfl hg ?_; conv => whnf)
        | (refine step_kinds 2 ?hk ?_; (case hk => decide +kernel); conv => whnf)
        | (refine step_kinds 3 ?hk ?_; (case hk => decide +kernel); conv => whnf)
        | (refine step_auto 2 ?hk ?_; (case hk => decide +kernel); conv => whnf)
        | (refine step_auto 3 ?hk ?_; (case hk => decide +kernel); conv => whnf)
        | (refine V2.step_auto 2 ?hk ?_; (case hk => decide +kernel); conv => whnf)
        | (refine V2.step_auto 3 ?hk ?_; (case hk => decide +kernel); conv => whnf)
        | (refine Num.id (by omega) (by omega) ?_; conv => whnf)
        | (refine Case.strI (fun _ => ?_) (fun _ => ?_) <;> conv => whnf)
        | (refine Both.mk ?_ ?_ <;> conv => whnf)
        | (refine Case.dec (fun _ => ?_) (fun _ => ?_) <;> conv => whnf)
        | (refine Case.beqI (fun _ => ?_) (fun _ => ?_) <;> conv => whnf)
        | (refine Case.mk (fun _ => ?_) (fun _ => ?_) <;> conv => whnf)
        | (refine Way.fst ?_; conv => whnf)
      · refine ⟨i + 1, hgood (by unfold letB; omega), by omega, ?_⟩
        repeat' first | exact trivial | exact rfl | exact Nat.zero_le _ | exact Nat.zero_lt_succ _ | exact (by decide : (0 : Nat) < 1) | exact (by decide : (1 : Nat) < 4) | exact (by decide : (2 : Nat) < 4) | exact (by decide : (3 : Nat) < 4) | exact (by decide : (1 : Nat) < 2) | exact (by decide : (2 : Nat) < 3) | exact congrArg int (by (try dsimp only); omega) | exact congrArg bool (by (try dsimp only); simp; omega) | (show _ < List.length _; simp; done) | apply And.intro
      · exact Fin.isB (hbad (by unfold letB; omega)).symm
      · refine ⟨i + 1, hgood (by unfold letB; omega), by omega, ?_⟩
        repeat' first | exact trivial | exact rfl | exact Nat.zero_le _ | exact Nat.zero_lt_succ _ | exact (by decide : (0 : Nat) < 1) | exact (by decide : (1 : Nat) < 4) | exact (by decide : (2 : Nat) < 4) | exact (by decide : (3 : Nat) < 4) | exact (by decide : (1 : Nat) < 2) | exact (by decide : (2 : Nat) < 3) | exact congrArg int (by (try dsimp only); omega) | exact congrArg bool (by (try dsimp only); simp; omega) | (show _ < List.length _; simp; done) | apply And.intro
      · exact Fin.isB (hbad (by unfold letB; omega)).symm
      · exact Fin.isB (hbad (by unfold letB; omega)).symm
    · have hia : i = s.length := by omega
      subst hia
      have hs : ∀ c ∈ s, letB c := fun c hc => by
        obtain ⟨i, hi, rfl⟩ := List.mem_iff_getElem.1 hc
        exact h2 i hi _ (List.getElem?_eq_getElem hi)
      clear h1 h2 h0
      conv => whnf
      repeat' first
        | (refine Case.not ?_; conv => whnf)
        | (refine Case.yes ?_; conv => whnf)
        | (refine Case.no ?_; conv => whnf)
        | (refine Case.isTrue (by assumption) ?_; conv => whnf)
        | (refine Case.isFalse (by assumption) ?_; conv => whnf)
        | (refine Case.decT (by assumption) ?_; conv => whnf)
        | (refine Case.decF (by assumption) ?_; conv => whnf)
        | (refine Case.decT (by omega) ?_; conv => whnf)
        | (refine Case.decF (by omega) ?_; conv => whnf)
        | (refine Case.beqT (by omega) ?_; conv => whnf)
        | (refine Case.beqF (by omega) ?_; conv => whnf)
        | (refine Case.strT (by assumption) ?_; conv => whnf)
        | (refine Case.strF (by assumption) ?_; conv => whnf)
        | (refine Case.strF (by simp only [*]; decide) ?_; conv => whnf)
        | (refine Case.isTrue rfl ?_; conv => whnf)
        | (refine step_kinds 2 ?hk ?_; (case hk => decide +kernel); conv => whnf)
        | (refine step_kinds 3 ?hk ?_; (case hk => decide +kernel); conv => whnf)
        | (refine step_auto 2 ?hk ?_; (case hk => decide +kernel); conv => whnf)
        | (refine step_auto 3 ?hk ?_; (case hk => decide +kernel); conv => whnf)
        | (refine V2.step_auto 2 ?hk ?_; (case hk => decide +kernel); conv => whnf)
        | (refine V2.step_auto 3 ?hk ?_; (case hk => decide +kernel); conv => whnf)
        | (refine Num.id (by omega) (by omega) ?_; conv => whnf)
        | (refine Case.strI (fun _ => ?_) (fun _ => ?_) <;> conv => whnf)
        | (refine Both.mk ?_ ?_ <;> conv => whnf)
        | (refine Case.dec (fun _ => ?_) (fun _ => ?_) <;> conv => whnf)
        | (refine Case.beqI (fun _ => ?_) (fun _ => ?_) <;> conv => whnf)
        | (refine Case.mk (fun _ => ?_) (fun _ => ?_) <;> conv => whnf)
        | (refine Way.fst ?_; conv => whnf)
      · subst_vars
        exact Fin.isB rfl
      · rename_i hne
        refine Fin.isB ?_
        rw [hsz]
        unfold nameB
        by_cases h60 : s.length < 60
        · rw [decide_eq_true (by omega), decide_eq_true ⟨hs, hne, h60⟩]
        · rw [decide_eq_false (by omega), decide_eq_false (fun h => h60 h.2.2)]
theorem of4_asc (bs : List UInt8) (hl : bs.length < 100000000) (h : ∀ b ∈ bs, b.toNat < 128 ∧ b.toNat ≠ 13 ∧ b.toNat ≠ 12 ∧ b.toNat ≠ 0) {us : List Tok} (ht : tokens (ints bs) = us) : Val 14 [.f (.sl (bs.map byteRow))] (.f (.sl (us.map tokRow))) := by
  have := of4_val bs hl
  unfold ofB at this
  rwa [prepare_ascii h, ht] at this
set_option maxHeartbeats 4000000 in
theorem names4_spec (s : List UInt8) (hsz0 : s.length ≤ 140737488351232) (k : Int) (hk : -9223372036854775808 ≤ k ∧ k < 9223372036854775808) : Pure 3 [.str ⟨s.toArray⟩, int k] (bool true) := by
  have hsz : (⟨s.toArray⟩ : ByteArray).size = s.length := rfl
  have hnm := name4_spec s hsz0
  refine ⟨trivial, spec_mk tab_ok Tryd.func3 (by rfl) rfl ?_⟩
  conv => whnf
  by_cases hN : nameB s = true
  · have hN' : (∀ c ∈ s, letB c) ∧ s ≠ [] ∧ s.length < 60 := by
      unfold nameB at hN
      exact of_decide_eq_true hN
    obtain ⟨hs, hne, h60⟩ := hN'
    rw [hN] at hnm
    have hI8 : (ints s).map b8 = s := ints_b8 s
    have hI : ∀ c ∈ ints s, letter c := ints_mem fun c hc => by
      have := hs c hc
      unfold letB at this
      unfold letter
      omega
    have hIn : ints s ≠ [] := fun h => hne (by rw [← hI8, h]; rfl)
    have hs2 : ∀ b ∈ s, b.toNat < 128 ∧ b.toNat ≠ 13 ∧ b.toNat ≠ 12 ∧ b.toNat ≠ 0 := fun b hb => by
      have := hs b hb
      unfold letB at this
      omega
    have key : ∀ (A B : List UInt8) (X : ByteArray) (us : List Tok), X.data.toList = A ++ s ++ B → A.length ≤ 2 → B.length ≤ 2 → (∀ b ∈ A ++ B, b.toNat < 128 ∧ b.toNat ≠ 13 ∧ b.toNat ≠ 12 ∧ b.toNat ≠ 0) → tokens (ints (A ++ s ++ B)) = us → Val 14 [.f (.sl (X.data.toList.map byteRow))] (.f (.sl (us.map tokRow))) := by
      intro A B X us hX hA hB hAB ht
      rw [hX]
      refine of4_asc _ (by simp; omega) ?_ ht
      intro b hb
      simp only [List.mem_append] at hb
      rcases hb with (hb | hb) | hb
      · exact hAB b (List.mem_append_left _ hb)
      · exact hs2 b hb
      · exact hAB b (List.mem_append_right _ hb)
    have iA : ∀ A B : List UInt8, ints (A ++ B) = ints A ++ ints B := fun A B => by simp [ints]
    have m1 : ((List.replicate 1 (45 : Int) ++ ints s).map b8) = 45 :: s := by rw [List.map_append, hI8]; rfl
    have m2 : ((List.replicate 2 (45 : Int) ++ ints s).map b8) = 45 :: 45 :: s := by rw [List.map_append, hI8]; rfl
    have d0 := names_plain hIn hI
    rw [hI8] at d0
    have o0 := key [] [] (⟨#[]⟩ ++ ⟨s.toArray⟩ ++ ⟨#[]⟩) _ (by simp) (by simp) (by simp) (by simp) (by simp only [List.nil_append, List.append_nil]; exact d0)
    have d1 := names_at hIn hI
    rw [hI8] at d1
    have o1 := key [64] [] (⟨#[64]⟩ ++ ⟨s.toArray⟩ ++ ⟨#[]⟩) _ (by simp) (by simp) (by simp) (by decide) (by simp only [List.append_nil, iA]; exact d1)
    have d2 := names_hash hIn hI
    rw [hI8] at d2
    have o2 := key [35] [] (⟨#[35]⟩ ++ ⟨s.toArray⟩ ++ ⟨#[]⟩) _ (by simp) (by simp) (by simp) (by decide) (by simp only [List.append_nil, iA]; exact d2)
    have d3 := names_func hIn hI
    rw [hI8] at d3
    have o3 := key [] [40] (⟨#[]⟩ ++ ⟨s.toArray⟩ ++ ⟨#[40]⟩) _ (by simp) (by simp) (by simp) (by decide) (by simp only [List.nil_append, iA]; exact d3)
    have d4 := names_minus 1 (.inl rfl) hIn hI
    rw [m1] at d4
    have o4 := key [45] [] (⟨#[45]⟩ ++ ⟨s.toArray⟩ ++ ⟨#[]⟩) _ (by simp) (by simp) (by simp) (by decide) (by simp only [List.append_nil, iA]; exact d4)
    have d5 := names_minus 2 (.inr rfl) hIn hI
    rw [m2] at d5
    have o5 := key [45, 45] [] (⟨#[45, 45]⟩ ++ ⟨s.toArray⟩ ++ ⟨#[]⟩) _ (by simp) (by simp) (by simp) (by decide) (by simp only [List.append_nil, iA]; exact d5)
    have d7 := names_dot hIn hI
    rw [hI8] at d7
    have o7 := key [46] [] (⟨#[46]⟩ ++ ⟨s.toArray⟩ ++ ⟨#[]⟩) _ (by simp) (by simp) (by simp) (by decide) (by simp only [List.append_nil, iA]; exact d7)
    have n3 : numT false 3 0 = [51] := by
      unfold numT sgB frT
      rw [dec_small' (by omega)]
      rfl
    have d8 := num_dim false 3 0 (by omega) (by omega) hIn hI
    rw [n3, show numN false 3 0 = 3000 from rfl, hI8] at d8
    have o8 := key [51] [] (⟨#[51]⟩ ++ ⟨s.toArray⟩ ++ ⟨#[]⟩) _ (by simp) (by simp) (by simp) (by decide) (by simp only [List.append_nil, iA]; exact d8)
    clear d8 n3
    have q0 := sameTokens_spec [({ kind := 1, text := s } : Tok)] (by simp)
    have q1 := sameTokens_spec [({ kind := 2, text := s } : Tok)] (by simp)
    have q2 := sameTokens_spec [({ kind := 3, text := s } : Tok)] (by simp)
    have q3 := sameTokens_spec [({ kind := 20, text := s } : Tok)] (by simp)
    have q4 : Pure 13 [.f (.sl ([({ kind := 1, text := 45 :: s } : Tok)].map tokRow)), .f (.sl [[.v (.int .i64 1), .v (.string (⟨#[45]⟩ ++ ⟨s.toArray⟩)), .v (.int .i64 0), .v (.bool false), .v (.int .i64 0)]])] (bool true) := by
      rw [show (⟨#[45]⟩ ++ ⟨s.toArray⟩ : ByteArray) = ⟨(45 :: s).toArray⟩ by apply ByteArray.ext; simp]
      exact sameTokens_spec [({ kind := 1, text := 45 :: s } : Tok)] (by simp)
    have q5 : Pure 13 [.f (.sl ([({ kind := 1, text := 45 :: 45 :: s } : Tok)].map tokRow)), .f (.sl [[.v (.int .i64 1), .v (.string (⟨#[45, 45]⟩ ++ ⟨s.toArray⟩)), .v (.int .i64 0), .v (.bool false), .v (.int .i64 0)]])] (bool true) := by
      rw [show (⟨#[45, 45]⟩ ++ ⟨s.toArray⟩ : ByteArray) = ⟨(45 :: 45 :: s).toArray⟩ by apply ByteArray.ext; simp]
      exact sameTokens_spec [({ kind := 1, text := 45 :: 45 :: s } : Tok)] (by simp)
    have q7 := sameTokens_spec [({ kind := 10, c := 46 } : Tok), { kind := 1, text := s }] (by simp)
    have q8 := sameTokens_spec [({ kind := 8, n := 3000, text := s } : Tok)] (by simp)
    clear key iA hI hIn hs2 hs m1 m2 hI8
    repeat' first
      | (refine Case.not ?_; conv => whnf)
      | (refine Case.yes ?_; conv => whnf)
      | (refine Case.no ?_; conv => whnf)
      | (refine Case.isTrue (by assumption) ?_; conv => whnf)
      | (refine Case.isFalse (by assumption) ?_; conv => whnf)
      | (refine Case.decT (by assumption) ?_; conv => whnf)
      | (refine Case.decF (by assumption) ?_; conv => whnf)
      | (refine Case.decT (by omega) ?_; conv => whnf)
      | (refine Case.decF (by omega) ?_; conv => whnf)
      | (refine Case.beqT (by omega) ?_; conv => whnf)
      | (refine Case.beqF (by omega) ?_; conv => whnf)
      | (refine Case.strT (by assumption) ?_; conv => whnf)
      | (refine Case.strF (by assumption) ?_; conv => whnf)
      | (refine Case.strF (by simp only [*]; decide) ?_; conv => whnf)
      | (refine alive4_spec.call rfl ?_; conv => whnf)
      | (refine hnm.call ⟨rfl, rfl⟩ ?_; conv => whnf)
      | (refine Owes.mk (by first | (simp only [ByteArray.size_append, ByteArray.size_extract, bszB, List.size_toArray, List.length_cons, List.length_nil, List.length_append, List.length_map]; omega) | (simp only [ByteArray.size_append, bszB, List.size_toArray, List.length_cons, List.length_nil]; done) | fail "x") ?_; conv => whnf)
      | (refine step_kinds 2 ?hk ?_; (case hk => decide +kernel); conv => whnf)
      | (refine step_kinds 3 ?hk ?_; (case hk => decide +kernel); conv => whnf)
      | (refine step_auto 2 ?hk ?_; (case hk => decide +kernel); conv => whnf)
      | (refine step_auto 3 ?hk ?_; (case hk => decide +kernel); conv => whnf)
      | (refine V2.step_auto 2 ?hk ?_; (case hk => decide +kernel); conv => whnf)
      | (refine V2.step_auto 3 ?hk ?_; (case hk => decide +kernel); conv => whnf)
      | (refine Num.id (by omega) (by omega) ?_; conv => whnf)
      | (refine Case.strI (fun _ => ?_) (fun _ => ?_) <;> conv => whnf)
      | (refine Both.mk ?_ ?_ <;> conv => whnf)
      | (refine Case.dec (fun _ => ?_) (fun _ => ?_) <;> conv => whnf)
      | (refine Case.beqI (fun _ => ?_) (fun _ => ?_) <;> conv => whnf)
      | (refine Case.mk (fun _ => ?_) (fun _ => ?_) <;> conv => whnf)
      | (refine Way.fst ?_; conv => whnf)
    · exact Fin.isB rfl
    · exact Fin.isB rfl
    · exact Fin.isB rfl
    · rename_i g1 g2 g3
      have hk : k = 0 ∨ k = 1 ∨ k = 2 ∨ k = 3 ∨ k = 4 ∨ k = 5 ∨ k = 7 ∨ k = 8 := by
        simp only [List.length_cons, List.length_nil] at g2
        omega
      clear g1 g2 g3
      rcases hk with rfl | rfl | rfl | rfl | rfl | rfl | rfl | rfl
      · conv => whnf
        repeat' first
          | (refine Case.not ?_; conv => whnf)
          | (refine Case.yes ?_; conv => whnf)
          | (refine Case.no ?_; conv => whnf)
          | (refine Case.isTrue (by assumption) ?_; conv => whnf)
          | (refine Case.isFalse (by assumption) ?_; conv => whnf)
          | (refine Case.decT (by assumption) ?_; conv => whnf)
          | (refine Case.decF (by assumption) ?_; conv => whnf)
          | (refine Case.decT (by omega) ?_; conv => whnf)
          | (refine Case.decF (by omega) ?_; conv => whnf)
          | (refine Case.beqT (by omega) ?_; conv => whnf)
          | (refine Case.beqF (by omega) ?_; conv => whnf)
          | (refine Case.strT (by assumption) ?_; conv => whnf)
          | (refine Case.strF (by assumption) ?_; conv => whnf)
          | (refine Case.strF (by simp only [*]; decide) ?_; conv => whnf)
          | (refine o0.call ?_; conv => whnf)
          | (refine o0.callB ?_; conv => whnf)
          | (refine Elem.mk 0 _ rfl rfl ?_; conv => whnf)
          | (refine q0.call ⟨rfl, rfl, rfl⟩ ?_; conv => whnf)
          | (refine q0.callB ⟨rfl, rfl, rfl⟩ ?_; conv => whnf)
          | (refine Owes.mk (by first | (simp only [ByteArray.size_append, ByteArray.size_extract, bszB, List.size_toArray, List.length_cons, List.length_nil, List.length_append, List.length_map]; omega) | (simp only [ByteArray.size_append, bszB, List.size_toArray, List.length_cons, List.length_nil]; done) | fail "x") ?_; conv => whnf)
          | (refine step_kinds 2 ?hk ?_; (case hk => decide +kernel); conv => whnf)
          | (refine step_kinds 3 ?hk ?_; (case hk => decide +kernel); conv => whnf)
          | (refine step_auto 2 ?hk ?_; (case hk => decide +kernel); conv => whnf)
          | (refine step_auto 3 ?hk ?_; (case hk => decide +kernel); conv => whnf)
          | (refine V2.step_auto 2 ?hk ?_; (case hk => decide +kernel); conv => whnf)
          | (refine V2.step_auto 3 ?hk ?_; (case hk => decide +kernel); conv => whnf)
          | (refine Num.id (by omega) (by omega) ?_; conv => whnf)
          | (refine Case.strI (fun _ => ?_) (fun _ => ?_) <;> conv => whnf)
          | (refine Both.mk ?_ ?_ <;> conv => whnf)
          | (refine Case.dec (fun _ => ?_) (fun _ => ?_) <;> conv => whnf)
          | (refine Case.beqI (fun _ => ?_) (fun _ => ?_) <;> conv => whnf)
          | (refine Case.mk (fun _ => ?_) (fun _ => ?_) <;> conv => whnf)
          | (refine Way.fst ?_; conv => whnf)
        all_goals exact Fin.isB rfl
      · conv => whnf
        repeat' first
          | (refine Case.not ?_; conv => whnf)
          | (refine Case.yes ?_; conv => whnf)
          | (refine Case.no ?_; conv => whnf)
          | (refine Case.isTrue (by assumption) ?_; conv => whnf)
          | (refine Case.isFalse (by assumption) ?_; conv => whnf)
          | (refine Case.decT (by assumption) ?_; conv => whnf)
          | (refine Case.decF (by assumption) ?_; conv => whnf)
          | (refine Case.decT (by omega) ?_; conv => whnf)
          | (refine Case.decF (by omega) ?_; conv => whnf)
          | (refine Case.beqT (by omega) ?_; conv => whnf)
          | (refine Case.beqF (by omega) ?_; conv => whnf)
          | (refine Case.strT (by assumption) ?_; conv => whnf)
          | (refine Case.strF (by assumption) ?_; conv => whnf)
          | (refine Case.strF (by simp only [*]; decide) ?_; conv => whnf)
          | (refine o1.call ?_; conv => whnf)
          | (refine o1.callB ?_; conv => whnf)
          | (refine Elem.mk 1 _ rfl rfl ?_; conv => whnf)
          | (refine q1.call ⟨rfl, rfl, rfl⟩ ?_; conv => whnf)
          | (refine q1.callB ⟨rfl, rfl, rfl⟩ ?_; conv => whnf)
          | (refine Owes.mk (by first | (simp only [ByteArray.size_append, ByteArray.size_extract, bszB, List.size_toArray, List.length_cons, List.length_nil, List.length_append, List.length_map]; omega) | (simp only [ByteArray.size_append, bszB, List.size_toArray, List.length_cons, List.length_nil]; done) | fail "x") ?_; conv => whnf)
          | (refine step_kinds 2 ?hk ?_; (case hk => decide +kernel); conv => whnf)
          | (refine step_kinds 3 ?hk ?_; (case hk => decide +kernel); conv => whnf)
          | (refine step_auto 2 ?hk ?_; (case hk => decide +kernel); conv => whnf)
          | (refine step_auto 3 ?hk ?_; (case hk => decide +kernel); conv => whnf)
          | (refine V2.step_auto 2 ?hk ?_; (case hk => decide +kernel); conv => whnf)
          | (refine V2.step_auto 3 ?hk ?_; (case hk => decide +kernel); conv => whnf)
          | (refine Num.id (by omega) (by omega) ?_; conv => whnf)
          | (refine Case.strI (fun _ => ?_) (fun _ => ?_) <;> conv => whnf)
          | (refine Both.mk ?_ ?_ <;> conv => whnf)
          | (refine Case.dec (fun _ => ?_) (fun _ => ?_) <;> conv => whnf)
          | (refine Case.beqI (fun _ => ?_) (fun _ => ?_) <;> conv => whnf)
          | (refine Case.mk (fun _ => ?_) (fun _ => ?_) <;> conv => whnf)
          | (refine Way.fst ?_; conv => whnf)
        all_goals exact Fin.isB rfl
      · conv => whnf
        repeat' first
          | (refine Case.not ?_; conv => whnf)
          | (refine Case.yes ?_; conv => whnf)
          | (refine Case.no ?_; conv => whnf)
          | (refine Case.isTrue (by assumption) ?_; conv => whnf)
          | (refine Case.isFalse (by assumption) ?_; conv => whnf)
          | (refine Case.decT (by assumption) ?_; conv => whnf)
          | (refine Case.decF (by assumption) ?_; conv => whnf)
          | (refine Case.decT (by omega) ?_; conv => whnf)
          | (refine Case.decF (by omega) ?_; conv => whnf)
          | (refine Case.beqT (by omega) ?_; conv => whnf)
          | (refine Case.beqF (by omega) ?_; conv => whnf)
          | (refine Case.strT (by assumption) ?_; conv => whnf)
          | (refine Case.strF (by assumption) ?_; conv => whnf)
          | (refine Case.strF (by simp only [*]; decide) ?_; conv => whnf)
          | (refine o2.call ?_; conv => whnf)
          | (refine o2.callB ?_; conv => whnf)
          | (refine Elem.mk 2 _ rfl rfl ?_; conv => whnf)
          | (refine q2.call ⟨rfl, rfl, rfl⟩ ?_; conv => whnf)
          | (refine q2.callB ⟨rfl, rfl, rfl⟩ ?_; conv => whnf)
          | (refine Owes.mk (by first | (simp only [ByteArray.size_append, ByteArray.size_extract, bszB, List.size_toArray, List.length_cons, List.length_nil, List.length_append, List.length_map]; omega) | (simp only [ByteArray.size_append, bszB, List.size_toArray, List.length_cons, List.length_nil]; done) | fail "x") ?_; conv => whnf)
          | (refine step_kinds 2 ?hk ?_; (case hk => decide +kernel); conv => whnf)
          | (refine step_kinds 3 ?hk ?_; (case hk => decide +kernel); conv => whnf)
          | (refine step_auto 2 ?hk ?_; (case hk => decide +kernel); conv => whnf)
          | (refine step_auto 3 ?hk ?_; (case hk => decide +kernel); conv => whnf)
          | (refine V2.step_auto 2 ?hk ?_; (case hk => decide +kernel); conv => whnf)
          | (refine V2.step_auto 3 ?hk ?_; (case hk => decide +kernel); conv => whnf)
          | (refine Num.id (by omega) (by omega) ?_; conv => whnf)
          | (refine Case.strI (fun _ => ?_) (fun _ => ?_) <;> conv => whnf)
          | (refine Both.mk ?_ ?_ <;> conv => whnf)
          | (refine Case.dec (fun _ => ?_) (fun _ => ?_) <;> conv => whnf)
          | (refine Case.beqI (fun _ => ?_) (fun _ => ?_) <;> conv => whnf)
          | (refine Case.mk (fun _ => ?_) (fun _ => ?_) <;> conv => whnf)
          | (refine Way.fst ?_; conv => whnf)
        all_goals exact Fin.isB rfl
      · conv => whnf
        repeat' first
          | (refine Case.not ?_; conv => whnf)
          | (refine Case.yes ?_; conv => whnf)
          | (refine Case.no ?_; conv => whnf)
          | (refine Case.isTrue (by assumption) ?_; conv => whnf)
          | (refine Case.isFalse (by assumption) ?_; conv => whnf)
          | (refine Case.decT (by assumption) ?_; conv => whnf)
          | (refine Case.decF (by assumption) ?_; conv => whnf)
          | (refine Case.decT (by omega) ?_; conv => whnf)
          | (refine Case.decF (by omega) ?_; conv => whnf)
          | (refine Case.beqT (by omega) ?_; conv => whnf)
          | (refine Case.beqF (by omega) ?_; conv => whnf)
          | (refine Case.strT (by assumption) ?_; conv => whnf)
          | (refine Case.strF (by assumption) ?_; conv => whnf)
          | (refine Case.strF (by simp only [*]; decide) ?_; conv => whnf)
          | (refine o3.call ?_; conv => whnf)
          | (refine o3.callB ?_; conv => whnf)
          | (refine Elem.mk 3 _ rfl rfl ?_; conv => whnf)
          | (refine q3.call ⟨rfl, rfl, rfl⟩ ?_; conv => whnf)
          | (refine q3.callB ⟨rfl, rfl, rfl⟩ ?_; conv => whnf)
          | (refine Owes.mk (by first | (simp only [ByteArray.size_append, ByteArray.size_extract, bszB, List.size_toArray, List.length_cons, List.length_nil, List.length_append, List.length_map]; omega) | (simp only [ByteArray.size_append, bszB, List.size_toArray, List.length_cons, List.length_nil]; done) | fail "x") ?_; conv => whnf)
          | (refine step_kinds 2 ?hk ?_; (case hk => decide +kernel); conv => whnf)
          | (refine step_kinds 3 ?hk ?_; (case hk => decide +kernel); conv => whnf)
          | (refine step_auto 2 ?hk ?_; (case hk => decide +kernel); conv => whnf)
          | (refine step_auto 3 ?hk ?_; (case hk => decide +kernel); conv => whnf)
          | (refine V2.step_auto 2 ?hk ?_; (case hk => decide +kernel); conv => whnf)
          | (refine V2.step_auto 3 ?hk ?_; (case hk => decide +kernel); conv => whnf)
          | (refine Num.id (by omega) (by omega) ?_; conv => whnf)
          | (refine Case.strI (fun _ => ?_) (fun _ => ?_) <;> conv => whnf)
          | (refine Both.mk ?_ ?_ <;> conv => whnf)
          | (refine Case.dec (fun _ => ?_) (fun _ => ?_) <;> conv => whnf)
          | (refine Case.beqI (fun _ => ?_) (fun _ => ?_) <;> conv => whnf)
          | (refine Case.mk (fun _ => ?_) (fun _ => ?_) <;> conv => whnf)
          | (refine Way.fst ?_; conv => whnf)
        all_goals exact Fin.isB rfl
      · conv => whnf
        repeat' first
          | (refine Case.not ?_; conv => whnf)
          | (refine Case.yes ?_; conv => whnf)
          | (refine Case.no ?_; conv => whnf)
          | (refine Case.isTrue (by assumption) ?_; conv => whnf)
          | (refine Case.isFalse (by assumption) ?_; conv => whnf)
          | (refine Case.decT (by assumption) ?_; conv => whnf)
          | (refine Case.decF (by assumption) ?_; conv => whnf)
          | (refine Case.decT (by omega) ?_; conv => whnf)
          | (refine Case.decF (by omega) ?_; conv => whnf)
          | (refine Case.beqT (by omega) ?_; conv => whnf)
          | (refine Case.beqF (by omega) ?_; conv => whnf)
          | (refine Case.strT (by assumption) ?_; conv => whnf)
          | (refine Case.strF (by assumption) ?_; conv => whnf)
          | (refine Case.strF (by simp only [*]; decide) ?_; conv => whnf)
          | (refine o4.call ?_; conv => whnf)
          | (refine o4.callB ?_; conv => whnf)
          | (refine Elem.mk 4 _ rfl rfl ?_; conv => whnf)
          | (refine q4.call ⟨rfl, rfl, rfl⟩ ?_; conv => whnf)
          | (refine q4.callB ⟨rfl, rfl, rfl⟩ ?_; conv => whnf)
          | (refine Owes.mk (by first | (simp only [ByteArray.size_append, ByteArray.size_extract, bszB, List.size_toArray, List.length_cons, List.length_nil, List.length_append, List.length_map]; omega) | (simp only [ByteArray.size_append, bszB, List.size_toArray, List.length_cons, List.length_nil]; done) | fail "x") ?_; conv => whnf)
          | (refine step_kinds 2 ?hk ?_; (case hk => decide +kernel); conv => whnf)
          | (refine step_kinds 3 ?hk ?_; (case hk => decide +kernel); conv => whnf)
          | (refine step_auto 2 ?hk ?_; (case hk => decide +kernel); conv => whnf)
          | (refine step_auto 3 ?hk ?_; (case hk => decide +kernel); conv => whnf)
          | (refine V2.step_auto 2 ?hk ?_; (case hk => decide +kernel); conv => whnf)
          | (refine V2.step_auto 3 ?hk ?_; (case hk => decide +kernel); conv => whnf)
          | (refine Num.id (by omega) (by omega) ?_; conv => whnf)
          | (refine Case.strI (fun _ => ?_) (fun _ => ?_) <;> conv => whnf)
          | (refine Both.mk ?_ ?_ <;> conv => whnf)
          | (refine Case.dec (fun _ => ?_) (fun _ => ?_) <;> conv => whnf)
          | (refine Case.beqI (fun _ => ?_) (fun _ => ?_) <;> conv => whnf)
          | (refine Case.mk (fun _ => ?_) (fun _ => ?_) <;> conv => whnf)
          | (refine Way.fst ?_; conv => whnf)
        all_goals exact Fin.isB rfl
      · conv => whnf
        repeat' first
          | (refine Case.not ?_; conv => whnf)
          | (refine Case.yes ?_; conv => whnf)
          | (refine Case.no ?_; conv => whnf)
          | (refine Case.isTrue (by assumption) ?_; conv => whnf)
          | (refine Case.isFalse (by assumption) ?_; conv => whnf)
          | (refine Case.decT (by assumption) ?_; conv => whnf)
          | (refine Case.decF (by assumption) ?_; conv => whnf)
          | (refine Case.decT (by omega) ?_; conv => whnf)
          | (refine Case.decF (by omega) ?_; conv => whnf)
          | (refine Case.beqT (by omega) ?_; conv => whnf)
          | (refine Case.beqF (by omega) ?_; conv => whnf)
          | (refine Case.strT (by assumption) ?_; conv => whnf)
          | (refine Case.strF (by assumption) ?_; conv => whnf)
          | (refine Case.strF (by simp only [*]; decide) ?_; conv => whnf)
          | (refine o5.call ?_; conv => whnf)
          | (refine o5.callB ?_; conv => whnf)
          | (refine Elem.mk 5 _ rfl rfl ?_; conv => whnf)
          | (refine q5.call ⟨rfl, rfl, rfl⟩ ?_; conv => whnf)
          | (refine q5.callB ⟨rfl, rfl, rfl⟩ ?_; conv => whnf)
          | (refine Owes.mk (by first | (simp only [ByteArray.size_append, ByteArray.size_extract, bszB, List.size_toArray, List.length_cons, List.length_nil, List.length_append, List.length_map]; omega) | (simp only [ByteArray.size_append, bszB, List.size_toArray, List.length_cons, List.length_nil]; done) | fail "x") ?_; conv => whnf)
          | (refine step_kinds 2 ?hk ?_; (case hk => decide +kernel); conv => whnf)
          | (refine step_kinds 3 ?hk ?_; (case hk => decide +kernel); conv => whnf)
          | (refine step_auto 2 ?hk ?_; (case hk => decide +kernel); conv => whnf)
          | (refine step_auto 3 ?hk ?_; (case hk => decide +kernel); conv => whnf)
          | (refine V2.step_auto 2 ?hk ?_; (case hk => decide +kernel); conv => whnf)
          | (refine V2.step_auto 3 ?hk ?_; (case hk => decide +kernel); conv => whnf)
          | (refine Num.id (by omega) (by omega) ?_; conv => whnf)
          | (refine Case.strI (fun _ => ?_) (fun _ => ?_) <;> conv => whnf)
          | (refine Both.mk ?_ ?_ <;> conv => whnf)
          | (refine Case.dec (fun _ => ?_) (fun _ => ?_) <;> conv => whnf)
          | (refine Case.beqI (fun _ => ?_) (fun _ => ?_) <;> conv => whnf)
          | (refine Case.mk (fun _ => ?_) (fun _ => ?_) <;> conv => whnf)
          | (refine Way.fst ?_; conv => whnf)
        all_goals exact Fin.isB rfl
      · conv => whnf
        repeat' first
          | (refine Case.not ?_; conv => whnf)
          | (refine Case.yes ?_; conv => whnf)
          | (refine Case.no ?_; conv => whnf)
          | (refine Case.isTrue (by assumption) ?_; conv => whnf)
          | (refine Case.isFalse (by assumption) ?_; conv => whnf)
          | (refine Case.decT (by assumption) ?_; conv => whnf)
          | (refine Case.decF (by assumption) ?_; conv => whnf)
          | (refine Case.decT (by omega) ?_; conv => whnf)
          | (refine Case.decF (by omega) ?_; conv => whnf)
          | (refine Case.beqT (by omega) ?_; conv => whnf)
          | (refine Case.beqF (by omega) ?_; conv => whnf)
          | (refine Case.strT (by assumption) ?_; conv => whnf)
          | (refine Case.strF (by assumption) ?_; conv => whnf)
          | (refine Case.strF (by simp only [*]; decide) ?_; conv => whnf)
          | (refine o7.call ?_; conv => whnf)
          | (refine o7.callB ?_; conv => whnf)
          | (refine Elem.mk 7 _ rfl rfl ?_; conv => whnf)
          | (refine q7.call ⟨rfl, rfl, rfl⟩ ?_; conv => whnf)
          | (refine q7.callB ⟨rfl, rfl, rfl⟩ ?_; conv => whnf)
          | (refine Owes.mk (by first | (simp only [ByteArray.size_append, ByteArray.size_extract, bszB, List.size_toArray, List.length_cons, List.length_nil, List.length_append, List.length_map]; omega) | (simp only [ByteArray.size_append, bszB, List.size_toArray, List.length_cons, List.length_nil]; done) | fail "x") ?_; conv => whnf)
          | (refine step_kinds 2 ?hk ?_; (case hk => decide +kernel); conv => whnf)
          | (refine step_kinds 3 ?hk ?_; (case hk => decide +kernel); conv => whnf)
          | (refine step_auto 2 ?hk ?_; (case hk => decide +kernel); conv => whnf)
          | (refine step_auto 3 ?hk ?_; (case hk => decide +kernel); conv => whnf)
          | (refine V2.step_auto 2 ?hk ?_; (case hk => decide +kernel); conv => whnf)
          | (refine V2.step_auto 3 ?hk ?_; (case hk => decide +kernel); conv => whnf)
          | (refine Num.id (by omega) (by omega) ?_; conv => whnf)
          | (refine Case.strI (fun _ => ?_) (fun _ => ?_) <;> conv => whnf)
          | (refine Both.mk ?_ ?_ <;> conv => whnf)
          | (refine Case.dec (fun _ => ?_) (fun _ => ?_) <;> conv => whnf)
          | (refine Case.beqI (fun _ => ?_) (fun _ => ?_) <;> conv => whnf)
          | (refine Case.mk (fun _ => ?_) (fun _ => ?_) <;> conv => whnf)
          | (refine Way.fst ?_; conv => whnf)
        all_goals exact Fin.isB rfl
      · conv => whnf
        repeat' first
          | (refine Case.not ?_; conv => whnf)
          | (refine Case.yes ?_; conv => whnf)
          | (refine Case.no ?_; conv => whnf)
          | (refine Case.isTrue (by assumption) ?_; conv => whnf)
          | (refine Case.isFalse (by assumption) ?_; conv => whnf)
          | (refine Case.decT (by assumption) ?_; conv => whnf)
          | (refine Case.decF (by assumption) ?_; conv => whnf)
          | (refine Case.decT (by omega) ?_; conv => whnf)
          | (refine Case.decF (by omega) ?_; conv => whnf)
          | (refine Case.beqT (by omega) ?_; conv => whnf)
          | (refine Case.beqF (by omega) ?_; conv => whnf)
          | (refine Case.strT (by assumption) ?_; conv => whnf)
          | (refine Case.strF (by assumption) ?_; conv => whnf)
          | (refine Case.strF (by simp only [*]; decide) ?_; conv => whnf)
          | (refine o8.call ?_; conv => whnf)
          | (refine o8.callB ?_; conv => whnf)
          | (refine Elem.mk 8 _ rfl rfl ?_; conv => whnf)
          | (refine q8.call ⟨rfl, rfl, rfl⟩ ?_; conv => whnf)
          | (refine q8.callB ⟨rfl, rfl, rfl⟩ ?_; conv => whnf)
          | (refine Owes.mk (by first | (simp only [ByteArray.size_append, ByteArray.size_extract, bszB, List.size_toArray, List.length_cons, List.length_nil, List.length_append, List.length_map]; omega) | (simp only [ByteArray.size_append, bszB, List.size_toArray, List.length_cons, List.length_nil]; done) | fail "x") ?_; conv => whnf)
          | (refine step_kinds 2 ?hk ?_; (case hk => decide +kernel); conv => whnf)
          | (refine step_kinds 3 ?hk ?_; (case hk => decide +kernel); conv => whnf)
          | (refine step_auto 2 ?hk ?_; (case hk => decide +kernel); conv => whnf)
          | (refine step_auto 3 ?hk ?_; (case hk => decide +kernel); conv => whnf)
          | (refine V2.step_auto 2 ?hk ?_; (case hk => decide +kernel); conv => whnf)
          | (refine V2.step_auto 3 ?hk ?_; (case hk => decide +kernel); conv => whnf)
          | (refine Num.id (by omega) (by omega) ?_; conv => whnf)
          | (refine Case.strI (fun _ => ?_) (fun _ => ?_) <;> conv => whnf)
          | (refine Both.mk ?_ ?_ <;> conv => whnf)
          | (refine Case.dec (fun _ => ?_) (fun _ => ?_) <;> conv => whnf)
          | (refine Case.beqI (fun _ => ?_) (fun _ => ?_) <;> conv => whnf)
          | (refine Case.mk (fun _ => ?_) (fun _ => ?_) <;> conv => whnf)
          | (refine Way.fst ?_; conv => whnf)
        all_goals exact Fin.isB rfl
  · have hN' : nameB s = false := by simpa using hN
    rw [hN'] at hnm
    repeat' first
      | (refine Case.not ?_; conv => whnf)
      | (refine Case.yes ?_; conv => whnf)
      | (refine Case.no ?_; conv => whnf)
      | (refine Case.isTrue (by assumption) ?_; conv => whnf)
      | (refine Case.isFalse (by assumption) ?_; conv => whnf)
      | (refine Case.decT (by assumption) ?_; conv => whnf)
      | (refine Case.decF (by assumption) ?_; conv => whnf)
      | (refine Case.decT (by omega) ?_; conv => whnf)
      | (refine Case.decF (by omega) ?_; conv => whnf)
      | (refine Case.beqT (by omega) ?_; conv => whnf)
      | (refine Case.beqF (by omega) ?_; conv => whnf)
      | (refine Case.strT (by assumption) ?_; conv => whnf)
      | (refine Case.strF (by assumption) ?_; conv => whnf)
      | (refine Case.strF (by simp only [*]; decide) ?_; conv => whnf)
      | (refine alive4_spec.call rfl ?_; conv => whnf)
      | (refine hnm.call ⟨rfl, rfl⟩ ?_; conv => whnf)
      | (refine step_kinds 2 ?hk ?_; (case hk => decide +kernel); conv => whnf)
      | (refine step_kinds 3 ?hk ?_; (case hk => decide +kernel); conv => whnf)
      | (refine step_auto 2 ?hk ?_; (case hk => decide +kernel); conv => whnf)
      | (refine step_auto 3 ?hk ?_; (case hk => decide +kernel); conv => whnf)
      | (refine V2.step_auto 2 ?hk ?_; (case hk => decide +kernel); conv => whnf)
      | (refine V2.step_auto 3 ?hk ?_; (case hk => decide +kernel); conv => whnf)
      | (refine Num.id (by omega) (by omega) ?_; conv => whnf)
      | (refine Case.strI (fun _ => ?_) (fun _ => ?_) <;> conv => whnf)
      | (refine Both.mk ?_ ?_ <;> conv => whnf)
      | (refine Case.dec (fun _ => ?_) (fun _ => ?_) <;> conv => whnf)
      | (refine Case.beqI (fun _ => ?_) (fun _ => ?_) <;> conv => whnf)
      | (refine Case.mk (fun _ => ?_) (fun _ => ?_) <;> conv => whnf)
      | (refine Way.fst ?_; conv => whnf)
    all_goals exact Fin.isB rfl
end Go.Proofs.YtdenafhfngnlfaaDoor.Aw
