/- TokStrings. -/
import Derived.Test.YtdenafhfngnlfaaDoorXzB
import Derived.Test.YtdenafhfngnlfaaDoorXyQ
import Derived.Test.YtdenafhfngnlfaaDoorXkU
import Derived.Test.YtdenafhfngnlfaaDoorXlG
import Derived.Test.YtdenafhfngnlfaaDoorXrS
namespace Go.Proofs.YtdenafhfngnlfaaDoor.Aw
open Go Go.RowKit Go.Lib
set_option linter.unusedVariables false
set_option linter.unusedSimpArgs false
set_option maxRecDepth 100000
theorem of4_ascii (bs : List UInt8) (hl : bs.length < 100000000) (h : ∀ b ∈ bs, b.toNat < 128 ∧ b.toNat ≠ 13 ∧ b.toNat ≠ 12 ∧ b.toNat ≠ 0) {us : List Tok} (ht : tokens (ints bs) = us) : Val 14 [.f (.sl (bs.map byteRow))] (.f (.sl (us.map tokRow))) := by
  have := of4_val bs hl
  unfold ofB at this
  rwa [prepare_ascii h, ht] at this
def strC (c : UInt8) : Prop := 32 ≤ c.toNat ∧ c.toNat ≤ 126 ∧ c.toNat ≠ 34 ∧ c.toNat ≠ 39 ∧ c.toNat ≠ 92
structure StrJ (s : List UInt8) (i : Nat) : Prop where
  le : i ≤ s.length
  ok : ∀ j, j < i → ∀ c, s[j]? = some c → strC c
set_option maxHeartbeats 4000000 in
theorem strings4_spec (s : List UInt8) (hsz0 : s.length ≤ 140737488351232) (one closed : Bool) : Pure 4 [.str ⟨s.toArray⟩, bool one, bool closed] (bool true) := by
  have hsz : (⟨s.toArray⟩ : ByteArray).size = s.length := rfl
  refine ⟨trivial, spec_mk tab_ok Tryd.func4 (by rfl) rfl ?_⟩
  conv => whnf
  repeat' first
    | (refine Case.not ?_; conv => whnf)
    | (refine Case.yes ?_; conv => whnf)
    | (refine Case.no ?_; conv => whnf)
    | (refine Case.isTrue (by assumption) ?_; conv => whnf)
    | (refine Case.isFalse (by assumption) ?_; conv => whnf)
    | (refine Case.decT (by assumption) ?_; conv => whnf)
    | (refine Case.decF (by assumption) ?_; conv => whnf)
    | (refine Case.decT (by omega) ?_; conv => whnf)
    | (refine Case.decF (by omega) ?_; conv => whnf)
    | (refine Case.beqT (by omega) ?_; conv => whnf)
    | (refine Case.beqF (by omega) ?_; conv => whnf)
    | (refine Case.strT (by assumption) ?_; conv => whnf)
    | (refine Case.strF (by assumption) ?_; conv => whnf)
    | (refine Case.strF (by simp only [*]; decide) ?_; conv => whnf)
    | (refine alive4_spec.call rfl ?_; conv => whnf)
    | (refine step_kinds 2 ?hk ?_; (case hk => decide +kernel); conv => whnf)
    | (refine step_kinds 3 ?hk ?_; (case hk => decide +kernel); conv => whnf)
    | (refine step_auto 2 ?hk ?_; (case hk => decide +kernel); conv => whnf)
    | (refine step_auto 3 ?hk ?_; (case hk => decide +kernel); conv => whnf)
    | (refine Num.id (by omega) (by omega) ?_; conv => whnf)
    | (refine Case.strI (fun _ => ?_) (fun _ => ?_) <;> conv => whnf)
    | (refine Both.mk ?_ ?_ <;> conv => whnf)
    | (refine Case.dec (fun _ => ?_) (fun _ => ?_) <;> conv => whnf)
    | (refine Case.beqI (fun _ => ?_) (fun _ => ?_) <;> conv => whnf)
    | (refine Case.mk (fun _ => ?_) (fun _ => ?_) <;> conv => whnf)
    | (refine Way.fst ?_; conv => whnf)
  · exact Fin.isB rfl
  · have hl : s.length ≤ 300 := by omega
    refine step_loop tab_ok (fun i : Nat => padK [.str ⟨s.toArray⟩, bool one, bool closed, .junk, .junk, .junk, .junk, bool true, int i] 94) (fun _ => []) 0 (StrJ s) (fun i => s.length - i) 0 ⟨by simp, by simp⟩ (fun _ => rfl) ?_ ?_
    ·
      repeat' first | exact trivial | exact rfl | exact Nat.zero_le _ | exact Nat.zero_lt_succ _ | exact (by decide : (0 : Nat) < 1) | exact (by decide : (1 : Nat) < 4) | exact (by decide : (2 : Nat) < 4) | exact (by decide : (3 : Nat) < 4) | exact (by decide : (1 : Nat) < 2) | exact (by decide : (2 : Nat) < 3) | exact congrArg int (by (try dsimp only); omega) | exact congrArg bool (by (try dsimp only); simp; omega) | (show _ < List.length _; simp; done) | apply And.intro
    · rintro i ⟨h1, h2⟩
      conv => whnf
      refine Case.dec (fun h0 => ?_) (fun h0 => ?_)
      · have hi : i < s.length := by omega
        obtain ⟨c, hc⟩ : ∃ c, s[i]? = some c := ⟨_, List.getElem?_eq_getElem hi⟩
        have hg : (⟨s.toArray⟩ : ByteArray).data.toList[i]? = some c := hc
        conv => whnf
        repeat' first
          | (refine Case.not ?_; conv => whnf)
          | (refine Case.yes ?_; conv => whnf)
          | (refine Case.no ?_; conv => whnf)
          | (refine Case.isTrue (by assumption) ?_; conv => whnf)
          | (refine Case.isFalse (by assumption) ?_; conv => whnf)
          | (refine Case.decT (by assumption) ?_; conv => whnf)
          | (refine Case.decF (by assumption) ?_; conv => whnf)
          | (refine Case.decT (by omega) ?_; conv => whnf)
          | (refine Case.decF (by omega) ?_; conv => whnf)
          | (refine Case.beqT (by omega) ?_; conv => whnf)
          | (refine Case.beqF (by omega) ?_; conv => whnf)
          | (refine Case.strT (by assumption) ?_; conv => whnf)
          | (refine Case.strF (by assumption) ?_; conv => whnf)
          | (refine Case.strF (by simp only [*]; decide) ?_; conv => whnf)
          | (refine Byte.mk i c rfl hg ?_; conv => whnf)
          | (refine step_kinds 2 ?hk ?_; (case hk => decide +kernel); conv => whnf)
          | (refine step_kinds 3 ?hk ?_; (case hk => decide +kernel); conv => whnf)
          | (refine step_auto 2 ?hk ?_; (case hk => decide +kernel); conv => whnf)
          | (refine step_auto 3 ?hk ?_; (case hk => decide +kernel); conv => whnf)
          | (refine Num.id (by omega) (by omega) ?_; conv => whnf)
          | (refine Case.strI (fun _ => ?_) (fun _ => ?_) <;> conv => whnf)
          | (refine Both.mk ?_ ?_ <;> conv => whnf)
          | (refine Case.dec (fun _ => ?_) (fun _ => ?_) <;> conv => whnf)
          | (refine Case.beqI (fun _ => ?_) (fun _ => ?_) <;> conv => whnf)
          | (refine Case.mk (fun _ => ?_) (fun _ => ?_) <;> conv => whnf)
          | (refine Way.fst ?_; conv => whnf)
        all_goals first | exact Fin.isB rfl | skip
        refine ⟨i + 1, ⟨by omega, fun j hj x hx => ?_⟩, by omega, ?_⟩
        · rcases Nat.lt_or_ge j i with h | h
          · exact h2 j h x hx
          · obtain rfl : j = i := by omega
            rw [hc] at hx
            cases hx
            unfold strC
            omega
        ·
          repeat' first | exact trivial | exact rfl | exact Nat.zero_le _ | exact Nat.zero_lt_succ _ | exact (by decide : (0 : Nat) < 1) | exact (by decide : (1 : Nat) < 4) | exact (by decide : (2 : Nat) < 4) | exact (by decide : (3 : Nat) < 4) | exact (by decide : (1 : Nat) < 2) | exact (by decide : (2 : Nat) < 3) | exact congrArg int (by (try dsimp only); omega) | exact congrArg bool (by (try dsimp only); simp; omega) | (show _ < List.length _; simp; done) | apply And.intro
      · have hia : i = s.length := by omega
        subst hia
        have hs : ∀ c ∈ s, strC c := fun c hc => by
          obtain ⟨i, hi, rfl⟩ := List.mem_iff_getElem.1 hc
          exact h2 i hi _ (List.getElem?_eq_getElem hi)
        clear h1 h2 h0
        have hsI : ∀ c ∈ ints s, 32 ≤ c ∧ c ≤ 126 ∧ c ≠ 92 ∧ c ≠ 34 ∧ c ≠ 39 := ints_mem fun c hc => by
          have := hs c hc
          unfold strC at this
          omega
        have hs2 : ∀ b ∈ s, b.toNat < 128 ∧ b.toNat ≠ 13 ∧ b.toNat ≠ 12 ∧ b.toNat ≠ 0 := fun b hb => by
          have := hs b hb
          unfold strC at this
          omega
        conv => whnf
        have hI8 : (ints s).map b8 = s := ints_b8 s
        have key : ∀ (one : Bool) (Q : ByteArray), Q = ⟨#[if one = true then 39 else 34]⟩ →
            Val 14 [.f (.sl ((Q ++ ⟨s.toArray⟩ ++ Q ++ ⟨#[97]⟩ : ByteArray).data.toList.map byteRow))] (.f (.sl ([({ kind := 4, text := s } : Tok), { kind := 1, text := [97] }].map tokRow))) ∧
            Val 14 [.f (.sl ((Q ++ ⟨s.toArray⟩ : ByteArray).data.toList.map byteRow))] (.f (.sl ([({ kind := 4, text := s } : Tok)].map tokRow))) ∧
            Val 14 [.f (.sl ((Q ++ ⟨s.toArray⟩ ++ ⟨#[10, 97]⟩ : ByteArray).data.toList.map byteRow))] (.f (.sl ([({ kind := 5 } : Tok), { kind := 9 }, { kind := 1, text := [97] }].map tokRow))) := by
          intro one Q hQ
          obtain ⟨q, hq, hqq⟩ : ∃ q : UInt8, Q = ⟨#[q]⟩ ∧ (q = 34 ∨ q = 39) := ⟨_, hQ, by cases one <;> simp⟩
          subst hq
          have hqi : (q.toNat : Int) = 34 ∨ (q.toNat : Int) = 39 := by rcases hqq with rfl | rfl <;> decide
          have hqb : q.toNat < 128 ∧ q.toNat ≠ 13 ∧ q.toNat ≠ 12 ∧ q.toNat ≠ 0 := by omega
          have h97 : (97 : UInt8).toNat < 128 ∧ (97 : UInt8).toNat ≠ 13 ∧ (97 : UInt8).toNat ≠ 12 ∧ (97 : UInt8).toNat ≠ 0 := by decide
          have h10 : (10 : UInt8).toNat < 128 ∧ (10 : UInt8).toNat ≠ 13 ∧ (10 : UInt8).toNat ≠ 12 ∧ (10 : UInt8).toNat ≠ 0 := by decide
          refine ⟨?_, ?_, ?_⟩
          · rw [show (⟨#[q]⟩ ++ ⟨s.toArray⟩ ++ ⟨#[q]⟩ ++ ⟨#[97]⟩ : ByteArray).data.toList = q :: (s ++ q :: [97]) by simp]
            refine of4_ascii _ (by simp; omega) ?_ ?_
            · intro b hb
              simp only [List.mem_cons, List.mem_append, List.not_mem_nil, or_false] at hb
              rcases hb with rfl | hb | rfl | rfl
              · exact hqb
              · exact hs2 b hb
              · exact hqb
              · exact h97
            · have := strs_closed hqi hsI
              rw [hI8] at this
              rw [← this]
              simp [ints]
          · rw [show (⟨#[q]⟩ ++ ⟨s.toArray⟩ : ByteArray).data.toList = q :: s by simp]
            refine of4_ascii _ (by simp; omega) ?_ ?_
            · intro b hb
              simp only [List.mem_cons] at hb
              rcases hb with rfl | hb
              · exact hqb
              · exact hs2 b hb
            · have := str_open hqi hsI
              rw [hI8] at this
              rw [← this]
              simp [ints]
          · rw [show (⟨#[q]⟩ ++ ⟨s.toArray⟩ ++ ⟨#[10, 97]⟩ : ByteArray).data.toList = q :: (s ++ 10 :: [97]) by simp]
            refine of4_ascii _ (by simp; omega) ?_ ?_
            · intro b hb
              simp only [List.mem_cons, List.mem_append, List.not_mem_nil, or_false] at hb
              rcases hb with rfl | hb | rfl | rfl
              · exact hqb
              · exact hs2 b hb
              · exact h10
              · exact h97
            · have := strs_bad hqi hsI
              rw [← this]
              simp [ints]
        have p1 := sameTokens_spec [({ kind := 4, text := s } : Tok), { kind := 1, text := [97] }] (by simp)
        have p2 := sameTokens_spec [({ kind := 4, text := s } : Tok)] (by simp)
        have p3 := sameTokens_spec [({ kind := 5 } : Tok), { kind := 9 }, { kind := 1, text := [97] }] (by simp)
        clear hsI hs2 hs hI8
        conv => whnf
        rcases one with _ | _ <;> rcases closed with _ | _
        · obtain ⟨o1, o2, o3⟩ := key false _ rfl
          clear key
          repeat' first
            | (refine Case.not ?_; conv => whnf)
            | (refine Case.yes ?_; conv => whnf)
            | (refine Case.no ?_; conv => whnf)
            | (refine Case.isTrue (by assumption) ?_; conv => whnf)
            | (refine Case.isFalse (by assumption) ?_; conv => whnf)
            | (refine Case.decT (by assumption) ?_; conv => whnf)
            | (refine Case.decF (by assumption) ?_; conv => whnf)
            | (refine Case.decT (by omega) ?_; conv => whnf)
            | (refine Case.decF (by omega) ?_; conv => whnf)
            | (refine Case.beqT (by omega) ?_; conv => whnf)
            | (refine Case.beqF (by omega) ?_; conv => whnf)
            | (refine Case.strT (by assumption) ?_; conv => whnf)
            | (refine Case.strF (by assumption) ?_; conv => whnf)
            | (refine Case.strF (by simp only [*]; decide) ?_; conv => whnf)
            | (refine o2.call ?_; conv => whnf)
            | (refine p2.call ⟨rfl, rfl, rfl⟩ ?_; conv => whnf)
            | (refine p2.callB ⟨rfl, rfl, rfl⟩ ?_; conv => whnf)
            | (refine o3.call ?_; conv => whnf)
            | (refine p3.call ⟨rfl, rfl, rfl⟩ ?_; conv => whnf)
            | (refine p3.callB ⟨rfl, rfl, rfl⟩ ?_; conv => whnf)
            | (refine Owes.mk (by first | (simp only [ByteArray.size_append, ByteArray.size_extract, bszB, List.size_toArray, List.length_cons, List.length_nil, List.length_append, List.length_map]; omega) | (simp only [ByteArray.size_append, bszB, List.size_toArray, List.length_cons, List.length_nil]; done) | fail "x") ?_; conv => whnf)
            | (refine step_kinds 2 ?hk ?_; (case hk => decide +kernel); conv => whnf)
            | (refine step_kinds 3 ?hk ?_; (case hk => decide +kernel); conv => whnf)
            | (refine step_auto 2 ?hk ?_; (case hk => decide +kernel); conv => whnf)
            | (refine step_auto 3 ?hk ?_; (case hk => decide +kernel); conv => whnf)
            | (refine Num.id (by omega) (by omega) ?_; conv => whnf)
            | (refine Case.strI (fun _ => ?_) (fun _ => ?_) <;> conv => whnf)
            | (refine Both.mk ?_ ?_ <;> conv => whnf)
            | (refine Case.dec (fun _ => ?_) (fun _ => ?_) <;> conv => whnf)
            | (refine Case.beqI (fun _ => ?_) (fun _ => ?_) <;> conv => whnf)
            | (refine Case.mk (fun _ => ?_) (fun _ => ?_) <;> conv => whnf)
            | (refine Way.fst ?_; conv => whnf)
          all_goals exact Fin.isB rfl
        · obtain ⟨o1, o2, o3⟩ := key false _ rfl
          clear key
          repeat' first
            | (refine Case.not ?_; conv => whnf)
            | (refine Case.yes ?_; conv => whnf)
            | (refine Case.no ?_; conv => whnf)
            | (refine Case.isTrue (by assumption) ?_; conv => whnf)
            | (refine Case.isFalse (by assumption) ?_; conv => whnf)
            | (refine Case.decT (by assumption) ?_; conv => whnf)
            | (refine Case.decF (by assumption) ?_; conv => whnf)
            | (refine Case.decT (by omega) ?_; conv => whnf)
            | (refine Case.decF (by omega) ?_; conv => whnf)
            | (refine Case.beqT (by omega) ?_; conv => whnf)
            | (refine Case.beqF (by omega) ?_; conv => whnf)
            | (refine Case.strT (by assumption) ?_; conv => whnf)
            | (refine Case.strF (by assumption) ?_; conv => whnf)
            | (refine Case.strF (by simp only [*]; decide) ?_; conv => whnf)
            | (refine o1.call ?_; conv => whnf)
            | (refine p1.call ⟨rfl, rfl, rfl⟩ ?_; conv => whnf)
            | (refine p1.callB ⟨rfl, rfl, rfl⟩ ?_; conv => whnf)
            | (refine Owes.mk (by first | (simp only [ByteArray.size_append, ByteArray.size_extract, bszB, List.size_toArray, List.length_cons, List.length_nil, List.length_append, List.length_map]; omega) | (simp only [ByteArray.size_append, bszB, List.size_toArray, List.length_cons, List.length_nil]; done) | fail "x") ?_; conv => whnf)
            | (refine step_kinds 2 ?hk ?_; (case hk => decide +kernel); conv => whnf)
            | (refine step_kinds 3 ?hk ?_; (case hk => decide +kernel); conv => whnf)
            | (refine step_auto 2 ?hk ?_; (case hk => decide +kernel); conv => whnf)
            | (refine step_auto 3 ?hk ?_; (case hk => decide +kernel); conv => whnf)
            | (refine Num.id (by omega) (by omega) ?_; conv => whnf)
            | (refine Case.strI (fun _ => ?_) (fun _ => ?_) <;> conv => whnf)
            | (refine Both.mk ?_ ?_ <;> conv => whnf)
            | (refine Case.dec (fun _ => ?_) (fun _ => ?_) <;> conv => whnf)
            | (refine Case.beqI (fun _ => ?_) (fun _ => ?_) <;> conv => whnf)
            | (refine Case.mk (fun _ => ?_) (fun _ => ?_) <;> conv => whnf)
            | (refine Way.fst ?_; conv => whnf)
          all_goals exact Fin.isB rfl
        · obtain ⟨o1, o2, o3⟩ := key true _ rfl
          clear key
          repeat' first
            | (refine Case.not ?_; conv => whnf)
            | (refine Case.yes ?_; conv => whnf)
            | (refine Case.no ?_; conv => whnf)
            | (refine Case.isTrue (by assumption) ?_; conv => whnf)
            | (refine Case.isFalse (by assumption) ?_; conv => whnf)
            | (refine Case.decT (by assumption) ?_; conv => whnf)
            | (refine Case.decF (by assumption) ?_; conv => whnf)
            | (refine Case.decT (by omega) ?_; conv => whnf)
            | (refine Case.decF (by omega) ?_; conv => whnf)
            | (refine Case.beqT (by omega) ?_; conv => whnf)
            | (refine Case.beqF (by omega) ?_; conv => whnf)
            | (refine Case.strT (by assumption) ?_; conv => whnf)
            | (refine Case.strF (by assumption) ?_; conv => whnf)
            | (refine Case.strF (by simp only [*]; decide) ?_; conv => whnf)
            | (refine o2.call ?_; conv => whnf)
            | (refine p2.call ⟨rfl, rfl, rfl⟩ ?_; conv => whnf)
            | (refine p2.callB ⟨rfl, rfl, rfl⟩ ?_; conv => whnf)
            | (refine o3.call ?_; conv => whnf)
            | (refine p3.call ⟨rfl, rfl, rfl⟩ ?_; conv => whnf)
            | (refine p3.callB ⟨rfl, rfl, rfl⟩ ?_; conv => whnf)
            | (refine Owes.mk (by first | (simp only [ByteArray.size_append, ByteArray.size_extract, bszB, List.size_toArray, List.length_cons, List.length_nil, List.length_append, List.length_map]; omega) | (simp only [ByteArray.size_append, bszB, List.size_toArray, List.length_cons, List.length_nil]; done) | fail "x") ?_; conv => whnf)
            | (refine step_kinds 2 ?hk ?_; (case hk => decide +kernel); conv => whnf)
            | (refine step_kinds 3 ?hk ?_; (case hk => decide +kernel); conv => whnf)
            | (refine step_auto 2 ?hk ?_; (case hk => decide +kernel); conv => whnf)
            | (refine step_auto 3 ?hk ?_; (case hk => decide +kernel); conv => whnf)
            | (refine Num.id (by omega) (by omega) ?_; conv => whnf)
            | (refine Case.strI (fun _ => ?_) (fun _ => ?_) <;> conv => whnf)
            | (refine Both.mk ?_ ?_ <;> conv => whnf)
            | (refine Case.dec (fun _ => ?_) (fun _ => ?_) <;> conv => whnf)
            | (refine Case.beqI (fun _ => ?_) (fun _ => ?_) <;> conv => whnf)
            | (refine Case.mk (fun _ => ?_) (fun _ => ?_) <;> conv => whnf)
            | (refine Way.fst ?_; conv => whnf)
          all_goals exact Fin.isB rfl
        · obtain ⟨o1, o2, o3⟩ := key true _ rfl
          clear key
          repeat' first
            | (refine Case.not ?_; conv => whnf)
            | (refine Case.yes ?_; conv => whnf)
            | (refine Case.no ?_; conv => whnf)
            | (refine Case.isTrue (by assumption) ?_; conv => whnf)
            | (refine Case.isFalse (by assumption) ?_; conv => whnf)
            | (refine Case.decT (by assumption) ?_; conv => whnf)
            | (refine Case.decF (by assumption) ?_; conv => whnf)
            | (refine Case.decT (by omega) ?_; conv => whnf)
            | (refine Case.decF (by omega) ?_; conv => whnf)
            | (refine Case.beqT (by omega) ?_; conv => whnf)
            | (refine Case.beqF (by omega) ?_; conv => whnf)
            | (refine Case.strT (by assumption) ?_; conv => whnf)
            | (refine Case.strF (by assumption) ?_; conv => whnf)
            | (refine Case.strF (by simp only [*]; decide) ?_; conv => whnf)
            | (refine o1.call ?_; conv => whnf)
            | (refine p1.call ⟨rfl, rfl, rfl⟩ ?_; conv => whnf)
            | (refine p1.callB ⟨rfl, rfl, rfl⟩ ?_; conv => whnf)
            | (refine Owes.mk (by first | (simp only [ByteArray.size_append, ByteArray.size_extract, bszB, List.size_toArray, List.length_cons, List.length_nil, List.length_append, List.length_map]; omega) | (simp only [ByteArray.size_append, bszB, List.size_toArray, List.length_cons, List.length_nil]; done) | fail "x") ?_; conv => whnf)
            | (refine step_kinds 2 ?hk ?_; (case hk => decide +kernel); conv => whnf)
            | (refine step_kinds 3 ?hk ?_; (case hk => decide +kernel); conv => whnf)
            | (refine step_auto 2 ?hk ?_; (case hk => decide +kernel); conv => whnf)
            | (refine step_auto 3 ?hk ?_; (case hk => decide +kernel); conv => whnf)
            | (refine Num.id (by omega) (by omega) ?_; conv => whnf)
            | (refine Case.strI (fun _ => ?_) (fun _ => ?_) <;> conv => whnf)
            | (refine Both.mk ?_ ?_ <;> conv => whnf)
            | (refine Case.dec (fun _ => ?_) (fun _ => ?_) <;> conv => whnf)
            | (refine Case.beqI (fun _ => ?_) (fun _ => ?_) <;> conv => whnf)
            | (refine Case.mk (fun _ => ?_) (fun _ => ?_) <;> conv => whnf)
            | (refine Way.fst ?_; conv => whnf)
          all_goals exact Fin.isB rfl
end Go.Proofs.YtdenafhfngnlfaaDoor.Aw
