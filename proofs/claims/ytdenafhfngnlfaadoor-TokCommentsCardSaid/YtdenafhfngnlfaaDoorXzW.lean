/- TokWhite. -/
import Derived.Test.YtdenafhfngnlfaaDoorXyQ
import Derived.Test.YtdenafhfngnlfaaDoorXkU
import Derived.Test.YtdenafhfngnlfaaDoorXlG
import Derived.Test.YtdenafhfngnlfaaDoorAwW
namespace Go.Proofs.YtdenafhfngnlfaaDoor.Aw
open Go Go.RowKit Go.Lib
set_option linter.unusedVariables false
set_option linter.unusedSimpArgs false
set_option maxRecDepth 100000
theorem and_bd (x : Int) : 0 ≤ andI .i64 x 1023 ∧ andI .i64 x 1023 ≤ 1023 := by
  unfold andI
  have h : (BitVec.ofInt IntKind.i64.bits x &&& BitVec.ofInt IntKind.i64.bits 1023).toNat ≤ 1023 := by
    rw [BitVec.toNat_and]
    exact Nat.le_trans Nat.and_le_right (by decide)
  omega
def whiteL : List UInt8 := [32, 9, 10, 13, 12]
theorem white_at (r : Nat) (h : r < 5) : ∃ c, (⟨#[32, 9, 10, 13, 12]⟩ : ByteArray).data.toList[r]? = some c ∧ (c.toNat = 32 ∨ c.toNat = 9 ∨ c.toNat = 10 ∨ c.toNat = 13 ∨ c.toNat = 12) := by
  have : r = 0 ∨ r = 1 ∨ r = 2 ∨ r = 3 ∨ r = 4 := by omega
  rcases this with rfl | rfl | rfl | rfl | rfl
  · exact ⟨32, rfl, .inl rfl⟩
  · exact ⟨9, rfl, .inr (.inl rfl)⟩
  · exact ⟨10, rfl, .inr (.inr (.inl rfl))⟩
  · exact ⟨13, rfl, .inr (.inr (.inr (.inl rfl)))⟩
  · exact ⟨12, rfl, .inr (.inr (.inr (.inr rfl)))⟩
structure WhiI (s : Nat × List UInt8) (m : Nat) : Prop where
  le : s.1 ≤ m
  len : s.2.length = s.1
  all : ∀ c ∈ s.2, c.toNat = 32 ∨ c.toNat = 9 ∨ c.toNat = 10 ∨ c.toNat = 13 ∨ c.toNat = 12
set_option maxHeartbeats 4000000 in
theorem white4_spec (l : List Int) : Pure 10 [.f (.sl (ptsF l))] (bool true) := by
  have hpl := ptsF_length l
  refine ⟨trivial, spec_mk tab_ok Tryd.func10 (by rfl) rfl ?_⟩
  conv => whnf
  repeat' first
    | (refine Case.not ?_; conv => whnf)
    | (refine Case.yes ?_; conv => whnf)
    | (refine Case.no ?_; conv => whnf)
    | (refine Case.isTrue (by assumption) ?_; conv => whnf)
    | (refine Case.isFalse (by assumption) ?_; conv => whnf)
    | (refine Case.decT (by assumption) ?_; conv => whnf)
    | (refine Case.decF (by assumption) ?_; conv => whnf)
    | (refine Case.decT (by omega) ?_; conv => whnf)
    | (refine Case.decF (by omega) ?_; conv => whnf)
    | (refine Case.beqT (by omega) ?_; conv => whnf)
    | (refine Case.beqF (by omega) ?_; conv => whnf)
    | (refine Case.strT (by assumption) ?_; conv => whnf)
    | (refine Case.strF (by assumption) ?_; conv => whnf)
    | (refine Case.strF (by simp only [*]; decide) ?_; conv => whnf)
    | (refine alive4_spec.call rfl ?_; conv => whnf)
    | (refine step_kinds 2 ?hk ?_; (case hk => decide +kernel); conv => whnf)
    | (refine step_kinds 3 ?hk ?_; (case hk => decide +kernel); conv => whnf)
    | (refine step_auto 2 ?hk ?_; (case hk => decide +kernel); conv => whnf)
    | (refine step_auto 3 ?hk ?_; (case hk => decide +kernel); conv => whnf)
    | (refine Num.id (by omega) (by omega) ?_; conv => whnf)
    | (refine Case.strI (fun _ => ?_) (fun _ => ?_) <;> conv => whnf)
    | (refine Both.mk ?_ ?_ <;> conv => whnf)
    | (refine Case.dec (fun _ => ?_) (fun _ => ?_) <;> conv => whnf)
    | (refine Case.beqI (fun _ => ?_) (fun _ => ?_) <;> conv => whnf)
    | (refine Case.mk (fun _ => ?_) (fun _ => ?_) <;> conv => whnf)
    | (refine Way.fst ?_; conv => whnf)
  · exact Fin.isB rfl
  · exact Fin.isB rfl
  · have hl : 1 ≤ l.length ∧ l.length ≤ 100 := by omega
    refine step_loop tab_ok (fun s : Nat × List UInt8 => padK [.f (.sl (ptsF l)), .junk, .junk, bool true, .own 0 5 1 (s.2.map byteRow), int s.1] 68) (fun _ => []) 1 (fun s => WhiI s l.length) (fun s => l.length - s.1) (0, []) ⟨by simp, rfl, by simp⟩ (fun _ => rfl) ?_ ?_
    ·
      repeat' first | exact trivial | exact rfl | exact Nat.zero_le _ | exact Nat.zero_lt_succ _ | exact (by decide : (0 : Nat) < 1) | exact (by decide : (1 : Nat) < 4) | exact (by decide : (2 : Nat) < 4) | exact (by decide : (3 : Nat) < 4) | exact (by decide : (1 : Nat) < 2) | exact (by decide : (2 : Nat) < 3) | exact congrArg int (by (try dsimp only); omega) | exact congrArg bool (by (try dsimp only); simp; omega) | (show _ < List.length _; simp; done) | apply And.intro
    · rintro ⟨i, w⟩ ⟨h1, h2, h3⟩
      dsimp only at h1 h2 h3 ⊢
      conv => whnf
      have hwl : (w.map byteRow).length = w.length := List.length_map ..
      refine Case.dec (fun h0 => ?_) (fun h0 => ?_)
      · have hi : i < l.length := by omega
        obtain ⟨x, hx⟩ : ∃ x, l[i]? = some x := ⟨_, List.getElem?_eq_getElem hi⟩
        have hg : (ptsF l)[i]? = some [.v (.int .i64 x)] := ptsF_get hx
        have hb := and_bd x
        obtain ⟨z, hz⟩ : ∃ z, z = andI .i64 x 1023 := ⟨_, rfl⟩
        rw [← hz] at hb
        have hr : 0 ≤ z.tmod 5 ∧ z.tmod 5 < 5 := by
          obtain ⟨n, rfl⟩ : ∃ n : Nat, z = n := ⟨z.toNat, by omega⟩
          have : Int.tmod (n : Int) 5 = ((n % 5 : Nat) : Int) := (Int.ofNat_tmod n 5).symm
          omega
        obtain ⟨r, hr'⟩ : ∃ r : Nat, z.tmod 5 = r := ⟨(z.tmod 5).toNat, by omega⟩
        obtain ⟨c, hc1, hc2⟩ := white_at r (by omega)
        have hn : ∀ {K : Int → Prop}, K z → Num .i64 (andI .i64 x 1023) K := fun h => by rw [← hz]; exact Num.id (by omega) (by omega) h
        conv => whnf
        repeat' first
          | (refine Case.not ?_; conv => whnf)
          | (refine Case.yes ?_; conv => whnf)
          | (refine Case.no ?_; conv => whnf)
          | (refine Case.isTrue (by assumption) ?_; conv => whnf)
          | (refine Case.isFalse (by assumption) ?_; conv => whnf)
          | (refine Case.decT (by assumption) ?_; conv => whnf)
          | (refine Case.decF (by assumption) ?_; conv => whnf)
          | (refine Case.decT (by omega) ?_; conv => whnf)
          | (refine Case.decF (by omega) ?_; conv => whnf)
          | (refine Case.beqT (by omega) ?_; conv => whnf)
          | (refine Case.beqF (by omega) ?_; conv => whnf)
          | (refine Case.strT (by assumption) ?_; conv => whnf)
          | (refine Case.strF (by assumption) ?_; conv => whnf)
          | (refine Case.strF (by simp only [*]; decide) ?_; conv => whnf)
          | (refine Owes.mk ptsF_row ?_; conv => whnf)
          | (refine Elem.mk i _ rfl hg ?_; conv => whnf)
          | (refine hn ?_; conv => whnf)
          | (refine Owes.mk (by decide) ?_; conv => whnf)
          | (refine Byte.mk r c hr' hc1 ?_; conv => whnf)
          | (refine Owes.mk (by rw [hwl]; show (_ + 1) * 1 ≤ _; omega) ?_; conv => whnf)
          | (refine step_kinds 2 ?hk ?_; (case hk => decide +kernel); conv => whnf)
          | (refine step_kinds 3 ?hk ?_; (case hk => decide +kernel); conv => whnf)
          | (refine step_auto 2 ?hk ?_; (case hk => decide +kernel); conv => whnf)
          | (refine step_auto 3 ?hk ?_; (case hk => decide +kernel); conv => whnf)
          | (refine Num.id (by omega) (by omega) ?_; conv => whnf)
          | (refine Case.strI (fun _ => ?_) (fun _ => ?_) <;> conv => whnf)
          | (refine Both.mk ?_ ?_ <;> conv => whnf)
          | (refine Case.dec (fun _ => ?_) (fun _ => ?_) <;> conv => whnf)
          | (refine Case.beqI (fun _ => ?_) (fun _ => ?_) <;> conv => whnf)
          | (refine Case.mk (fun _ => ?_) (fun _ => ?_) <;> conv => whnf)
          | (refine Way.fst ?_; conv => whnf)
        refine ⟨(i + 1, w ++ [c]), ⟨by dsimp only; omega, by simp [h2], fun x hx => ?_⟩, by dsimp only; omega, ?_⟩
        · rcases List.mem_append.1 hx with hx | hx
          · exact h3 x hx
          · obtain rfl := List.mem_singleton.1 hx; exact hc2
        ·
          repeat' first | exact trivial | exact rfl | exact Nat.zero_le _ | exact Nat.zero_lt_succ _ | exact (by decide : (0 : Nat) < 1) | exact (by decide : (1 : Nat) < 4) | exact (by decide : (2 : Nat) < 4) | exact (by decide : (3 : Nat) < 4) | exact (by decide : (1 : Nat) < 2) | exact (by decide : (2 : Nat) < 3) | exact congrArg int (by (try dsimp only); omega) | exact congrArg (D.own _ _ _) (by simp [byteRow]; done) | exact congrArg bool (by (try dsimp only); simp; omega) | (show _ < List.length _; simp; done) | apply And.intro
      · have hi : i = l.length := by omega
        have ho := of4_val (97 :: (w ++ [98])) (by simp; omega)
        have hne : w ≠ [] := by intro e; rw [e] at h2; simp at h2; omega
        rw [show ofB (97 :: (w ++ [98])) = _ from law_white w hne h3] at ho
        have er : (97 :: (w ++ [98]) : List UInt8).map byteRow = [[F.v (.int .u8 97)]] ++ w.map byteRow ++ [[F.v (.int .u8 98)]] := by simp [byteRow]
        rw [er] at ho
        conv => whnf
        repeat' first
          | (refine Case.not ?_; conv => whnf)
          | (refine Case.yes ?_; conv => whnf)
          | (refine Case.no ?_; conv => whnf)
          | (refine Case.isTrue (by assumption) ?_; conv => whnf)
          | (refine Case.isFalse (by assumption) ?_; conv => whnf)
          | (refine Case.decT (by assumption) ?_; conv => whnf)
          | (refine Case.decF (by assumption) ?_; conv => whnf)
          | (refine Case.decT (by omega) ?_; conv => whnf)
          | (refine Case.decF (by omega) ?_; conv => whnf)
          | (refine Case.beqT (by omega) ?_; conv => whnf)
          | (refine Case.beqF (by omega) ?_; conv => whnf)
          | (refine Case.strT (by assumption) ?_; conv => whnf)
          | (refine Case.strF (by assumption) ?_; conv => whnf)
          | (refine Case.strF (by simp only [*]; decide) ?_; conv => whnf)
          | (refine Owes.mk ⟨rfl, rfl, List.cons_ne_nil _ _⟩ ?_; conv => whnf)
          | (refine Way.snd ?_; conv => whnf)
          | (refine ho.callO ?_; conv => whnf)
          | (refine Owes.mk (by rw [hwl]; show (1 + _) * 1 ≤ _; omega) ?_; conv => whnf)
          | (refine Owes.mk (by rw [List.length_append, hwl]; show (1 + _ + 1) * 1 ≤ _; omega) ?_; conv => whnf)
          | (refine Owes.mk toks4_row ?_; conv => whnf)
          | (refine Elem.mk 0 _ rfl rfl ?_; conv => whnf)
          | (refine Elem.mk 1 _ rfl rfl ?_; conv => whnf)
          | (refine Elem.mk 2 _ rfl rfl ?_; conv => whnf)
          | (refine Case.isTrue (by decide +kernel) ?_; conv => whnf)
          | (refine step_kinds 2 ?hk ?_; (case hk => decide +kernel); conv => whnf)
          | (refine step_kinds 3 ?hk ?_; (case hk => decide +kernel); conv => whnf)
          | (refine step_auto 2 ?hk ?_; (case hk => decide +kernel); conv => whnf)
          | (refine step_auto 3 ?hk ?_; (case hk => decide +kernel); conv => whnf)
          | (refine Num.id (by omega) (by omega) ?_; conv => whnf)
          | (refine Case.strI (fun _ => ?_) (fun _ => ?_) <;> conv => whnf)
          | (refine Both.mk ?_ ?_ <;> conv => whnf)
          | (refine Case.dec (fun _ => ?_) (fun _ => ?_) <;> conv => whnf)
          | (refine Case.beqI (fun _ => ?_) (fun _ => ?_) <;> conv => whnf)
          | (refine Case.mk (fun _ => ?_) (fun _ => ?_) <;> conv => whnf)
          | (refine Way.fst ?_; conv => whnf)
        all_goals first | exact Fin.isB (by decide +kernel) | exact Fin.isB rfl | trace_state
end Go.Proofs.YtdenafhfngnlfaaDoor.Aw
