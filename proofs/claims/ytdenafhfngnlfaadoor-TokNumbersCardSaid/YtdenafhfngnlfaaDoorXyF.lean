/- The program's scanner: numbers. -/
import Derived.Test.YtdenafhfngnlfaaDoorXyE
namespace Go.Proofs.YtdenafhfngnlfaaDoor.Aw
open Go Go.RowKit Go.Lib
set_option linter.unusedVariables false
set_option linter.unusedSimpArgs false
set_option maxRecDepth 100000
theorem yofV (s : List UInt8) (hs : s.length < 1000000000) : Pure 47 [sB s] (.tup [int (numV s).1, bool (numV s).2]) := by
  rw [numV_numL]
  exact yof s hs
theorem putB_asc {c : Int} (h0 : 0 ≤ c) (h1 : c < 128) : putB c = [b8 c] := by
  have e : right c = true := by unfold right; simp; omega
  unfold putB utfB
  rw [e, if_pos rfl, if_pos h1]
theorem Num.wrap8 {x : Int} {K : Int → Prop} (h : K (IntKind.u8.wrap x)) : Num .u8 x K := Num.wrap h
theorem yfigures (l : List Int) (hl : l.length < 100000000) (a : Nat) (ha : a ≤ l.length) (bs : List UInt8) (hb : bs.length ≤ 4 * a) : Spec P 46 [.ptr 0 0, .own 0 5 1 (bs.map byteRow)] [some (rdr l a)] 1 (fun d H => d = .own 0 5 1 ((digRun l (l.length + 1) a bs).1.map byteRow) ∧ H = [some (rdr l (digRun l (l.length + 1) a bs).2)]) := by
  refine spec_mk tab_ok Tryd.func46 (by rfl) rfl ?_
  conv => whnf
  refine step_loop tab_ok (fun s : Nat × List UInt8 × Bool => padK [.ptr 0 0, .own 0 5 1 (s.2.1.map byteRow)] 22) (fun s => [some (rdr l s.1)]) 1 (DigI l (digRun l (l.length + 1) a bs) true) (fun s => l.length - s.1) (a, bs, true) ⟨ha, hb, rfl, fun f hf => digRun_fuel l f _ _ _ hf (by omega)⟩ (fun _ => rfl) ?_ ?_
  ·
    repeat' first | exact trivial | exact rfl | exact Nat.zero_le _ | exact Nat.zero_lt_succ _ | exact (by decide : (0 : Nat) < 1) | exact (by decide : (1 : Nat) < 4) | exact (by decide : (2 : Nat) < 4) | exact (by decide : (3 : Nat) < 4) | exact (by decide : (1 : Nat) < 2) | exact (by decide : (2 : Nat) < 3) | exact congrArg int (by (try dsimp only); omega) | exact congrArg bool (by (try dsimp only); simp; omega) | (show _ < List.length _; simp; done) | apply And.intro
  · generalize digRun l (l.length + 1) a bs = r0
    rintro ⟨p, bs, w⟩ ⟨g1, g2, g3, g4⟩
    simp only at g1 g2 g3 g4
    subst g3
    dsimp only
    conv => whnf
    repeat' first
      | (refine Case.not ?_; conv => whnf)
      | (refine Case.yes ?_; conv => whnf)
      | (refine Case.no ?_; conv => whnf)
      | (refine Case.isTrue (by assumption) ?_; conv => whnf)
      | (refine Case.isFalse (by assumption) ?_; conv => whnf)
      | (refine Case.decT (by assumption) ?_; conv => whnf)
      | (refine Case.decF (by assumption) ?_; conv => whnf)
      | (refine Case.decT (by omega) ?_; conv => whnf)
      | (refine Case.decF (by omega) ?_; conv => whnf)
      | (refine Case.beqT (by omega) ?_; conv => whnf)
      | (refine Case.beqF (by omega) ?_; conv => whnf)
      | (refine (yat_at l (by omega) p (by omega) _ p (by omega) (by omega) (by omega)).call ⟨⟨rfl, rfl, trivial⟩, rfl, rfl⟩ ?_; conv => whnf)
      | (refine (ydigit_spec _).call ⟨rfl, rfl⟩ ?_; conv => whnf)
      | (refine Owes.mk (by simp; omega) ?_; conv => whnf)
      | (refine Num.wrap8 ?_; conv => whnf)
      | (refine Num.id (by omega) (by omega) ?_; conv => whnf)
      | (refine Case.dec (fun _ => ?_) (fun _ => ?_) <;> conv => whnf)
      | (refine Case.beqI (fun _ => ?_) (fun _ => ?_) <;> conv => whnf)
      | (refine Case.mk (fun _ => ?_) (fun _ => ?_) <;> conv => whnf)
      | (refine Way.fst ?_; conv => whnf)
    · have h := digit_lt (by assumption : digit (see l p) = true)
      have hd := digit_le (by assumption : digit (see l p) = true)
      have e : putB (see l p) = [b8 (see l p)] := putB_asc (by omega) (by omega)
      refine ⟨(p + 1, bs ++ putB (see l p), true), ⟨by dsimp only; omega, by dsimp only; rw [List.length_append, e]; simp; omega, rfl, fun f hf => ?_⟩, by dsimp only; omega, ?_⟩
      · dsimp only at hf ⊢
        rw [← g4 (f + 1) (by omega), digRun, if_pos (by assumption)]
      · have er : byteRow (b8 (see l p)) = [F.v (.int .u8 (IntKind.u8.wrap (see l p)))] := by rw [b8_row (by omega) (by omega), wrap8 (by omega) (by omega)]
        rw [e, List.map_append, List.map_cons, er]
        repeat' first | exact trivial | exact rfl | exact Nat.zero_le _ | exact Nat.zero_lt_succ _ | exact (by decide : (0 : Nat) < 1) | exact (by decide : (1 : Nat) < 4) | exact (by decide : (2 : Nat) < 4) | exact (by decide : (3 : Nat) < 4) | exact (by decide : (1 : Nat) < 2) | exact (by decide : (2 : Nat) < 3) | exact congrArg int (by (try dsimp only); omega) | exact congrArg bool (by (try dsimp only); simp; omega) | (show _ < List.length _; simp; done) | apply And.intro
    · have e := digRun_end g4 (by assumption)
      rw [e]
      exact Fin.mk (.own 0 5 1 (bs.map byteRow)) [some (rdr l p)] ⟨rfl, rfl⟩ rfl ⟨by unfold intoL intoL intoD; exact ⟨⟨rfl, by decide⟩, rfl⟩, ⟨rfl, rfl, rfl⟩, by unfold intoH; trivial⟩
theorem yfig_call {l : List Int} {a k n : Nat} {bs : List UInt8} {E : List D} {H : Hp} {K : KD} (hk : k < n) (hl : l.length < 100000000) (ha : a ≤ l.length) (hb : bs.length ≤ 4 * a) (h : killsK [k] E fun E => killsHK [k] H fun H => K (.own k 5 1 ((digRun l (l.length + 1) a bs).1.map byteRow)) E (some (rdr l (digRun l (l.length + 1) a bs).2) :: H) n) : Call P 46 [.ptr 0 0, .own k 5 1 (bs.map byteRow)] E (some (rdr l a) :: H) n K := by
  rw [killsK_eq, killsHK_eq] at h
  refine call_gen («as» := [.ptr 0 0, .own 0 5 1 (bs.map byteRow)]) [0] [k] (yfigures l hl a ha bs hb) (by simp) (by simp) (by simp) (by simpa using hk) ?_ ⟨Nat.zero_lt_one, Nat.zero_lt_one, trivial⟩ ?_
  · unfold fitH fitH; exact ⟨⟨rfl, ⟨trivial, trivial, trivial⟩⟩, trivial⟩
  · rintro d Hs' ⟨rfl, rfl⟩ _
    exact h
theorem digRun_fin (l : List Int) : ∀ (f p : Nat) (bs : List UInt8), p ≤ l.length → bs.length ≤ 4 * p → (digRun l f p bs).2 ≤ l.length ∧ (digRun l f p bs).1.length ≤ 4 * (digRun l f p bs).2
  | 0, p, bs, h1, h2 => ⟨h1, h2⟩
  | f + 1, p, bs, h1, h2 => by
    unfold digRun
    split
    · rename_i h
      have h3 := digit_lt h
      have hb := putB_le (see l p)
      exact digRun_fin l f (p + 1) (bs ++ putB (see l p)) h3 (by rw [List.length_append]; omega)
    · exact ⟨h1, h2⟩
def b1 (c : Int) : List UInt8 := [b8 c]
theorem numSgn_le {l : List Int} {a : Nat} (ha : a ≤ l.length) : (numSgn l a).2 ≤ l.length ∧ (numSgn l a).1.length ≤ 4 * (numSgn l a).2 := by
  unfold numSgn
  split
  · rename_i h
    have h1 := see_lt (l := l) (i := a) (by omega)
    have := putB_le (see l a)
    exact ⟨h1, by dsimp only; omega⟩
  · exact ⟨ha, by simp⟩
set_option maxHeartbeats 2000000 in
theorem yamount (l : List Int) (hl : l.length < 100000000) (a : Nat) (ha : a ≤ l.length) : Meth 36 l a (numericT l a).d (numericP l a) := by
  have hs0 := numSgn_le ha
  have hi0 := digRun_fin l (l.length + 1) (numSgn l a).2 (numSgn l a).1 hs0.1 hs0.2
  refine ⟨tok_scal _, spec_step tab_ok Tryd.func36 (by rfl) rfl ?_⟩
  conv => whnf
  refine step_seq tab_ok ?_
  conv => whnf
  refine step_seq tab_ok ?_
  conv => whnf
  refine step_into (E' := padK [.ptr 0 0, .junk, .ptr 1 0, .own 0 5 1 (([] : List UInt8).map byteRow)] 83) (H' := [some (rdr l a), some tok0]) (n' := 1) rfl ?_ ?_
  ·
    repeat' first | exact trivial | exact rfl | exact (by decide : (0 : Nat) < 1) | exact Nat.le_refl _ | exact Nat.zero_lt_succ _ | exact congrArg int (by (try dsimp only); omega) | exact congrArg bool (by (try dsimp only); simp; omega) | (show _ < List.length _; simp; done) | apply And.intro
  conv => whnf
  refine step_cut tab_ok (fun s : Unit => padK [.ptr 0 0, .junk, .ptr 1 0, .own 0 5 1 ((numSgn l a).1.map byteRow)] 83) (fun s => [some (rdr l (numSgn l a).2), some tok0]) 1 (fun _ => True) (fun _ => rfl) ?_ ?_
  · conv => whnf
    by_cases hc : see l a = 43 ∨ see l a = 45
    · have e : numSgn l a = ([b8 (see l a)], a + 1) := by unfold numSgn; rw [if_pos hc, putB_asc (by omega) (by omega)]
      have er : byteRow (b8 (see l a)) = [F.v (.int .u8 (IntKind.u8.wrap (see l a)))] := by rw [b8_row (by omega) (by omega), wrap8 (by omega) (by omega)]
      rw [e]
      simp only [List.map_cons, er]
      repeat' first
        | (refine Case.not ?_; conv => whnf)
        | (refine Case.yes ?_; conv => whnf)
        | (refine Case.no ?_; conv => whnf)
        | (refine Case.isTrue (by assumption) ?_; conv => whnf)
        | (refine Case.isFalse (by assumption) ?_; conv => whnf)
        | (refine Case.decT (by assumption) ?_; conv => whnf)
        | (refine Case.decF (by assumption) ?_; conv => whnf)
        | (refine Case.decT (by omega) ?_; conv => whnf)
        | (refine Case.decF (by omega) ?_; conv => whnf)
        | (refine Case.beqT (by omega) ?_; conv => whnf)
        | (refine Case.beqF (by omega) ?_; conv => whnf)
        | (refine (yat_at l (by omega) a (by omega) _ a (by omega) (by omega) (by omega)).call ⟨⟨rfl, rfl, trivial⟩, rfl, rfl⟩ ?_; conv => whnf)
        | (refine Owes.mk (by simp) ?_; conv => whnf)
        | (refine Num.wrap8 ?_; conv => whnf)
        | (refine Num.id (by omega) (by omega) ?_; conv => whnf)
        | (refine Case.dec (fun _ => ?_) (fun _ => ?_) <;> conv => whnf)
        | (refine Case.beqI (fun _ => ?_) (fun _ => ?_) <;> conv => whnf)
        | (refine Case.mk (fun _ => ?_) (fun _ => ?_) <;> conv => whnf)
        | (refine Way.fst ?_; conv => whnf)
      all_goals refine ⟨(), trivial, ?_⟩
      ·
        repeat' first | exact trivial | exact rfl | exact (by decide : (0 : Nat) < 1) | exact Nat.le_refl _ | exact Nat.zero_lt_succ _ | exact congrArg int (by (try dsimp only); omega) | exact congrArg bool (by (try dsimp only); simp; omega) | (show _ < List.length _; simp; done) | apply And.intro
      ·
        repeat' first | exact trivial | exact rfl | exact (by decide : (0 : Nat) < 1) | exact Nat.le_refl _ | exact Nat.zero_lt_succ _ | exact congrArg int (by (try dsimp only); omega) | exact congrArg bool (by (try dsimp only); simp; omega) | (show _ < List.length _; simp; done) | apply And.intro
    · have e : numSgn l a = ([], a) := by unfold numSgn; rw [if_neg hc]
      rw [e]
      repeat' first
        | (refine Case.not ?_; conv => whnf)
        | (refine Case.yes ?_; conv => whnf)
        | (refine Case.no ?_; conv => whnf)
        | (refine Case.isTrue (by assumption) ?_; conv => whnf)
        | (refine Case.isFalse (by assumption) ?_; conv => whnf)
        | (refine Case.decT (by assumption) ?_; conv => whnf)
        | (refine Case.decF (by assumption) ?_; conv => whnf)
        | (refine Case.decT (by omega) ?_; conv => whnf)
        | (refine Case.decF (by omega) ?_; conv => whnf)
        | (refine Case.beqT (by omega) ?_; conv => whnf)
        | (refine Case.beqF (by omega) ?_; conv => whnf)
        | (refine (yat_at l (by omega) a (by omega) _ a (by omega) (by omega) (by omega)).call ⟨⟨rfl, rfl, trivial⟩, rfl, rfl⟩ ?_; conv => whnf)
        | (refine Num.id (by omega) (by omega) ?_; conv => whnf)
        | (refine Case.dec (fun _ => ?_) (fun _ => ?_) <;> conv => whnf)
        | (refine Case.beqI (fun _ => ?_) (fun _ => ?_) <;> conv => whnf)
        | (refine Case.mk (fun _ => ?_) (fun _ => ?_) <;> conv => whnf)
        | (refine Way.fst ?_; conv => whnf)
      refine ⟨(), trivial, ?_⟩
      repeat' first | exact trivial | exact rfl | exact (by decide : (0 : Nat) < 1) | exact Nat.le_refl _ | exact Nat.zero_lt_succ _ | exact congrArg int (by (try dsimp only); omega) | exact congrArg bool (by (try dsimp only); simp; omega) | (show _ < List.length _; simp; done) | apply And.intro
  intro _ _
  have eN : digRun l (l.length + 1) (numSgn l a).2 (numSgn l a).1 = numInt l a := rfl
  rw [eN] at hi0
  conv => whnf
  refine step_seq tab_ok ?_
  conv => whnf
  repeat' first
    | (refine Case.not ?_; conv => whnf)
    | (refine Case.yes ?_; conv => whnf)
    | (refine Case.no ?_; conv => whnf)
    | (refine Case.isTrue (by assumption) ?_; conv => whnf)
    | (refine Case.isFalse (by assumption) ?_; conv => whnf)
    | (refine Case.decT (by assumption) ?_; conv => whnf)
    | (refine Case.decF (by assumption) ?_; conv => whnf)
    | (refine Case.decT (by omega) ?_; conv => whnf)
    | (refine Case.decF (by omega) ?_; conv => whnf)
    | (refine Case.beqT (by omega) ?_; conv => whnf)
    | (refine Case.beqF (by omega) ?_; conv => whnf)
    | (refine yfig_call (by omega) hl hs0.1 hs0.2 ?_; conv => whnf)
    | (refine Num.id (by omega) (by omega) ?_; conv => whnf)
    | (refine Case.dec (fun _ => ?_) (fun _ => ?_) <;> conv => whnf)
    | (refine Case.beqI (fun _ => ?_) (fun _ => ?_) <;> conv => whnf)
    | (refine Case.mk (fun _ => ?_) (fun _ => ?_) <;> conv => whnf)
    | (refine Way.fst ?_; conv => whnf)
  rw [eN]
  rcases hN : numInt l a with ⟨bs, p⟩
  rw [hN] at hi0
  simp only at hi0
  obtain ⟨hp, hbp⟩ := hi0
  have q1 : (numInt l a).1 = bs := by rw [hN]
  have q2 : (numInt l a).2 = p := by rw [hN]
  by_cases hw : see l p = 46 ∧ digit (see l (p + 1)) = true
  · have hp1 := digit_lt hw.2
    have eB : numB l a = ((digRun l (l.length + 1) (p + 1) (bs ++ [46])).1, (digRun l (l.length + 1) (p + 1) (bs ++ [46])).2, false) := by unfold numB; rw [q1, q2, if_pos hw]
    have hf := digRun_fin l (l.length + 1) (p + 1) (bs ++ [46]) (by omega) (by rw [List.length_append]; simp; omega)
    rcases hr : digRun l (l.length + 1) (p + 1) (bs ++ [46]) with ⟨B, q⟩
    rw [hr] at eB hf
    simp only at eB hf
    have er : List.map byteRow ((bs, p) : List UInt8 × Nat).fst ++ [[F.v (.int .u8 46)]] = (bs ++ [46]).map byteRow := by simp [byteRow]
    have hd := ydigit_spec (see l (p + 1))
    rw [hw.2] at hd
    refine step_of tab_ok ?_
    conv => whnf
    repeat' first
      | (refine Case.not ?_; conv => whnf)
      | (refine Case.yes ?_; conv => whnf)
      | (refine Case.no ?_; conv => whnf)
      | (refine Case.isTrue (by assumption) ?_; conv => whnf)
      | (refine Case.isFalse (by assumption) ?_; conv => whnf)
      | (refine Case.decT (by assumption) ?_; conv => whnf)
      | (refine Case.decF (by assumption) ?_; conv => whnf)
      | (refine Case.decT (by omega) ?_; conv => whnf)
      | (refine Case.decF (by omega) ?_; conv => whnf)
      | (refine Case.beqT (by omega) ?_; conv => whnf)
      | (refine Case.beqF (by omega) ?_; conv => whnf)
      | (refine (yat_at l (by omega) p (by omega) _ p (by omega) (by omega) (by omega)).call ⟨⟨rfl, rfl, trivial⟩, rfl, rfl⟩ ?_; conv => whnf)
      | (refine (yat_at l (by omega) p (by omega) _ (p + 1) (by omega) (by omega) (by omega)).call ⟨⟨rfl, rfl, trivial⟩, rfl, rfl⟩ ?_; conv => whnf)
      | (refine hd.call ⟨rfl, rfl⟩ ?_; conv => whnf)
      | (refine Owes.mk (by first | omega | (simp; omega)) ?_; conv => whnf)
      | (refine Num.id (by omega) (by omega) ?_; conv => whnf)
      | (refine Case.dec (fun _ => ?_) (fun _ => ?_) <;> conv => whnf)
      | (refine Case.beqI (fun _ => ?_) (fun _ => ?_) <;> conv => whnf)
      | (refine Case.mk (fun _ => ?_) (fun _ => ?_) <;> conv => whnf)
      | (refine Way.fst ?_; conv => whnf)
    rw [er]
    refine yfig_call (l := l) (a := p + 1) (k := 0) (n := 2) (bs := bs ++ [46]) (H := [some tok0]) (by omega) hl (by omega) (by rw [List.length_append]; simp; omega) ?_
    rw [hr]
    conv => whnf
    repeat' first
      | (refine Case.not ?_; conv => whnf)
      | (refine Case.yes ?_; conv => whnf)
      | (refine Case.no ?_; conv => whnf)
      | (refine Case.isTrue (by assumption) ?_; conv => whnf)
      | (refine Case.isFalse (by assumption) ?_; conv => whnf)
      | (refine Case.decT (by assumption) ?_; conv => whnf)
      | (refine Case.decF (by assumption) ?_; conv => whnf)
      | (refine Case.decT (by omega) ?_; conv => whnf)
      | (refine Case.decF (by omega) ?_; conv => whnf)
      | (refine Case.beqT (by omega) ?_; conv => whnf)
      | (refine Case.beqF (by omega) ?_; conv => whnf)
      | (refine (yat_at l (by omega) q (by omega) _ q (by omega) (by omega) (by omega)).call ⟨⟨rfl, rfl, trivial⟩, rfl, rfl⟩ ?_; conv => whnf)
      | (refine Owes.mk rfl ?_; conv => whnf)
      | (refine AsBytes.mk B rfl ?_; conv => whnf)
      | (refine (yofV B (by omega)).call ⟨rfl, rfl⟩ ?_; conv => whnf)
      | (refine (yname_at l (by omega) q (by omega) _ q (by omega) (by omega) (by omega)).call ⟨⟨rfl, rfl, trivial⟩, rfl, rfl⟩ ?_; conv => whnf)
      | (refine (ypoints l hl q (by omega)).call ?_; conv => whnf)
      | (refine Num.id (by omega) (by omega) ?_; conv => whnf)
      | (refine Case.dec (fun _ => ?_) (fun _ => ?_) <;> conv => whnf)
      | (refine Case.beqI (fun _ => ?_) (fun _ => ?_) <;> conv => whnf)
      | (refine Case.mk (fun _ => ?_) (fun _ => ?_) <;> conv => whnf)
      | (refine Way.fst ?_; conv => whnf)
    all_goals first
      | (have eT : numericT l a = { kind := 8, n := (numV B).1, text := nameS l q } := by unfold numericT; rw [eB]; dsimp only; rw [if_pos (by assumption)]
         have eP : numericP l a = nameP l q := by unfold numericP; rw [eB]; dsimp only; rw [if_pos (by assumption)]
         exact Fin.rd (nameP l q) (tok_scal { kind := 8, n := (numV B).1, text := nameS l q }) rfl ⟨by rw [eT]; rfl, by rw [eP]⟩)
      | (have eT : numericT l a = { kind := 7, n := (numV B).1 } := by unfold numericT; rw [eB]; dsimp only; rw [if_neg (by simp_all), if_pos (by assumption)]
         have eP : numericP l a = q + 1 := by unfold numericP; rw [eB]; dsimp only; rw [if_neg (by simp_all), if_pos (by assumption)]
         exact Fin.rd (q + 1) (tok_scal { kind := 7, n := (numV B).1 }) rfl ⟨by rw [eT]; rfl, by rw [eP]⟩)
      | (have eT : numericT l a = { kind := 6, n := (numV B).1, whole := false } := by unfold numericT; rw [eB]; dsimp only; rw [if_neg (by simp_all), if_neg (by omega)]
         have eP : numericP l a = q := by unfold numericP; rw [eB]; dsimp only; rw [if_neg (by simp_all), if_neg (by omega)]
         exact Fin.rd q (tok_scal { kind := 6, n := (numV B).1, whole := false }) rfl ⟨by rw [eT]; rfl, by rw [eP]⟩)
      | skip
  · have eB : numB l a = (bs, p, true) := by unfold numB; rw [q1, q2, if_neg hw]
    have hd := ydigit_spec (see l (p + 1))
    refine step_of tab_ok ?_
    conv => whnf
    by_cases h46 : see l p = 46
    · have hd0 : digit (see l (p + 1)) = false := by
        cases h : digit (see l (p + 1))
        · rfl
        · exact absurd ⟨h46, h⟩ hw
      rw [hd0] at hd
      repeat' first
        | (refine Case.not ?_; conv => whnf)
        | (refine Case.yes ?_; conv => whnf)
        | (refine Case.no ?_; conv => whnf)
        | (refine Case.isTrue (by assumption) ?_; conv => whnf)
        | (refine Case.isFalse (by assumption) ?_; conv => whnf)
        | (refine Case.decT (by assumption) ?_; conv => whnf)
        | (refine Case.decF (by assumption) ?_; conv => whnf)
        | (refine Case.decT (by omega) ?_; conv => whnf)
        | (refine Case.decF (by omega) ?_; conv => whnf)
        | (refine Case.beqT (by omega) ?_; conv => whnf)
        | (refine Case.beqF (by omega) ?_; conv => whnf)
        | (refine (yat_at l (by omega) p (by omega) _ p (by omega) (by omega) (by omega)).call ⟨⟨rfl, rfl, trivial⟩, rfl, rfl⟩ ?_; conv => whnf)
        | (refine (yat_at l (by omega) p (by omega) _ (p + 1) (by omega) (by omega) (by omega)).call ⟨⟨rfl, rfl, trivial⟩, rfl, rfl⟩ ?_; conv => whnf)
        | (refine hd.call ⟨rfl, rfl⟩ ?_; conv => whnf)
        | (refine Owes.mk rfl ?_; conv => whnf)
        | (refine AsBytes.mk bs rfl ?_; conv => whnf)
        | (refine (yofV bs (by omega)).call ⟨rfl, rfl⟩ ?_; conv => whnf)
        | (refine (yname_at l (by omega) p (by omega) _ p (by omega) (by omega) (by omega)).call ⟨⟨rfl, rfl, trivial⟩, rfl, rfl⟩ ?_; conv => whnf)
        | (refine (ypoints l hl p (by omega)).call ?_; conv => whnf)
        | (refine Num.id (by omega) (by omega) ?_; conv => whnf)
        | (refine Case.dec (fun _ => ?_) (fun _ => ?_) <;> conv => whnf)
        | (refine Case.beqI (fun _ => ?_) (fun _ => ?_) <;> conv => whnf)
        | (refine Case.mk (fun _ => ?_) (fun _ => ?_) <;> conv => whnf)
        | (refine Way.fst ?_; conv => whnf)
      all_goals first
        | (have eT : numericT l a = { kind := 8, n := (numV bs).1, text := nameS l p } := by unfold numericT; rw [eB]; dsimp only; rw [if_pos (by assumption)]
           have eP : numericP l a = nameP l p := by unfold numericP; rw [eB]; dsimp only; rw [if_pos (by assumption)]
           exact Fin.rd (nameP l p) (tok_scal { kind := 8, n := (numV bs).1, text := nameS l p }) rfl ⟨by rw [eT]; rfl, by rw [eP]⟩)
        | (have eT : numericT l a = { kind := 7, n := (numV bs).1 } := by unfold numericT; rw [eB]; dsimp only; rw [if_neg (by simp_all), if_pos (by assumption)]
           have eP : numericP l a = p + 1 := by unfold numericP; rw [eB]; dsimp only; rw [if_neg (by simp_all), if_pos (by assumption)]
           exact Fin.rd (p + 1) (tok_scal { kind := 7, n := (numV bs).1 }) rfl ⟨by rw [eT]; rfl, by rw [eP]⟩)
        | (have eT : numericT l a = { kind := 6, n := (numV bs).1, whole := true } := by unfold numericT; rw [eB]; dsimp only; rw [if_neg (by simp_all), if_neg (by omega)]
           have eP : numericP l a = p := by unfold numericP; rw [eB]; dsimp only; rw [if_neg (by simp_all), if_neg (by omega)]
           exact Fin.rd p (tok_scal { kind := 6, n := (numV bs).1, whole := true }) rfl ⟨by rw [eT]; rfl, by rw [eP]⟩)
        | skip
    ·
      repeat' first
        | (refine Case.not ?_; conv => whnf)
        | (refine Case.yes ?_; conv => whnf)
        | (refine Case.no ?_; conv => whnf)
        | (refine Case.isTrue (by assumption) ?_; conv => whnf)
        | (refine Case.isFalse (by assumption) ?_; conv => whnf)
        | (refine Case.decT (by assumption) ?_; conv => whnf)
        | (refine Case.decF (by assumption) ?_; conv => whnf)
        | (refine Case.decT (by omega) ?_; conv => whnf)
        | (refine Case.decF (by omega) ?_; conv => whnf)
        | (refine Case.beqT (by omega) ?_; conv => whnf)
        | (refine Case.beqF (by omega) ?_; conv => whnf)
        | (refine (yat_at l (by omega) p (by omega) _ p (by omega) (by omega) (by omega)).call ⟨⟨rfl, rfl, trivial⟩, rfl, rfl⟩ ?_; conv => whnf)
        | (refine (yat_at l (by omega) p (by omega) _ (p + 1) (by omega) (by omega) (by omega)).call ⟨⟨rfl, rfl, trivial⟩, rfl, rfl⟩ ?_; conv => whnf)
        | (refine hd.call ⟨rfl, rfl⟩ ?_; conv => whnf)
        | (refine Owes.mk rfl ?_; conv => whnf)
        | (refine AsBytes.mk bs rfl ?_; conv => whnf)
        | (refine (yofV bs (by omega)).call ⟨rfl, rfl⟩ ?_; conv => whnf)
        | (refine (yname_at l (by omega) p (by omega) _ p (by omega) (by omega) (by omega)).call ⟨⟨rfl, rfl, trivial⟩, rfl, rfl⟩ ?_; conv => whnf)
        | (refine (ypoints l hl p (by omega)).call ?_; conv => whnf)
        | (refine Num.id (by omega) (by omega) ?_; conv => whnf)
        | (refine Case.dec (fun _ => ?_) (fun _ => ?_) <;> conv => whnf)
        | (refine Case.beqI (fun _ => ?_) (fun _ => ?_) <;> conv => whnf)
        | (refine Case.mk (fun _ => ?_) (fun _ => ?_) <;> conv => whnf)
        | (refine Way.fst ?_; conv => whnf)
      all_goals first
        | (have eT : numericT l a = { kind := 8, n := (numV bs).1, text := nameS l p } := by unfold numericT; rw [eB]; dsimp only; rw [if_pos (by assumption)]
           have eP : numericP l a = nameP l p := by unfold numericP; rw [eB]; dsimp only; rw [if_pos (by assumption)]
           exact Fin.rd (nameP l p) (tok_scal { kind := 8, n := (numV bs).1, text := nameS l p }) rfl ⟨by rw [eT]; rfl, by rw [eP]⟩)
        | (have eT : numericT l a = { kind := 7, n := (numV bs).1 } := by unfold numericT; rw [eB]; dsimp only; rw [if_neg (by simp_all), if_pos (by assumption)]
           have eP : numericP l a = p + 1 := by unfold numericP; rw [eB]; dsimp only; rw [if_neg (by simp_all), if_pos (by assumption)]
           exact Fin.rd (p + 1) (tok_scal { kind := 7, n := (numV bs).1 }) rfl ⟨by rw [eT]; rfl, by rw [eP]⟩)
        | (have eT : numericT l a = { kind := 6, n := (numV bs).1, whole := true } := by unfold numericT; rw [eB]; dsimp only; rw [if_neg (by simp_all), if_neg (by omega)]
           have eP : numericP l a = p := by unfold numericP; rw [eB]; dsimp only; rw [if_neg (by simp_all), if_neg (by omega)]
           exact Fin.rd p (tok_scal { kind := 6, n := (numV bs).1, whole := true }) rfl ⟨by rw [eT]; rfl, by rw [eP]⟩)
        | skip
end Go.Proofs.YtdenafhfngnlfaaDoor.Aw
