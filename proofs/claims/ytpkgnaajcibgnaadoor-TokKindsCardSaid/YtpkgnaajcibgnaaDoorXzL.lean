/- TokKinds: the walk. -/
import Derived.Test.YtpkgnaajcibgnaaDoorXzI
namespace Go.Proofs.YtpkgnaajcibgnaaDoor.Aw
open Go Go.RowKit Go.Lib
set_option linter.unusedVariables false
set_option linter.unusedSimpArgs false
set_option maxRecDepth 100000
theorem kinds_of (k : Int) (h : 1 ≤ k ∧ k ≤ 20) : k = 1 ∨ k = 2 ∨ k = 3 ∨ k = 4 ∨ k = 5 ∨ k = 6 ∨ k = 7 ∨ k = 8 ∨ k = 9 ∨ k = 10 ∨ (11 ≤ k ∧ k ≤ 19) ∨ k = 20 := by omega
set_option maxHeartbeats 8000000 in
theorem kinds_spec (bs : List UInt8) : Pure 13 [.f (.sl (bs.map byteRow))] (bool true) := by
  have hbl : (bs.map byteRow).length = bs.length := List.length_map ..
  refine ⟨trivial, spec_mk tab_ok Tryd.func13 (by rfl) rfl ?_⟩
  conv => whnf
  repeat' first
    | (refine Case.not ?_; conv => whnf)
    | (refine Case.yes ?_; conv => whnf)
    | (refine Case.no ?_; conv => whnf)
    | (refine Case.isTrue (by assumption) ?_; conv => whnf)
    | (refine Case.isFalse (by assumption) ?_; conv => whnf)
    | (refine Case.decT (by assumption) ?_; conv => whnf)
    | (refine Case.decF (by assumption) ?_; conv => whnf)
    | (refine Case.decT (by omega) ?_; conv => whnf)
    | (refine Case.decF (by omega) ?_; conv => whnf)
    | (refine Case.beqT (by omega) ?_; conv => whnf)
    | (refine Case.beqF (by omega) ?_; conv => whnf)
    | (refine Case.strT (by assumption) ?_; conv => whnf)
    | (refine Case.strF (by assumption) ?_; conv => whnf)
    | (refine Case.strF (by simp only [*]; decide) ?_; conv => whnf)
    | (refine alive4_spec.call rfl ?_; conv => whnf)
    | (refine step_kinds 2 ?hk ?_; (case hk => decide +kernel); conv => whnf)
    | (refine step_kinds 3 ?hk ?_; (case hk => decide +kernel); conv => whnf)
    | (refine step_auto 2 ?hk ?_; (case hk => decide +kernel); conv => whnf)
    | (refine step_auto 3 ?hk ?_; (case hk => decide +kernel); conv => whnf)
    | (refine Num.id (by omega) (by omega) ?_; conv => whnf)
    | (refine Case.strI (fun _ => ?_) (fun _ => ?_) <;> conv => whnf)
    | (refine Both.mk ?_ ?_ <;> conv => whnf)
    | (refine Case.dec (fun _ => ?_) (fun _ => ?_) <;> conv => whnf)
    | (refine Case.beqI (fun _ => ?_) (fun _ => ?_) <;> conv => whnf)
    | (refine Case.mk (fun _ => ?_) (fun _ => ?_) <;> conv => whnf)
    | (refine Way.fst ?_; conv => whnf)
  · exact Fin.isB rfl
  · have hl : bs.length ≤ 1000 := by omega
    have hpl := prepare_len bs
    have htl := tokens_len (prepare bs)
    have hml : ((ofB bs).map tokRow).length = (ofB bs).length := List.length_map ..
    have hol : (ofB bs).length ≤ 1000 := by unfold ofB; omega
    have ho := of4_val bs (by omega)
    have hx := ytext (ofB bs) (by omega) (toks_bd (prepare bs) _ (by omega))
    have hcm := comment_spec bs (by omega)
    repeat' first
      | (refine Case.not ?_; conv => whnf)
      | (refine Case.yes ?_; conv => whnf)
      | (refine Case.no ?_; conv => whnf)
      | (refine Case.isTrue (by assumption) ?_; conv => whnf)
      | (refine Case.isFalse (by assumption) ?_; conv => whnf)
      | (refine Case.decT (by assumption) ?_; conv => whnf)
      | (refine Case.decF (by assumption) ?_; conv => whnf)
      | (refine Case.decT (by omega) ?_; conv => whnf)
      | (refine Case.decF (by omega) ?_; conv => whnf)
      | (refine Case.beqT (by omega) ?_; conv => whnf)
      | (refine Case.beqF (by omega) ?_; conv => whnf)
      | (refine Case.strT (by assumption) ?_; conv => whnf)
      | (refine Case.strF (by assumption) ?_; conv => whnf)
      | (refine Case.strF (by simp only [*]; decide) ?_; conv => whnf)
      | (refine ho.call ?_; conv => whnf)
      | (refine step_kinds 2 ?hk ?_; (case hk => decide +kernel); conv => whnf)
      | (refine step_kinds 3 ?hk ?_; (case hk => decide +kernel); conv => whnf)
      | (refine step_auto 2 ?hk ?_; (case hk => decide +kernel); conv => whnf)
      | (refine step_auto 3 ?hk ?_; (case hk => decide +kernel); conv => whnf)
      | (refine Num.id (by omega) (by omega) ?_; conv => whnf)
      | (refine Case.strI (fun _ => ?_) (fun _ => ?_) <;> conv => whnf)
      | (refine Both.mk ?_ ?_ <;> conv => whnf)
      | (refine Case.dec (fun _ => ?_) (fun _ => ?_) <;> conv => whnf)
      | (refine Case.beqI (fun _ => ?_) (fun _ => ?_) <;> conv => whnf)
      | (refine Case.mk (fun _ => ?_) (fun _ => ?_) <;> conv => whnf)
      | (refine Way.fst ?_; conv => whnf)
    refine step_loop tab_ok (fun i : Nat => padK [.f (.sl (bs.map byteRow)), .junk, .junk, bool true, .f (.sl ((ofB bs).map tokRow)), int i] 166) (fun _ => []) 0 (fun i : Nat => i ≤ (ofB bs).length) (fun i => (ofB bs).length - i) 0 (by simp) (fun _ => rfl) ?_ ?_
    ·
      repeat' first | exact trivial | exact rfl | exact Nat.zero_le _ | exact Nat.zero_lt_succ _ | exact (by decide : (0 : Nat) < 1) | exact (by decide : (1 : Nat) < 4) | exact (by decide : (2 : Nat) < 4) | exact (by decide : (3 : Nat) < 4) | exact (by decide : (1 : Nat) < 2) | exact (by decide : (2 : Nat) < 3) | exact congrArg int (by (try dsimp only); omega) | exact congrArg bool (by (try dsimp only); simp; omega) | (show _ < List.length _; simp; done) | apply And.intro
    · intro i h1
      by_cases h0 : i < (ofB bs).length
      · obtain ⟨k, hk⟩ : ∃ k, (ofB bs)[i]? = some k := ⟨_, List.getElem?_eq_getElem h0⟩
        have hK := tokens_kind (prepare bs) k (List.mem_of_getElem? hk)
        have hF := (tokRun_fit (prepare bs) ((prepare bs).length + 1) 0 [] (by simp)).1 k (List.mem_of_getElem? hk)
        have hat : KindAt bs i k := ⟨hol, h0, hk, hF.lo, hF.hi⟩
        have hr : KindRound bs i := by
          clear hF
          obtain ⟨kind, text, n, whole, c⟩ := k
          obtain ⟨k1, k2, k3, k4, k5, k6⟩ := hK
          dsimp only at k1 k2 k3 k4 k5 k6
          rcases kinds_of kind k1 with rfl | rfl | rfl | rfl | rfl | rfl | rfl | rfl | rfl | rfl | hkd | rfl
          · obtain rfl : n = 0 := k3 (by unfold isNum; omega)
            obtain rfl : whole = false := k4 (by omega)
            obtain rfl : c = 0 := k5 (by omega)
            exact kinds_r1 (k6 (by unfold isText; omega) (by omega)) hat
          · obtain rfl : n = 0 := k3 (by unfold isNum; omega)
            obtain rfl : whole = false := k4 (by omega)
            obtain rfl : c = 0 := k5 (by omega)
            exact kinds_r2 (k6 (by unfold isText; omega) (by omega)) hat
          · obtain rfl : n = 0 := k3 (by unfold isNum; omega)
            obtain rfl : whole = false := k4 (by omega)
            obtain rfl : c = 0 := k5 (by omega)
            exact kinds_r3 (k6 (by unfold isText; omega) (by omega)) hat
          · obtain rfl : n = 0 := k3 (by unfold isNum; omega)
            obtain rfl : whole = false := k4 (by omega)
            obtain rfl : c = 0 := k5 (by omega)
            exact kinds_r4 hat
          · obtain rfl : n = 0 := k3 (by unfold isNum; omega)
            obtain rfl : whole = false := k4 (by omega)
            obtain rfl : c = 0 := k5 (by omega)
            obtain rfl : text = [] := k2 (by unfold isText; omega)
            exact kinds_r5 hat
          · obtain rfl : c = 0 := k5 (by omega)
            obtain rfl : text = [] := k2 (by unfold isText; omega)
            exact kinds_r6 hat
          · obtain rfl : whole = false := k4 (by omega)
            obtain rfl : c = 0 := k5 (by omega)
            obtain rfl : text = [] := k2 (by unfold isText; omega)
            exact kinds_r7 hat
          · obtain rfl : whole = false := k4 (by omega)
            obtain rfl : c = 0 := k5 (by omega)
            exact kinds_r8 (k6 (by unfold isText; omega) (by omega)) hat
          · obtain rfl : n = 0 := k3 (by unfold isNum; omega)
            obtain rfl : whole = false := k4 (by omega)
            obtain rfl : c = 0 := k5 (by omega)
            obtain rfl : text = [] := k2 (by unfold isText; omega)
            exact kinds_r9 hcm (fun k' hp hk' hc h9 => ofB_ww hc (i - 1) k' _ hk' (by rw [show i - 1 + 1 = i by omega]; exact hk) ⟨h9, rfl⟩) hat
          · obtain rfl : n = 0 := k3 (by unfold isNum; omega)
            obtain rfl : whole = false := k4 (by omega)
            obtain rfl : text = [] := k2 (by unfold isText; omega)
            exact kinds_r10 hat
          · obtain rfl : n = 0 := k3 (by unfold isNum; omega)
            obtain rfl : whole = false := k4 (by omega)
            obtain rfl : c = 0 := k5 (by omega)
            obtain rfl : text = [] := k2 (by unfold isText; omega)
            exact kinds_r11 hkd hat
          · obtain rfl : n = 0 := k3 (by unfold isNum; omega)
            obtain rfl : whole = false := k4 (by omega)
            obtain rfl : c = 0 := k5 (by omega)
            exact kinds_r20 (k6 (by unfold isText; omega) (by omega)) hat
        exact hr _ (fun E H n hi => ⟨i + 1, by omega, by omega, hi⟩)
      · have h0' : ¬ ((i : Int) < (((ofB bs).map tokRow).length : Int)) := by rw [hml]; omega
        conv => whnf
        repeat' first
          | (refine Case.not ?_; conv => whnf)
          | (refine Case.yes ?_; conv => whnf)
          | (refine Case.no ?_; conv => whnf)
          | (refine Case.isTrue (by assumption) ?_; conv => whnf)
          | (refine Case.isFalse (by assumption) ?_; conv => whnf)
          | (refine Case.decT (by assumption) ?_; conv => whnf)
          | (refine Case.decF (by assumption) ?_; conv => whnf)
          | (refine Case.decT (by omega) ?_; conv => whnf)
          | (refine Case.decF (by omega) ?_; conv => whnf)
          | (refine Case.beqT (by omega) ?_; conv => whnf)
          | (refine Case.beqF (by omega) ?_; conv => whnf)
          | (refine Case.strT (by assumption) ?_; conv => whnf)
          | (refine Case.strF (by assumption) ?_; conv => whnf)
          | (refine Case.strF (by simp only [*]; decide) ?_; conv => whnf)
          | (refine Owes.mk toks4_row ?_; conv => whnf)
          | (refine Owes.mk (by rw [hml]; show _ * 48 ≤ _; omega) ?_; conv => whnf)
          | (refine hx.call ⟨rfl, rfl⟩ ?_; conv => whnf)
          | (refine hx.callB ⟨rfl, rfl⟩ ?_; conv => whnf)
          | (refine step_kinds 2 ?hk ?_; (case hk => decide +kernel); conv => whnf)
          | (refine step_kinds 3 ?hk ?_; (case hk => decide +kernel); conv => whnf)
          | (refine step_auto 2 ?hk ?_; (case hk => decide +kernel); conv => whnf)
          | (refine step_auto 3 ?hk ?_; (case hk => decide +kernel); conv => whnf)
          | (refine Num.id (by omega) (by omega) ?_; conv => whnf)
          | (refine Case.strI (fun _ => ?_) (fun _ => ?_) <;> conv => whnf)
          | (refine Both.mk ?_ ?_ <;> conv => whnf)
          | (refine Case.dec (fun _ => ?_) (fun _ => ?_) <;> conv => whnf)
          | (refine Case.beqI (fun _ => ?_) (fun _ => ?_) <;> conv => whnf)
          | (refine Case.mk (fun _ => ?_) (fun _ => ?_) <;> conv => whnf)
          | (refine Way.fst ?_; conv => whnf)
        exact Fin.isB (by simp)
theorem walkTokKinds (bs : List UInt8) (W : World) {v : Value} (hv : RepF (fun b => b < W.heap.size) W (.sl (bs.map byteRow)) v) (ht : tabP W) : Calls Tryd.prog 13 #[v] W fun e w' => e = .returned (.bool true) ∧ Below W.heap.size W w' :=
  calls_of_spec (kinds_spec bs).2 W (globT ht) [v] (repL_cons (by unfold Rep; exact hv) repL_nil)
end Go.Proofs.YtpkgnaajcibgnaaDoor.Aw
