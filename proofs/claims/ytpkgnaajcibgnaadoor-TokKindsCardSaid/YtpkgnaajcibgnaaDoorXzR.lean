/- TokReads, TokPoints. -/
import Derived.Test.YtpkgnaajcibgnaaDoorXyV
import Derived.Test.YtpkgnaajcibgnaaDoorXyQ
import Derived.Test.YtpkgnaajcibgnaaDoorXrS
import Derived.Test.YtpkgnaajcibgnaaDoorXkX
import Derived.Test.YtpkgnaajcibgnaaDoorXkT
import Derived.Test.YtpkgnaajcibgnaaDoorAwW
namespace Go.Proofs.YtpkgnaajcibgnaaDoor.Aw
open Go Go.RowKit Go.Lib
set_option linter.unusedVariables false
set_option linter.unusedSimpArgs false
set_option maxRecDepth 100000
theorem rtokens_val (l : List Int) (hl : l.length < 100000000) : Val 20 [.f (.sl (ptsF l))] (.f (.sl ((tokens l).map tokRow))) :=
  ⟨rfl, ⟨trivial, trivial⟩, rfl, (tokens_spec l hl).mono fun d H h => ⟨h.2, h.1⟩⟩
theorem toks_bd (l : List Int) (m : Nat) (hm : 4 * (l.length + 1) ≤ m) : ∀ k ∈ tokens l, k.text.length ≤ m := fun k hk => by
  have := (tokRun_fit l (l.length + 1) 0 [] (by simp)).1 k hk
  have := this.text
  omega
set_option maxHeartbeats 4000000 in
theorem reads_spec (bs : List UInt8) : Pure 11 [.f (.sl (bs.map byteRow))] (bool true) := by
  have hbl : (bs.map byteRow).length = bs.length := List.length_map ..
  refine ⟨trivial, spec_mk tab_ok Tryd.func11 (by rfl) rfl ?_⟩
  conv => whnf
  repeat' first
    | (refine Case.not ?_; conv => whnf)
    | (refine Case.yes ?_; conv => whnf)
    | (refine Case.no ?_; conv => whnf)
    | (refine Case.isTrue (by assumption) ?_; conv => whnf)
    | (refine Case.isFalse (by assumption) ?_; conv => whnf)
    | (refine Case.decT (by assumption) ?_; conv => whnf)
    | (refine Case.decF (by assumption) ?_; conv => whnf)
    | (refine Case.decT (by omega) ?_; conv => whnf)
    | (refine Case.decF (by omega) ?_; conv => whnf)
    | (refine Case.beqT (by omega) ?_; conv => whnf)
    | (refine Case.beqF (by omega) ?_; conv => whnf)
    | (refine Case.strT (by assumption) ?_; conv => whnf)
    | (refine Case.strF (by assumption) ?_; conv => whnf)
    | (refine Case.strF (by simp only [*]; decide) ?_; conv => whnf)
    | (refine alive4_spec.call rfl ?_; conv => whnf)
    | (refine step_kinds 2 ?hk ?_; (case hk => decide +kernel); conv => whnf)
    | (refine step_kinds 3 ?hk ?_; (case hk => decide +kernel); conv => whnf)
    | (refine step_auto 2 ?hk ?_; (case hk => decide +kernel); conv => whnf)
    | (refine step_auto 3 ?hk ?_; (case hk => decide +kernel); conv => whnf)
    | (refine Num.id (by omega) (by omega) ?_; conv => whnf)
    | (refine Case.strI (fun _ => ?_) (fun _ => ?_) <;> conv => whnf)
    | (refine Both.mk ?_ ?_ <;> conv => whnf)
    | (refine Case.dec (fun _ => ?_) (fun _ => ?_) <;> conv => whnf)
    | (refine Case.beqI (fun _ => ?_) (fun _ => ?_) <;> conv => whnf)
    | (refine Case.mk (fun _ => ?_) (fun _ => ?_) <;> conv => whnf)
    | (refine Way.fst ?_; conv => whnf)
  · exact Fin.isB rfl
  · have hl : bs.length ≤ 2000 := by omega
    have hpl := prepare_len bs
    have htl := tokens_len (prepare bs)
    have hml : ((ofB bs).map tokRow).length = (ofB bs).length := List.length_map ..
    have ho := of4_val bs (by omega)
    have hp := prepare_spec bs (by omega)
    have ht := rtokens_val (prepare bs) (by omega)
    have hs := sameTokens_spec (ofB bs) (by unfold ofB; omega)
    have hx := ytext (ofB bs) (by unfold ofB; omega) (toks_bd (prepare bs) _ (by omega))
    repeat' first
      | (refine Case.not ?_; conv => whnf)
      | (refine Case.yes ?_; conv => whnf)
      | (refine Case.no ?_; conv => whnf)
      | (refine Case.isTrue (by assumption) ?_; conv => whnf)
      | (refine Case.isFalse (by assumption) ?_; conv => whnf)
      | (refine Case.decT (by assumption) ?_; conv => whnf)
      | (refine Case.decF (by assumption) ?_; conv => whnf)
      | (refine Case.decT (by omega) ?_; conv => whnf)
      | (refine Case.decF (by omega) ?_; conv => whnf)
      | (refine Case.beqT (by omega) ?_; conv => whnf)
      | (refine Case.beqF (by omega) ?_; conv => whnf)
      | (refine Case.strT (by assumption) ?_; conv => whnf)
      | (refine Case.strF (by assumption) ?_; conv => whnf)
      | (refine Case.strF (by simp only [*]; decide) ?_; conv => whnf)
      | (refine ho.call ?_; conv => whnf)
      | (refine hp.call ?_; conv => whnf)
      | (refine ht.call ?_; conv => whnf)
      | (refine hs.call ⟨rfl, rfl, rfl⟩ ?_; conv => whnf)
      | (refine hs.callB ⟨rfl, rfl, rfl⟩ ?_; conv => whnf)
      | (refine hx.call ⟨rfl, rfl⟩ ?_; conv => whnf)
      | (refine hx.callB ⟨rfl, rfl⟩ ?_; conv => whnf)
      | (refine Case.strT rfl ?_; conv => whnf)
      | (refine step_kinds 2 ?hk ?_; (case hk => decide +kernel); conv => whnf)
      | (refine step_kinds 3 ?hk ?_; (case hk => decide +kernel); conv => whnf)
      | (refine step_auto 2 ?hk ?_; (case hk => decide +kernel); conv => whnf)
      | (refine step_auto 3 ?hk ?_; (case hk => decide +kernel); conv => whnf)
      | (refine Num.id (by omega) (by omega) ?_; conv => whnf)
      | (refine Case.strI (fun _ => ?_) (fun _ => ?_) <;> conv => whnf)
      | (refine Both.mk ?_ ?_ <;> conv => whnf)
      | (refine Case.dec (fun _ => ?_) (fun _ => ?_) <;> conv => whnf)
      | (refine Case.beqI (fun _ => ?_) (fun _ => ?_) <;> conv => whnf)
      | (refine Case.mk (fun _ => ?_) (fun _ => ?_) <;> conv => whnf)
      | (refine Way.fst ?_; conv => whnf)
    exact Fin.isB (decide_eq_true (by rw [hml, hbl]; unfold ofB; omega))
set_option maxHeartbeats 4000000 in
theorem points4_spec (l : List Int) : Pure 12 [.f (.sl (ptsF l))] (bool true) := by
  have hpl := ptsF_length l
  refine ⟨trivial, spec_mk tab_ok Tryd.func12 (by rfl) rfl ?_⟩
  conv => whnf
  repeat' first
    | (refine Case.not ?_; conv => whnf)
    | (refine Case.yes ?_; conv => whnf)
    | (refine Case.no ?_; conv => whnf)
    | (refine Case.isTrue (by assumption) ?_; conv => whnf)
    | (refine Case.isFalse (by assumption) ?_; conv => whnf)
    | (refine Case.decT (by assumption) ?_; conv => whnf)
    | (refine Case.decF (by assumption) ?_; conv => whnf)
    | (refine Case.decT (by omega) ?_; conv => whnf)
    | (refine Case.decF (by omega) ?_; conv => whnf)
    | (refine Case.beqT (by omega) ?_; conv => whnf)
    | (refine Case.beqF (by omega) ?_; conv => whnf)
    | (refine Case.strT (by assumption) ?_; conv => whnf)
    | (refine Case.strF (by assumption) ?_; conv => whnf)
    | (refine Case.strF (by simp only [*]; decide) ?_; conv => whnf)
    | (refine alive4_spec.call rfl ?_; conv => whnf)
    | (refine step_kinds 2 ?hk ?_; (case hk => decide +kernel); conv => whnf)
    | (refine step_kinds 3 ?hk ?_; (case hk => decide +kernel); conv => whnf)
    | (refine step_auto 2 ?hk ?_; (case hk => decide +kernel); conv => whnf)
    | (refine step_auto 3 ?hk ?_; (case hk => decide +kernel); conv => whnf)
    | (refine Num.id (by omega) (by omega) ?_; conv => whnf)
    | (refine Case.strI (fun _ => ?_) (fun _ => ?_) <;> conv => whnf)
    | (refine Both.mk ?_ ?_ <;> conv => whnf)
    | (refine Case.dec (fun _ => ?_) (fun _ => ?_) <;> conv => whnf)
    | (refine Case.beqI (fun _ => ?_) (fun _ => ?_) <;> conv => whnf)
    | (refine Case.mk (fun _ => ?_) (fun _ => ?_) <;> conv => whnf)
    | (refine Way.fst ?_; conv => whnf)
  · exact Fin.isB rfl
  · have hl : l.length ≤ 500 := by omega
    have htl := tokens_len l
    have ho := tokens4_val l (by omega)
    have ht := rtokens_val l (by omega)
    have hs := sameTokens_spec (tokens l) (by omega)
    have hx := ytext [] (by simp) (by simp)
    repeat' first
      | (refine Case.not ?_; conv => whnf)
      | (refine Case.yes ?_; conv => whnf)
      | (refine Case.no ?_; conv => whnf)
      | (refine Case.isTrue (by assumption) ?_; conv => whnf)
      | (refine Case.isFalse (by assumption) ?_; conv => whnf)
      | (refine Case.decT (by assumption) ?_; conv => whnf)
      | (refine Case.decF (by assumption) ?_; conv => whnf)
      | (refine Case.decT (by omega) ?_; conv => whnf)
      | (refine Case.decF (by omega) ?_; conv => whnf)
      | (refine Case.beqT (by omega) ?_; conv => whnf)
      | (refine Case.beqF (by omega) ?_; conv => whnf)
      | (refine Case.strT (by assumption) ?_; conv => whnf)
      | (refine Case.strF (by assumption) ?_; conv => whnf)
      | (refine Case.strF (by simp only [*]; decide) ?_; conv => whnf)
      | (refine ho.call ?_; conv => whnf)
      | (refine ht.call ?_; conv => whnf)
      | (refine hs.call ⟨rfl, rfl, rfl⟩ ?_; conv => whnf)
      | (refine hs.callB ⟨rfl, rfl, rfl⟩ ?_; conv => whnf)
      | (refine hx.call ⟨rfl, rfl⟩ ?_; conv => whnf)
      | (refine hx.callB ⟨rfl, rfl⟩ ?_; conv => whnf)
      | (refine step_kinds 2 ?hk ?_; (case hk => decide +kernel); conv => whnf)
      | (refine step_kinds 3 ?hk ?_; (case hk => decide +kernel); conv => whnf)
      | (refine step_auto 2 ?hk ?_; (case hk => decide +kernel); conv => whnf)
      | (refine step_auto 3 ?hk ?_; (case hk => decide +kernel); conv => whnf)
      | (refine Num.id (by omega) (by omega) ?_; conv => whnf)
      | (refine Case.strI (fun _ => ?_) (fun _ => ?_) <;> conv => whnf)
      | (refine Both.mk ?_ ?_ <;> conv => whnf)
      | (refine Case.dec (fun _ => ?_) (fun _ => ?_) <;> conv => whnf)
      | (refine Case.beqI (fun _ => ?_) (fun _ => ?_) <;> conv => whnf)
      | (refine Case.mk (fun _ => ?_) (fun _ => ?_) <;> conv => whnf)
      | (refine Way.fst ?_; conv => whnf)
    all_goals first | exact Fin.isB rfl | exact Fin.isB (by simp [textOf])
theorem globT {W : World} (ht : tabP W) : Glob (fun b => b < W.heap.size) W := ⟨fun b hb => tab_lt ht b hb, ht⟩
theorem walkTokReads (bs : List UInt8) (W : World) {v : Value} (hv : RepF (fun b => b < W.heap.size) W (.sl (bs.map byteRow)) v) (ht : tabP W) : Calls Tryd.prog 11 #[v] W fun e w' => e = .returned (.bool true) ∧ Below W.heap.size W w' :=
  calls_of_spec (reads_spec bs).2 W (globT ht) [v] (repL_cons (by unfold Rep; exact hv) repL_nil)
theorem walkTokPoints (l : List Int) (W : World) {v : Value} (hv : RepF (fun b => b < W.heap.size) W (.sl (ptsF l)) v) (_ : ∀ x ∈ l, -9223372036854775808 ≤ x ∧ x < 9223372036854775808) (ht : tabP W) : Calls Tryd.prog 12 #[v] W fun e w' => e = .returned (.bool true) ∧ Below W.heap.size W w' :=
  calls_of_spec (points4_spec l).2 W (globT ht) [v] (repL_cons (by unfold Rep; exact hv) repL_nil)
end Go.Proofs.YtpkgnaajcibgnaaDoor.Aw
