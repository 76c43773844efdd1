/- SelCombs: its walk. -/
import Derived.Test.YtdfiegleaknleaaXlF
namespace Go.Proofs.Ytdfiegleaknleaa.Aw
open Go Go.RowKit Go.Lib
set_option linter.unusedVariables false
set_option linter.unusedSimpArgs false
set_option maxRecDepth 100000
def combS (c : Int) : List Selr := [[(0, { tag := [97] }), (c, { cls := [[98]] })]]
set_option maxHeartbeats 8000000 in
theorem selCombs_in (c : Int) (x y : Bool) (hc : c = 1 ∨ c = 2 ∨ c = 3 ∨ c = 4) : Spec P 8 [int c, bool x, bool y] [] 0 (fun d H => H = [] ∧ d = bool true) := by
  refine spec_mk tab_ok Try.func8 (by rfl) rfl ?_
  rcases hc with rfl | rfl | rfl | rfl <;> cases x <;> cases y
  ·
    have z1 : ((⟨#[97]⟩ ++ ⟨#[32]⟩ : ByteArray) ++ ⟨#[46, 98]⟩ : ByteArray).size < 1000000 := by decide +kernel
    have z2 : ((⟨#[97]⟩ ++ ⟨#[32]⟩ : ByteArray) ++ ⟨#[62]⟩ : ByteArray).size < 1000000 := by decide +kernel
    have ho := of_spec _ z1
    have hn := of_spec _ z2
    have hp := parse_spec (ofT_fit _ z1)
    have hm := parse_spec (ofT_fit _ z2)
    have e1 : sParse (ofT ((⟨#[97]⟩ ++ ⟨#[32]⟩ : ByteArray) ++ ⟨#[46, 98]⟩)) = (combS 1, true) := by kernel_rfl
    have e2 : (sParse (ofT ((⟨#[97]⟩ ++ ⟨#[32]⟩ : ByteArray) ++ ⟨#[62]⟩))).2 = false := by kernel_rfl
    rw [e1] at hp
    rw [e2] at hm
    clear e1 e2 z1 z2
    conv => whnf
    repeat' first
      | (refine Case.not ?_; conv => whnf)
      | (refine Case.yes ?_; conv => whnf)
      | (refine Case.no ?_; conv => whnf)
      | (refine Case.isTrue (by assumption) ?_; conv => whnf)
      | (refine Case.isFalse (by assumption) ?_; conv => whnf)
      | (refine Case.decT (by assumption) ?_; conv => whnf)
      | (refine Case.decF (by assumption) ?_; conv => whnf)
      | (refine Case.decT (by omega) ?_; conv => whnf)
      | (refine Case.decF (by omega) ?_; conv => whnf)
      | (refine Case.beqT (by omega) ?_; conv => whnf)
      | (refine Case.beqF (by omega) ?_; conv => whnf)
      | (refine Case.strT (by assumption) ?_; conv => whnf)
      | (refine Case.strF (by assumption) ?_; conv => whnf)
      | (refine Case.strF (by simp only [*]; decide) ?_; conv => whnf)
      | (refine alive_spec.call rfl ?_; conv => whnf)
      | (refine Owes.mk rfl ?_; conv => whnf)
      | (refine Owes.mk (by decide +kernel) ?_; conv => whnf)
      | (refine Elem.mk 0 _ rfl rfl ?_; conv => whnf)
      | (refine Elem.mk 1 _ rfl rfl ?_; conv => whnf)
      | (refine Elem.mk 2 _ rfl rfl ?_; conv => whnf)
      | (refine Elem.mk 3 _ rfl rfl ?_; conv => whnf)
      | (refine step_kinds 2 ?hk ?_; (case hk => decide +kernel); conv => whnf)
      | (refine step_kinds 3 ?hk ?_; (case hk => decide +kernel); conv => whnf)
      | (refine Num.id (by omega) (by omega) ?_; conv => whnf)
      | (refine Case.strI (fun _ => ?_) (fun _ => ?_) <;> conv => whnf)
      | (refine Both.mk ?_ ?_ <;> conv => whnf)
      | (refine Case.dec (fun _ => ?_) (fun _ => ?_) <;> conv => whnf)
      | (refine Case.beqI (fun _ => ?_) (fun _ => ?_) <;> conv => whnf)
      | (refine Case.mk (fun _ => ?_) (fun _ => ?_) <;> conv => whnf)
    refine ho.call ?_
    conv => whnf
    refine hp.call ?_
    conv => whnf
    repeat' first
      | (refine Case.not ?_; conv => whnf)
      | (refine Case.yes ?_; conv => whnf)
      | (refine Case.no ?_; conv => whnf)
      | (refine Case.isTrue (by assumption) ?_; conv => whnf)
      | (refine Case.isFalse (by assumption) ?_; conv => whnf)
      | (refine Case.decT (by assumption) ?_; conv => whnf)
      | (refine Case.decF (by assumption) ?_; conv => whnf)
      | (refine Case.decT (by omega) ?_; conv => whnf)
      | (refine Case.decF (by omega) ?_; conv => whnf)
      | (refine Case.beqT (by omega) ?_; conv => whnf)
      | (refine Case.beqF (by omega) ?_; conv => whnf)
      | (refine Case.strT (by assumption) ?_; conv => whnf)
      | (refine Case.strF (by assumption) ?_; conv => whnf)
      | (refine Case.strF (by simp only [*]; decide) ?_; conv => whnf)
      | (refine Owes.mk (by decide +kernel) ?_; conv => whnf)
      | (refine step_kinds 2 ?hk ?_; (case hk => decide +kernel); conv => whnf)
      | (refine step_kinds 3 ?hk ?_; (case hk => decide +kernel); conv => whnf)
      | (refine Num.id (by omega) (by omega) ?_; conv => whnf)
      | (refine Case.strI (fun _ => ?_) (fun _ => ?_) <;> conv => whnf)
      | (refine Both.mk ?_ ?_ <;> conv => whnf)
      | (refine Case.dec (fun _ => ?_) (fun _ => ?_) <;> conv => whnf)
      | (refine Case.beqI (fun _ => ?_) (fun _ => ?_) <;> conv => whnf)
      | (refine Case.mk (fun _ => ?_) (fun _ => ?_) <;> conv => whnf)
    refine hn.call ?_
    conv => whnf
    refine hm.call ?_
    conv => whnf
    repeat' first
      | (refine Case.not ?_; conv => whnf)
      | (refine Case.yes ?_; conv => whnf)
      | (refine Case.no ?_; conv => whnf)
      | (refine Case.isTrue (by assumption) ?_; conv => whnf)
      | (refine Case.isFalse (by assumption) ?_; conv => whnf)
      | (refine Case.decT (by assumption) ?_; conv => whnf)
      | (refine Case.decF (by assumption) ?_; conv => whnf)
      | (refine Case.decT (by omega) ?_; conv => whnf)
      | (refine Case.decF (by omega) ?_; conv => whnf)
      | (refine Case.beqT (by omega) ?_; conv => whnf)
      | (refine Case.beqF (by omega) ?_; conv => whnf)
      | (refine Case.strT (by assumption) ?_; conv => whnf)
      | (refine Case.strF (by assumption) ?_; conv => whnf)
      | (refine Case.strF (by simp only [*]; decide) ?_; conv => whnf)
      | (refine Case.strT rfl ?_; conv => whnf)
      | (refine Owes.mk sels_row ?_; conv => whnf)
      | (refine Owes.mk parts_row ?_; conv => whnf)
      | (refine Elem.mk 0 _ rfl rfl ?_; conv => whnf)
      | (refine Elem.mk 1 _ rfl rfl ?_; conv => whnf)
      | (refine Case.isTrue (by decide) ?_; conv => whnf)
      | (refine Case.isFalse (by decide) ?_; conv => whnf)
      | (refine step_kinds 2 ?hk ?_; (case hk => decide +kernel); conv => whnf)
      | (refine step_kinds 3 ?hk ?_; (case hk => decide +kernel); conv => whnf)
      | (refine Num.id (by omega) (by omega) ?_; conv => whnf)
      | (refine Case.strI (fun _ => ?_) (fun _ => ?_) <;> conv => whnf)
      | (refine Both.mk ?_ ?_ <;> conv => whnf)
      | (refine Case.dec (fun _ => ?_) (fun _ => ?_) <;> conv => whnf)
      | (refine Case.beqI (fun _ => ?_) (fun _ => ?_) <;> conv => whnf)
      | (refine Case.mk (fun _ => ?_) (fun _ => ?_) <;> conv => whnf)
    exact Fin.isB rfl
  ·
    have z1 : ((⟨#[97]⟩ ++ ⟨#[32]⟩ ++ ⟨#[47, 42, 42, 47, 32, 10]⟩ : ByteArray) ++ ⟨#[46, 98]⟩ : ByteArray).size < 1000000 := by decide +kernel
    have z2 : ((⟨#[97]⟩ ++ ⟨#[32]⟩ ++ ⟨#[47, 42, 42, 47, 32, 10]⟩ : ByteArray) ++ ⟨#[62]⟩ : ByteArray).size < 1000000 := by decide +kernel
    have ho := of_spec _ z1
    have hn := of_spec _ z2
    have hp := parse_spec (ofT_fit _ z1)
    have hm := parse_spec (ofT_fit _ z2)
    have e1 : sParse (ofT ((⟨#[97]⟩ ++ ⟨#[32]⟩ ++ ⟨#[47, 42, 42, 47, 32, 10]⟩ : ByteArray) ++ ⟨#[46, 98]⟩)) = (combS 1, true) := by kernel_rfl
    have e2 : (sParse (ofT ((⟨#[97]⟩ ++ ⟨#[32]⟩ ++ ⟨#[47, 42, 42, 47, 32, 10]⟩ : ByteArray) ++ ⟨#[62]⟩))).2 = false := by kernel_rfl
    rw [e1] at hp
    rw [e2] at hm
    clear e1 e2 z1 z2
    conv => whnf
    repeat' first
      | (refine Case.not ?_; conv => whnf)
      | (refine Case.yes ?_; conv => whnf)
      | (refine Case.no ?_; conv => whnf)
      | (refine Case.isTrue (by assumption) ?_; conv => whnf)
      | (refine Case.isFalse (by assumption) ?_; conv => whnf)
      | (refine Case.decT (by assumption) ?_; conv => whnf)
      | (refine Case.decF (by assumption) ?_; conv => whnf)
      | (refine Case.decT (by omega) ?_; conv => whnf)
      | (refine Case.decF (by omega) ?_; conv => whnf)
      | (refine Case.beqT (by omega) ?_; conv => whnf)
      | (refine Case.beqF (by omega) ?_; conv => whnf)
      | (refine Case.strT (by assumption) ?_; conv => whnf)
      | (refine Case.strF (by assumption) ?_; conv => whnf)
      | (refine Case.strF (by simp only [*]; decide) ?_; conv => whnf)
      | (refine alive_spec.call rfl ?_; conv => whnf)
      | (refine Owes.mk rfl ?_; conv => whnf)
      | (refine Owes.mk (by decide +kernel) ?_; conv => whnf)
      | (refine Elem.mk 0 _ rfl rfl ?_; conv => whnf)
      | (refine Elem.mk 1 _ rfl rfl ?_; conv => whnf)
      | (refine Elem.mk 2 _ rfl rfl ?_; conv => whnf)
      | (refine Elem.mk 3 _ rfl rfl ?_; conv => whnf)
      | (refine step_kinds 2 ?hk ?_; (case hk => decide +kernel); conv => whnf)
      | (refine step_kinds 3 ?hk ?_; (case hk => decide +kernel); conv => whnf)
      | (refine Num.id (by omega) (by omega) ?_; conv => whnf)
      | (refine Case.strI (fun _ => ?_) (fun _ => ?_) <;> conv => whnf)
      | (refine Both.mk ?_ ?_ <;> conv => whnf)
      | (refine Case.dec (fun _ => ?_) (fun _ => ?_) <;> conv => whnf)
      | (refine Case.beqI (fun _ => ?_) (fun _ => ?_) <;> conv => whnf)
      | (refine Case.mk (fun _ => ?_) (fun _ => ?_) <;> conv => whnf)
    refine ho.call ?_
    conv => whnf
    refine hp.call ?_
    conv => whnf
    repeat' first
      | (refine Case.not ?_; conv => whnf)
      | (refine Case.yes ?_; conv => whnf)
      | (refine Case.no ?_; conv => whnf)
      | (refine Case.isTrue (by assumption) ?_; conv => whnf)
      | (refine Case.isFalse (by assumption) ?_; conv => whnf)
      | (refine Case.decT (by assumption) ?_; conv => whnf)
      | (refine Case.decF (by assumption) ?_; conv => whnf)
      | (refine Case.decT (by omega) ?_; conv => whnf)
      | (refine Case.decF (by omega) ?_; conv => whnf)
      | (refine Case.beqT (by omega) ?_; conv => whnf)
      | (refine Case.beqF (by omega) ?_; conv => whnf)
      | (refine Case.strT (by assumption) ?_; conv => whnf)
      | (refine Case.strF (by assumption) ?_; conv => whnf)
      | (refine Case.strF (by simp only [*]; decide) ?_; conv => whnf)
      | (refine Owes.mk (by decide +kernel) ?_; conv => whnf)
      | (refine step_kinds 2 ?hk ?_; (case hk => decide +kernel); conv => whnf)
      | (refine step_kinds 3 ?hk ?_; (case hk => decide +kernel); conv => whnf)
      | (refine Num.id (by omega) (by omega) ?_; conv => whnf)
      | (refine Case.strI (fun _ => ?_) (fun _ => ?_) <;> conv => whnf)
      | (refine Both.mk ?_ ?_ <;> conv => whnf)
      | (refine Case.dec (fun _ => ?_) (fun _ => ?_) <;> conv => whnf)
      | (refine Case.beqI (fun _ => ?_) (fun _ => ?_) <;> conv => whnf)
      | (refine Case.mk (fun _ => ?_) (fun _ => ?_) <;> conv => whnf)
    refine hn.call ?_
    conv => whnf
    refine hm.call ?_
    conv => whnf
    repeat' first
      | (refine Case.not ?_; conv => whnf)
      | (refine Case.yes ?_; conv => whnf)
      | (refine Case.no ?_; conv => whnf)
      | (refine Case.isTrue (by assumption) ?_; conv => whnf)
      | (refine Case.isFalse (by assumption) ?_; conv => whnf)
      | (refine Case.decT (by assumption) ?_; conv => whnf)
      | (refine Case.decF (by assumption) ?_; conv => whnf)
      | (refine Case.decT (by omega) ?_; conv => whnf)
      | (refine Case.decF (by omega) ?_; conv => whnf)
      | (refine Case.beqT (by omega) ?_; conv => whnf)
      | (refine Case.beqF (by omega) ?_; conv => whnf)
      | (refine Case.strT (by assumption) ?_; conv => whnf)
      | (refine Case.strF (by assumption) ?_; conv => whnf)
      | (refine Case.strF (by simp only [*]; decide) ?_; conv => whnf)
      | (refine Case.strT rfl ?_; conv => whnf)
      | (refine Owes.mk sels_row ?_; conv => whnf)
      | (refine Owes.mk parts_row ?_; conv => whnf)
      | (refine Elem.mk 0 _ rfl rfl ?_; conv => whnf)
      | (refine Elem.mk 1 _ rfl rfl ?_; conv => whnf)
      | (refine Case.isTrue (by decide) ?_; conv => whnf)
      | (refine Case.isFalse (by decide) ?_; conv => whnf)
      | (refine step_kinds 2 ?hk ?_; (case hk => decide +kernel); conv => whnf)
      | (refine step_kinds 3 ?hk ?_; (case hk => decide +kernel); conv => whnf)
      | (refine Num.id (by omega) (by omega) ?_; conv => whnf)
      | (refine Case.strI (fun _ => ?_) (fun _ => ?_) <;> conv => whnf)
      | (refine Both.mk ?_ ?_ <;> conv => whnf)
      | (refine Case.dec (fun _ => ?_) (fun _ => ?_) <;> conv => whnf)
      | (refine Case.beqI (fun _ => ?_) (fun _ => ?_) <;> conv => whnf)
      | (refine Case.mk (fun _ => ?_) (fun _ => ?_) <;> conv => whnf)
    exact Fin.isB rfl
  ·
    have z1 : ((⟨#[97]⟩ ++ ⟨#[32, 9]⟩ ++ ⟨#[32]⟩ : ByteArray) ++ ⟨#[46, 98]⟩ : ByteArray).size < 1000000 := by decide +kernel
    have z2 : ((⟨#[97]⟩ ++ ⟨#[32, 9]⟩ ++ ⟨#[32]⟩ : ByteArray) ++ ⟨#[62]⟩ : ByteArray).size < 1000000 := by decide +kernel
    have ho := of_spec _ z1
    have hn := of_spec _ z2
    have hp := parse_spec (ofT_fit _ z1)
    have hm := parse_spec (ofT_fit _ z2)
    have e1 : sParse (ofT ((⟨#[97]⟩ ++ ⟨#[32, 9]⟩ ++ ⟨#[32]⟩ : ByteArray) ++ ⟨#[46, 98]⟩)) = (combS 1, true) := by kernel_rfl
    have e2 : (sParse (ofT ((⟨#[97]⟩ ++ ⟨#[32, 9]⟩ ++ ⟨#[32]⟩ : ByteArray) ++ ⟨#[62]⟩))).2 = false := by kernel_rfl
    rw [e1] at hp
    rw [e2] at hm
    clear e1 e2 z1 z2
    conv => whnf
    repeat' first
      | (refine Case.not ?_; conv => whnf)
      | (refine Case.yes ?_; conv => whnf)
      | (refine Case.no ?_; conv => whnf)
      | (refine Case.isTrue (by assumption) ?_; conv => whnf)
      | (refine Case.isFalse (by assumption) ?_; conv => whnf)
      | (refine Case.decT (by assumption) ?_; conv => whnf)
      | (refine Case.decF (by assumption) ?_; conv => whnf)
      | (refine Case.decT (by omega) ?_; conv => whnf)
      | (refine Case.decF (by omega) ?_; conv => whnf)
      | (refine Case.beqT (by omega) ?_; conv => whnf)
      | (refine Case.beqF (by omega) ?_; conv => whnf)
      | (refine Case.strT (by assumption) ?_; conv => whnf)
      | (refine Case.strF (by assumption) ?_; conv => whnf)
      | (refine Case.strF (by simp only [*]; decide) ?_; conv => whnf)
      | (refine alive_spec.call rfl ?_; conv => whnf)
      | (refine Owes.mk rfl ?_; conv => whnf)
      | (refine Owes.mk (by decide +kernel) ?_; conv => whnf)
      | (refine Elem.mk 0 _ rfl rfl ?_; conv => whnf)
      | (refine Elem.mk 1 _ rfl rfl ?_; conv => whnf)
      | (refine Elem.mk 2 _ rfl rfl ?_; conv => whnf)
      | (refine Elem.mk 3 _ rfl rfl ?_; conv => whnf)
      | (refine step_kinds 2 ?hk ?_; (case hk => decide +kernel); conv => whnf)
      | (refine step_kinds 3 ?hk ?_; (case hk => decide +kernel); conv => whnf)
      | (refine Num.id (by omega) (by omega) ?_; conv => whnf)
      | (refine Case.strI (fun _ => ?_) (fun _ => ?_) <;> conv => whnf)
      | (refine Both.mk ?_ ?_ <;> conv => whnf)
      | (refine Case.dec (fun _ => ?_) (fun _ => ?_) <;> conv => whnf)
      | (refine Case.beqI (fun _ => ?_) (fun _ => ?_) <;> conv => whnf)
      | (refine Case.mk (fun _ => ?_) (fun _ => ?_) <;> conv => whnf)
    refine ho.call ?_
    conv => whnf
    refine hp.call ?_
    conv => whnf
    repeat' first
      | (refine Case.not ?_; conv => whnf)
      | (refine Case.yes ?_; conv => whnf)
      | (refine Case.no ?_; conv => whnf)
      | (refine Case.isTrue (by assumption) ?_; conv => whnf)
      | (refine Case.isFalse (by assumption) ?_; conv => whnf)
      | (refine Case.decT (by assumption) ?_; conv => whnf)
      | (refine Case.decF (by assumption) ?_; conv => whnf)
      | (refine Case.decT (by omega) ?_; conv => whnf)
      | (refine Case.decF (by omega) ?_; conv => whnf)
      | (refine Case.beqT (by omega) ?_; conv => whnf)
      | (refine Case.beqF (by omega) ?_; conv => whnf)
      | (refine Case.strT (by assumption) ?_; conv => whnf)
      | (refine Case.strF (by assumption) ?_; conv => whnf)
      | (refine Case.strF (by simp only [*]; decide) ?_; conv => whnf)
      | (refine Owes.mk (by decide +kernel) ?_; conv => whnf)
      | (refine step_kinds 2 ?hk ?_; (case hk => decide +kernel); conv => whnf)
      | (refine step_kinds 3 ?hk ?_; (case hk => decide +kernel); conv => whnf)
      | (refine Num.id (by omega) (by omega) ?_; conv => whnf)
      | (refine Case.strI (fun _ => ?_) (fun _ => ?_) <;> conv => whnf)
      | (refine Both.mk ?_ ?_ <;> conv => whnf)
      | (refine Case.dec (fun _ => ?_) (fun _ => ?_) <;> conv => whnf)
      | (refine Case.beqI (fun _ => ?_) (fun _ => ?_) <;> conv => whnf)
      | (refine Case.mk (fun _ => ?_) (fun _ => ?_) <;> conv => whnf)
    refine hn.call ?_
    conv => whnf
    refine hm.call ?_
    conv => whnf
    repeat' first
      | (refine Case.not ?_; conv => whnf)
      | (refine Case.yes ?_; conv => whnf)
      | (refine Case.no ?_; conv => whnf)
      | (refine Case.isTrue (by assumption) ?_; conv => whnf)
      | (refine Case.isFalse (by assumption) ?_; conv => whnf)
      | (refine Case.decT (by assumption) ?_; conv => whnf)
      | (refine Case.decF (by assumption) ?_; conv => whnf)
      | (refine Case.decT (by omega) ?_; conv => whnf)
      | (refine Case.decF (by omega) ?_; conv => whnf)
      | (refine Case.beqT (by omega) ?_; conv => whnf)
      | (refine Case.beqF (by omega) ?_; conv => whnf)
      | (refine Case.strT (by assumption) ?_; conv => whnf)
      | (refine Case.strF (by assumption) ?_; conv => whnf)
      | (refine Case.strF (by simp only [*]; decide) ?_; conv => whnf)
      | (refine Case.strT rfl ?_; conv => whnf)
      | (refine Owes.mk sels_row ?_; conv => whnf)
      | (refine Owes.mk parts_row ?_; conv => whnf)
      | (refine Elem.mk 0 _ rfl rfl ?_; conv => whnf)
      | (refine Elem.mk 1 _ rfl rfl ?_; conv => whnf)
      | (refine Case.isTrue (by decide) ?_; conv => whnf)
      | (refine Case.isFalse (by decide) ?_; conv => whnf)
      | (refine step_kinds 2 ?hk ?_; (case hk => decide +kernel); conv => whnf)
      | (refine step_kinds 3 ?hk ?_; (case hk => decide +kernel); conv => whnf)
      | (refine Num.id (by omega) (by omega) ?_; conv => whnf)
      | (refine Case.strI (fun _ => ?_) (fun _ => ?_) <;> conv => whnf)
      | (refine Both.mk ?_ ?_ <;> conv => whnf)
      | (refine Case.dec (fun _ => ?_) (fun _ => ?_) <;> conv => whnf)
      | (refine Case.beqI (fun _ => ?_) (fun _ => ?_) <;> conv => whnf)
      | (refine Case.mk (fun _ => ?_) (fun _ => ?_) <;> conv => whnf)
    exact Fin.isB rfl
  ·
    have z1 : ((⟨#[97]⟩ ++ ⟨#[32, 9]⟩ ++ ⟨#[32]⟩ ++ ⟨#[47, 42, 42, 47, 32, 10]⟩ : ByteArray) ++ ⟨#[46, 98]⟩ : ByteArray).size < 1000000 := by decide +kernel
    have z2 : ((⟨#[97]⟩ ++ ⟨#[32, 9]⟩ ++ ⟨#[32]⟩ ++ ⟨#[47, 42, 42, 47, 32, 10]⟩ : ByteArray) ++ ⟨#[62]⟩ : ByteArray).size < 1000000 := by decide +kernel
    have ho := of_spec _ z1
    have hn := of_spec _ z2
    have hp := parse_spec (ofT_fit _ z1)
    have hm := parse_spec (ofT_fit _ z2)
    have e1 : sParse (ofT ((⟨#[97]⟩ ++ ⟨#[32, 9]⟩ ++ ⟨#[32]⟩ ++ ⟨#[47, 42, 42, 47, 32, 10]⟩ : ByteArray) ++ ⟨#[46, 98]⟩)) = (combS 1, true) := by kernel_rfl
    have e2 : (sParse (ofT ((⟨#[97]⟩ ++ ⟨#[32, 9]⟩ ++ ⟨#[32]⟩ ++ ⟨#[47, 42, 42, 47, 32, 10]⟩ : ByteArray) ++ ⟨#[62]⟩))).2 = false := by kernel_rfl
    rw [e1] at hp
    rw [e2] at hm
    clear e1 e2 z1 z2
    conv => whnf
    repeat' first
      | (refine Case.not ?_; conv => whnf)
      | (refine Case.yes ?_; conv => whnf)
      | (refine Case.no ?_; conv => whnf)
      | (refine Case.isTrue (by assumption) ?_; conv => whnf)
      | (refine Case.isFalse (by assumption) ?_; conv => whnf)
      | (refine Case.decT (by assumption) ?_; conv => whnf)
      | (refine Case.decF (by assumption) ?_; conv => whnf)
      | (refine Case.decT (by omega) ?_; conv => whnf)
      | (refine Case.decF (by omega) ?_; conv => whnf)
      | (refine Case.beqT (by omega) ?_; conv => whnf)
      | (refine Case.beqF (by omega) ?_; conv => whnf)
      | (refine Case.strT (by assumption) ?_; conv => whnf)
      | (refine Case.strF (by assumption) ?_; conv => whnf)
      | (refine Case.strF (by simp only [*]; decide) ?_; conv => whnf)
      | (refine alive_spec.call rfl ?_; conv => whnf)
      | (refine Owes.mk rfl ?_; conv => whnf)
      | (refine Owes.mk (by decide +kernel) ?_; conv => whnf)
      | (refine Elem.mk 0 _ rfl rfl ?_; conv => whnf)
      | (refine Elem.mk 1 _ rfl rfl ?_; conv => whnf)
      | (refine Elem.mk 2 _ rfl rfl ?_; conv => whnf)
      | (refine Elem.mk 3 _ rfl rfl ?_; conv => whnf)
      | (refine step_kinds 2 ?hk ?_; (case hk => decide +kernel); conv => whnf)
      | (refine step_kinds 3 ?hk ?_; (case hk => decide +kernel); conv => whnf)
      | (refine Num.id (by omega) (by omega) ?_; conv => whnf)
      | (refine Case.strI (fun _ => ?_) (fun _ => ?_) <;> conv => whnf)
      | (refine Both.mk ?_ ?_ <;> conv => whnf)
      | (refine Case.dec (fun _ => ?_) (fun _ => ?_) <;> conv => whnf)
      | (refine Case.beqI (fun _ => ?_) (fun _ => ?_) <;> conv => whnf)
      | (refine Case.mk (fun _ => ?_) (fun _ => ?_) <;> conv => whnf)
    refine ho.call ?_
    conv => whnf
    refine hp.call ?_
    conv => whnf
    repeat' first
      | (refine Case.not ?_; conv => whnf)
      | (refine Case.yes ?_; conv => whnf)
      | (refine Case.no ?_; conv => whnf)
      | (refine Case.isTrue (by assumption) ?_; conv => whnf)
      | (refine Case.isFalse (by assumption) ?_; conv => whnf)
      | (refine Case.decT (by assumption) ?_; conv => whnf)
      | (refine Case.decF (by assumption) ?_; conv => whnf)
      | (refine Case.decT (by omega) ?_; conv => whnf)
      | (refine Case.decF (by omega) ?_; conv => whnf)
      | (refine Case.beqT (by omega) ?_; conv => whnf)
      | (refine Case.beqF (by omega) ?_; conv => whnf)
      | (refine Case.strT (by assumption) ?_; conv => whnf)
      | (refine Case.strF (by assumption) ?_; conv => whnf)
      | (refine Case.strF (by simp only [*]; decide) ?_; conv => whnf)
      | (refine Owes.mk (by decide +kernel) ?_; conv => whnf)
      | (refine step_kinds 2 ?hk ?_; (case hk => decide +kernel); conv => whnf)
      | (refine step_kinds 3 ?hk ?_; (case hk => decide +kernel); conv => whnf)
      | (refine Num.id (by omega) (by omega) ?_; conv => whnf)
      | (refine Case.strI (fun _ => ?_) (fun _ => ?_) <;> conv => whnf)
      | (refine Both.mk ?_ ?_ <;> conv => whnf)
      | (refine Case.dec (fun _ => ?_) (fun _ => ?_) <;> conv => whnf)
      | (refine Case.beqI (fun _ => ?_) (fun _ => ?_) <;> conv => whnf)
      | (refine Case.mk (fun _ => ?_) (fun _ => ?_) <;> conv => whnf)
    refine hn.call ?_
    conv => whnf
    refine hm.call ?_
    conv => whnf
    repeat' first
      | (refine Case.not ?_; conv => whnf)
      | (refine Case.yes ?_; conv => whnf)
      | (refine Case.no ?_; conv => whnf)
      | (refine Case.isTrue (by assumption) ?_; conv => whnf)
      | (refine Case.isFalse (by assumption) ?_; conv => whnf)
      | (refine Case.decT (by assumption) ?_; conv => whnf)
      | (refine Case.decF (by assumption) ?_; conv => whnf)
      | (refine Case.decT (by omega) ?_; conv => whnf)
      | (refine Case.decF (by omega) ?_; conv => whnf)
      | (refine Case.beqT (by omega) ?_; conv => whnf)
      | (refine Case.beqF (by omega) ?_; conv => whnf)
      | (refine Case.strT (by assumption) ?_; conv => whnf)
      | (refine Case.strF (by assumption) ?_; conv => whnf)
      | (refine Case.strF (by simp only [*]; decide) ?_; conv => whnf)
      | (refine Case.strT rfl ?_; conv => whnf)
      | (refine Owes.mk sels_row ?_; conv => whnf)
      | (refine Owes.mk parts_row ?_; conv => whnf)
      | (refine Elem.mk 0 _ rfl rfl ?_; conv => whnf)
      | (refine Elem.mk 1 _ rfl rfl ?_; conv => whnf)
      | (refine Case.isTrue (by decide) ?_; conv => whnf)
      | (refine Case.isFalse (by decide) ?_; conv => whnf)
      | (refine step_kinds 2 ?hk ?_; (case hk => decide +kernel); conv => whnf)
      | (refine step_kinds 3 ?hk ?_; (case hk => decide +kernel); conv => whnf)
      | (refine Num.id (by omega) (by omega) ?_; conv => whnf)
      | (refine Case.strI (fun _ => ?_) (fun _ => ?_) <;> conv => whnf)
      | (refine Both.mk ?_ ?_ <;> conv => whnf)
      | (refine Case.dec (fun _ => ?_) (fun _ => ?_) <;> conv => whnf)
      | (refine Case.beqI (fun _ => ?_) (fun _ => ?_) <;> conv => whnf)
      | (refine Case.mk (fun _ => ?_) (fun _ => ?_) <;> conv => whnf)
    exact Fin.isB rfl
  ·
    have z1 : ((⟨#[97]⟩ ++ ⟨#[62]⟩ : ByteArray) ++ ⟨#[46, 98]⟩ : ByteArray).size < 1000000 := by decide +kernel
    have z2 : ((⟨#[97]⟩ ++ ⟨#[62]⟩ : ByteArray) ++ ⟨#[62]⟩ : ByteArray).size < 1000000 := by decide +kernel
    have ho := of_spec _ z1
    have hn := of_spec _ z2
    have hp := parse_spec (ofT_fit _ z1)
    have hm := parse_spec (ofT_fit _ z2)
    have e1 : sParse (ofT ((⟨#[97]⟩ ++ ⟨#[62]⟩ : ByteArray) ++ ⟨#[46, 98]⟩)) = (combS 2, true) := by kernel_rfl
    have e2 : (sParse (ofT ((⟨#[97]⟩ ++ ⟨#[62]⟩ : ByteArray) ++ ⟨#[62]⟩))).2 = false := by kernel_rfl
    rw [e1] at hp
    rw [e2] at hm
    clear e1 e2 z1 z2
    conv => whnf
    repeat' first
      | (refine Case.not ?_; conv => whnf)
      | (refine Case.yes ?_; conv => whnf)
      | (refine Case.no ?_; conv => whnf)
      | (refine Case.isTrue (by assumption) ?_; conv => whnf)
      | (refine Case.isFalse (by assumption) ?_; conv => whnf)
      | (refine Case.decT (by assumption) ?_; conv => whnf)
      | (refine Case.decF (by assumption) ?_; conv => whnf)
      | (refine Case.decT (by omega) ?_; conv => whnf)
      | (refine Case.decF (by omega) ?_; conv => whnf)
      | (refine Case.beqT (by omega) ?_; conv => whnf)
      | (refine Case.beqF (by omega) ?_; conv => whnf)
      | (refine Case.strT (by assumption) ?_; conv => whnf)
      | (refine Case.strF (by assumption) ?_; conv => whnf)
      | (refine Case.strF (by simp only [*]; decide) ?_; conv => whnf)
      | (refine alive_spec.call rfl ?_; conv => whnf)
      | (refine Owes.mk rfl ?_; conv => whnf)
      | (refine Owes.mk (by decide +kernel) ?_; conv => whnf)
      | (refine Elem.mk 0 _ rfl rfl ?_; conv => whnf)
      | (refine Elem.mk 1 _ rfl rfl ?_; conv => whnf)
      | (refine Elem.mk 2 _ rfl rfl ?_; conv => whnf)
      | (refine Elem.mk 3 _ rfl rfl ?_; conv => whnf)
      | (refine step_kinds 2 ?hk ?_; (case hk => decide +kernel); conv => whnf)
      | (refine step_kinds 3 ?hk ?_; (case hk => decide +kernel); conv => whnf)
      | (refine Num.id (by omega) (by omega) ?_; conv => whnf)
      | (refine Case.strI (fun _ => ?_) (fun _ => ?_) <;> conv => whnf)
      | (refine Both.mk ?_ ?_ <;> conv => whnf)
      | (refine Case.dec (fun _ => ?_) (fun _ => ?_) <;> conv => whnf)
      | (refine Case.beqI (fun _ => ?_) (fun _ => ?_) <;> conv => whnf)
      | (refine Case.mk (fun _ => ?_) (fun _ => ?_) <;> conv => whnf)
    refine ho.call ?_
    conv => whnf
    refine hp.call ?_
    conv => whnf
    repeat' first
      | (refine Case.not ?_; conv => whnf)
      | (refine Case.yes ?_; conv => whnf)
      | (refine Case.no ?_; conv => whnf)
      | (refine Case.isTrue (by assumption) ?_; conv => whnf)
      | (refine Case.isFalse (by assumption) ?_; conv => whnf)
      | (refine Case.decT (by assumption) ?_; conv => whnf)
      | (refine Case.decF (by assumption) ?_; conv => whnf)
      | (refine Case.decT (by omega) ?_; conv => whnf)
      | (refine Case.decF (by omega) ?_; conv => whnf)
      | (refine Case.beqT (by omega) ?_; conv => whnf)
      | (refine Case.beqF (by omega) ?_; conv => whnf)
      | (refine Case.strT (by assumption) ?_; conv => whnf)
      | (refine Case.strF (by assumption) ?_; conv => whnf)
      | (refine Case.strF (by simp only [*]; decide) ?_; conv => whnf)
      | (refine Owes.mk (by decide +kernel) ?_; conv => whnf)
      | (refine step_kinds 2 ?hk ?_; (case hk => decide +kernel); conv => whnf)
      | (refine step_kinds 3 ?hk ?_; (case hk => decide +kernel); conv => whnf)
      | (refine Num.id (by omega) (by omega) ?_; conv => whnf)
      | (refine Case.strI (fun _ => ?_) (fun _ => ?_) <;> conv => whnf)
      | (refine Both.mk ?_ ?_ <;> conv => whnf)
      | (refine Case.dec (fun _ => ?_) (fun _ => ?_) <;> conv => whnf)
      | (refine Case.beqI (fun _ => ?_) (fun _ => ?_) <;> conv => whnf)
      | (refine Case.mk (fun _ => ?_) (fun _ => ?_) <;> conv => whnf)
    refine hn.call ?_
    conv => whnf
    refine hm.call ?_
    conv => whnf
    repeat' first
      | (refine Case.not ?_; conv => whnf)
      | (refine Case.yes ?_; conv => whnf)
      | (refine Case.no ?_; conv => whnf)
      | (refine Case.isTrue (by assumption) ?_; conv => whnf)
      | (refine Case.isFalse (by assumption) ?_; conv => whnf)
      | (refine Case.decT (by assumption) ?_; conv => whnf)
      | (refine Case.decF (by assumption) ?_; conv => whnf)
      | (refine Case.decT (by omega) ?_; conv => whnf)
      | (refine Case.decF (by omega) ?_; conv => whnf)
      | (refine Case.beqT (by omega) ?_; conv => whnf)
      | (refine Case.beqF (by omega) ?_; conv => whnf)
      | (refine Case.strT (by assumption) ?_; conv => whnf)
      | (refine Case.strF (by assumption) ?_; conv => whnf)
      | (refine Case.strF (by simp only [*]; decide) ?_; conv => whnf)
      | (refine Case.strT rfl ?_; conv => whnf)
      | (refine Owes.mk sels_row ?_; conv => whnf)
      | (refine Owes.mk parts_row ?_; conv => whnf)
      | (refine Elem.mk 0 _ rfl rfl ?_; conv => whnf)
      | (refine Elem.mk 1 _ rfl rfl ?_; conv => whnf)
      | (refine Case.isTrue (by decide) ?_; conv => whnf)
      | (refine Case.isFalse (by decide) ?_; conv => whnf)
      | (refine step_kinds 2 ?hk ?_; (case hk => decide +kernel); conv => whnf)
      | (refine step_kinds 3 ?hk ?_; (case hk => decide +kernel); conv => whnf)
      | (refine Num.id (by omega) (by omega) ?_; conv => whnf)
      | (refine Case.strI (fun _ => ?_) (fun _ => ?_) <;> conv => whnf)
      | (refine Both.mk ?_ ?_ <;> conv => whnf)
      | (refine Case.dec (fun _ => ?_) (fun _ => ?_) <;> conv => whnf)
      | (refine Case.beqI (fun _ => ?_) (fun _ => ?_) <;> conv => whnf)
      | (refine Case.mk (fun _ => ?_) (fun _ => ?_) <;> conv => whnf)
    exact Fin.isB rfl
  ·
    have z1 : ((⟨#[97]⟩ ++ ⟨#[62]⟩ ++ ⟨#[47, 42, 42, 47, 32, 10]⟩ : ByteArray) ++ ⟨#[46, 98]⟩ : ByteArray).size < 1000000 := by decide +kernel
    have z2 : ((⟨#[97]⟩ ++ ⟨#[62]⟩ ++ ⟨#[47, 42, 42, 47, 32, 10]⟩ : ByteArray) ++ ⟨#[62]⟩ : ByteArray).size < 1000000 := by decide +kernel
    have ho := of_spec _ z1
    have hn := of_spec _ z2
    have hp := parse_spec (ofT_fit _ z1)
    have hm := parse_spec (ofT_fit _ z2)
    have e1 : sParse (ofT ((⟨#[97]⟩ ++ ⟨#[62]⟩ ++ ⟨#[47, 42, 42, 47, 32, 10]⟩ : ByteArray) ++ ⟨#[46, 98]⟩)) = (combS 2, true) := by kernel_rfl
    have e2 : (sParse (ofT ((⟨#[97]⟩ ++ ⟨#[62]⟩ ++ ⟨#[47, 42, 42, 47, 32, 10]⟩ : ByteArray) ++ ⟨#[62]⟩))).2 = false := by kernel_rfl
    rw [e1] at hp
    rw [e2] at hm
    clear e1 e2 z1 z2
    conv => whnf
    repeat' first
      | (refine Case.not ?_; conv => whnf)
      | (refine Case.yes ?_; conv => whnf)
      | (refine Case.no ?_; conv => whnf)
      | (refine Case.isTrue (by assumption) ?_; conv => whnf)
      | (refine Case.isFalse (by assumption) ?_; conv => whnf)
      | (refine Case.decT (by assumption) ?_; conv => whnf)
      | (refine Case.decF (by assumption) ?_; conv => whnf)
      | (refine Case.decT (by omega) ?_; conv => whnf)
      | (refine Case.decF (by omega) ?_; conv => whnf)
      | (refine Case.beqT (by omega) ?_; conv => whnf)
      | (refine Case.beqF (by omega) ?_; conv => whnf)
      | (refine Case.strT (by assumption) ?_; conv => whnf)
      | (refine Case.strF (by assumption) ?_; conv => whnf)
      | (refine Case.strF (by simp only [*]; decide) ?_; conv => whnf)
      | (refine alive_spec.call rfl ?_; conv => whnf)
      | (refine Owes.mk rfl ?_; conv => whnf)
      | (refine Owes.mk (by decide +kernel) ?_; conv => whnf)
      | (refine Elem.mk 0 _ rfl rfl ?_; conv => whnf)
      | (refine Elem.mk 1 _ rfl rfl ?_; conv => whnf)
      | (refine Elem.mk 2 _ rfl rfl ?_; conv => whnf)
      | (refine Elem.mk 3 _ rfl rfl ?_; conv => whnf)
      | (refine step_kinds 2 ?hk ?_; (case hk => decide +kernel); conv => whnf)
      | (refine step_kinds 3 ?hk ?_; (case hk => decide +kernel); conv => whnf)
      | (refine Num.id (by omega) (by omega) ?_; conv => whnf)
      | (refine Case.strI (fun _ => ?_) (fun _ => ?_) <;> conv => whnf)
      | (refine Both.mk ?_ ?_ <;> conv => whnf)
      | (refine Case.dec (fun _ => ?_) (fun _ => ?_) <;> conv => whnf)
      | (refine Case.beqI (fun _ => ?_) (fun _ => ?_) <;> conv => whnf)
      | (refine Case.mk (fun _ => ?_) (fun _ => ?_) <;> conv => whnf)
    refine ho.call ?_
    conv => whnf
    refine hp.call ?_
    conv => whnf
    repeat' first
      | (refine Case.not ?_; conv => whnf)
      | (refine Case.yes ?_; conv => whnf)
      | (refine Case.no ?_; conv => whnf)
      | (refine Case.isTrue (by assumption) ?_; conv => whnf)
      | (refine Case.isFalse (by assumption) ?_; conv => whnf)
      | (refine Case.decT (by assumption) ?_; conv => whnf)
      | (refine Case.decF (by assumption) ?_; conv => whnf)
      | (refine Case.decT (by omega) ?_; conv => whnf)
      | (refine Case.decF (by omega) ?_; conv => whnf)
      | (refine Case.beqT (by omega) ?_; conv => whnf)
      | (refine Case.beqF (by omega) ?_; conv => whnf)
      | (refine Case.strT (by assumption) ?_; conv => whnf)
      | (refine Case.strF (by assumption) ?_; conv => whnf)
      | (refine Case.strF (by simp only [*]; decide) ?_; conv => whnf)
      | (refine Owes.mk (by decide +kernel) ?_; conv => whnf)
      | (refine step_kinds 2 ?hk ?_; (case hk => decide +kernel); conv => whnf)
      | (refine step_kinds 3 ?hk ?_; (case hk => decide +kernel); conv => whnf)
      | (refine Num.id (by omega) (by omega) ?_; conv => whnf)
      | (refine Case.strI (fun _ => ?_) (fun _ => ?_) <;> conv => whnf)
      | (refine Both.mk ?_ ?_ <;> conv => whnf)
      | (refine Case.dec (fun _ => ?_) (fun _ => ?_) <;> conv => whnf)
      | (refine Case.beqI (fun _ => ?_) (fun _ => ?_) <;> conv => whnf)
      | (refine Case.mk (fun _ => ?_) (fun _ => ?_) <;> conv => whnf)
    refine hn.call ?_
    conv => whnf
    refine hm.call ?_
    conv => whnf
    repeat' first
      | (refine Case.not ?_; conv => whnf)
      | (refine Case.yes ?_; conv => whnf)
      | (refine Case.no ?_; conv => whnf)
      | (refine Case.isTrue (by assumption) ?_; conv => whnf)
      | (refine Case.isFalse (by assumption) ?_; conv => whnf)
      | (refine Case.decT (by assumption) ?_; conv => whnf)
      | (refine Case.decF (by assumption) ?_; conv => whnf)
      | (refine Case.decT (by omega) ?_; conv => whnf)
      | (refine Case.decF (by omega) ?_; conv => whnf)
      | (refine Case.beqT (by omega) ?_; conv => whnf)
      | (refine Case.beqF (by omega) ?_; conv => whnf)
      | (refine Case.strT (by assumption) ?_; conv => whnf)
      | (refine Case.strF (by assumption) ?_; conv => whnf)
      | (refine Case.strF (by simp only [*]; decide) ?_; conv => whnf)
      | (refine Case.strT rfl ?_; conv => whnf)
      | (refine Owes.mk sels_row ?_; conv => whnf)
      | (refine Owes.mk parts_row ?_; conv => whnf)
      | (refine Elem.mk 0 _ rfl rfl ?_; conv => whnf)
      | (refine Elem.mk 1 _ rfl rfl ?_; conv => whnf)
      | (refine Case.isTrue (by decide) ?_; conv => whnf)
      | (refine Case.isFalse (by decide) ?_; conv => whnf)
      | (refine step_kinds 2 ?hk ?_; (case hk => decide +kernel); conv => whnf)
      | (refine step_kinds 3 ?hk ?_; (case hk => decide +kernel); conv => whnf)
      | (refine Num.id (by omega) (by omega) ?_; conv => whnf)
      | (refine Case.strI (fun _ => ?_) (fun _ => ?_) <;> conv => whnf)
      | (refine Both.mk ?_ ?_ <;> conv => whnf)
      | (refine Case.dec (fun _ => ?_) (fun _ => ?_) <;> conv => whnf)
      | (refine Case.beqI (fun _ => ?_) (fun _ => ?_) <;> conv => whnf)
      | (refine Case.mk (fun _ => ?_) (fun _ => ?_) <;> conv => whnf)
    exact Fin.isB rfl
  ·
    have z1 : ((⟨#[97]⟩ ++ ⟨#[32, 9]⟩ ++ ⟨#[62]⟩ : ByteArray) ++ ⟨#[46, 98]⟩ : ByteArray).size < 1000000 := by decide +kernel
    have z2 : ((⟨#[97]⟩ ++ ⟨#[32, 9]⟩ ++ ⟨#[62]⟩ : ByteArray) ++ ⟨#[62]⟩ : ByteArray).size < 1000000 := by decide +kernel
    have ho := of_spec _ z1
    have hn := of_spec _ z2
    have hp := parse_spec (ofT_fit _ z1)
    have hm := parse_spec (ofT_fit _ z2)
    have e1 : sParse (ofT ((⟨#[97]⟩ ++ ⟨#[32, 9]⟩ ++ ⟨#[62]⟩ : ByteArray) ++ ⟨#[46, 98]⟩)) = (combS 2, true) := by kernel_rfl
    have e2 : (sParse (ofT ((⟨#[97]⟩ ++ ⟨#[32, 9]⟩ ++ ⟨#[62]⟩ : ByteArray) ++ ⟨#[62]⟩))).2 = false := by kernel_rfl
    rw [e1] at hp
    rw [e2] at hm
    clear e1 e2 z1 z2
    conv => whnf
    repeat' first
      | (refine Case.not ?_; conv => whnf)
      | (refine Case.yes ?_; conv => whnf)
      | (refine Case.no ?_; conv => whnf)
      | (refine Case.isTrue (by assumption) ?_; conv => whnf)
      | (refine Case.isFalse (by assumption) ?_; conv => whnf)
      | (refine Case.decT (by assumption) ?_; conv => whnf)
      | (refine Case.decF (by assumption) ?_; conv => whnf)
      | (refine Case.decT (by omega) ?_; conv => whnf)
      | (refine Case.decF (by omega) ?_; conv => whnf)
      | (refine Case.beqT (by omega) ?_; conv => whnf)
      | (refine Case.beqF (by omega) ?_; conv => whnf)
      | (refine Case.strT (by assumption) ?_; conv => whnf)
      | (refine Case.strF (by assumption) ?_; conv => whnf)
      | (refine Case.strF (by simp only [*]; decide) ?_; conv => whnf)
      | (refine alive_spec.call rfl ?_; conv => whnf)
      | (refine Owes.mk rfl ?_; conv => whnf)
      | (refine Owes.mk (by decide +kernel) ?_; conv => whnf)
      | (refine Elem.mk 0 _ rfl rfl ?_; conv => whnf)
      | (refine Elem.mk 1 _ rfl rfl ?_; conv => whnf)
      | (refine Elem.mk 2 _ rfl rfl ?_; conv => whnf)
      | (refine Elem.mk 3 _ rfl rfl ?_; conv => whnf)
      | (refine step_kinds 2 ?hk ?_; (case hk => decide +kernel); conv => whnf)
      | (refine step_kinds 3 ?hk ?_; (case hk => decide +kernel); conv => whnf)
      | (refine Num.id (by omega) (by omega) ?_; conv => whnf)
      | (refine Case.strI (fun _ => ?_) (fun _ => ?_) <;> conv => whnf)
      | (refine Both.mk ?_ ?_ <;> conv => whnf)
      | (refine Case.dec (fun _ => ?_) (fun _ => ?_) <;> conv => whnf)
      | (refine Case.beqI (fun _ => ?_) (fun _ => ?_) <;> conv => whnf)
      | (refine Case.mk (fun _ => ?_) (fun _ => ?_) <;> conv => whnf)
    refine ho.call ?_
    conv => whnf
    refine hp.call ?_
    conv => whnf
    repeat' first
      | (refine Case.not ?_; conv => whnf)
      | (refine Case.yes ?_; conv => whnf)
      | (refine Case.no ?_; conv => whnf)
      | (refine Case.isTrue (by assumption) ?_; conv => whnf)
      | (refine Case.isFalse (by assumption) ?_; conv => whnf)
      | (refine Case.decT (by assumption) ?_; conv => whnf)
      | (refine Case.decF (by assumption) ?_; conv => whnf)
      | (refine Case.decT (by omega) ?_; conv => whnf)
      | (refine Case.decF (by omega) ?_; conv => whnf)
      | (refine Case.beqT (by omega) ?_; conv => whnf)
      | (refine Case.beqF (by omega) ?_; conv => whnf)
      | (refine Case.strT (by assumption) ?_; conv => whnf)
      | (refine Case.strF (by assumption) ?_; conv => whnf)
      | (refine Case.strF (by simp only [*]; decide) ?_; conv => whnf)
      | (refine Owes.mk (by decide +kernel) ?_; conv => whnf)
      | (refine step_kinds 2 ?hk ?_; (case hk => decide +kernel); conv => whnf)
      | (refine step_kinds 3 ?hk ?_; (case hk => decide +kernel); conv => whnf)
      | (refine Num.id (by omega) (by omega) ?_; conv => whnf)
      | (refine Case.strI (fun _ => ?_) (fun _ => ?_) <;> conv => whnf)
      | (refine Both.mk ?_ ?_ <;> conv => whnf)
      | (refine Case.dec (fun _ => ?_) (fun _ => ?_) <;> conv => whnf)
      | (refine Case.beqI (fun _ => ?_) (fun _ => ?_) <;> conv => whnf)
      | (refine Case.mk (fun _ => ?_) (fun _ => ?_) <;> conv => whnf)
    refine hn.call ?_
    conv => whnf
    refine hm.call ?_
    conv => whnf
    repeat' first
      | (refine Case.not ?_; conv => whnf)
      | (refine Case.yes ?_; conv => whnf)
      | (refine Case.no ?_; conv => whnf)
      | (refine Case.isTrue (by assumption) ?_; conv => whnf)
      | (refine Case.isFalse (by assumption) ?_; conv => whnf)
      | (refine Case.decT (by assumption) ?_; conv => whnf)
      | (refine Case.decF (by assumption) ?_; conv => whnf)
      | (refine Case.decT (by omega) ?_; conv => whnf)
      | (refine Case.decF (by omega) ?_; conv => whnf)
      | (refine Case.beqT (by omega) ?_; conv => whnf)
      | (refine Case.beqF (by omega) ?_; conv => whnf)
      | (refine Case.strT (by assumption) ?_; conv => whnf)
      | (refine Case.strF (by assumption) ?_; conv => whnf)
      | (refine Case.strF (by simp only [*]; decide) ?_; conv => whnf)
      | (refine Case.strT rfl ?_; conv => whnf)
      | (refine Owes.mk sels_row ?_; conv => whnf)
      | (refine Owes.mk parts_row ?_; conv => whnf)
      | (refine Elem.mk 0 _ rfl rfl ?_; conv => whnf)
      | (refine Elem.mk 1 _ rfl rfl ?_; conv => whnf)
      | (refine Case.isTrue (by decide) ?_; conv => whnf)
      | (refine Case.isFalse (by decide) ?_; conv => whnf)
      | (refine step_kinds 2 ?hk ?_; (case hk => decide +kernel); conv => whnf)
      | (refine step_kinds 3 ?hk ?_; (case hk => decide +kernel); conv => whnf)
      | (refine Num.id (by omega) (by omega) ?_; conv => whnf)
      | (refine Case.strI (fun _ => ?_) (fun _ => ?_) <;> conv => whnf)
      | (refine Both.mk ?_ ?_ <;> conv => whnf)
      | (refine Case.dec (fun _ => ?_) (fun _ => ?_) <;> conv => whnf)
      | (refine Case.beqI (fun _ => ?_) (fun _ => ?_) <;> conv => whnf)
      | (refine Case.mk (fun _ => ?_) (fun _ => ?_) <;> conv => whnf)
    exact Fin.isB rfl
  ·
    have z1 : ((⟨#[97]⟩ ++ ⟨#[32, 9]⟩ ++ ⟨#[62]⟩ ++ ⟨#[47, 42, 42, 47, 32, 10]⟩ : ByteArray) ++ ⟨#[46, 98]⟩ : ByteArray).size < 1000000 := by decide +kernel
    have z2 : ((⟨#[97]⟩ ++ ⟨#[32, 9]⟩ ++ ⟨#[62]⟩ ++ ⟨#[47, 42, 42, 47, 32, 10]⟩ : ByteArray) ++ ⟨#[62]⟩ : ByteArray).size < 1000000 := by decide +kernel
    have ho := of_spec _ z1
    have hn := of_spec _ z2
    have hp := parse_spec (ofT_fit _ z1)
    have hm := parse_spec (ofT_fit _ z2)
    have e1 : sParse (ofT ((⟨#[97]⟩ ++ ⟨#[32, 9]⟩ ++ ⟨#[62]⟩ ++ ⟨#[47, 42, 42, 47, 32, 10]⟩ : ByteArray) ++ ⟨#[46, 98]⟩)) = (combS 2, true) := by kernel_rfl
    have e2 : (sParse (ofT ((⟨#[97]⟩ ++ ⟨#[32, 9]⟩ ++ ⟨#[62]⟩ ++ ⟨#[47, 42, 42, 47, 32, 10]⟩ : ByteArray) ++ ⟨#[62]⟩))).2 = false := by kernel_rfl
    rw [e1] at hp
    rw [e2] at hm
    clear e1 e2 z1 z2
    conv => whnf
    repeat' first
      | (refine Case.not ?_; conv => whnf)
      | (refine Case.yes ?_; conv => whnf)
      | (refine Case.no ?_; conv => whnf)
      | (refine Case.isTrue (by assumption) ?_; conv => whnf)
      | (refine Case.isFalse (by assumption) ?_; conv => whnf)
      | (refine Case.decT (by assumption) ?_; conv => whnf)
      | (refine Case.decF (by assumption) ?_; conv => whnf)
      | (refine Case.decT (by omega) ?_; conv => whnf)
      | (refine Case.decF (by omega) ?_; conv => whnf)
      | (refine Case.beqT (by omega) ?_; conv => whnf)
      | (refine Case.beqF (by omega) ?_; conv => whnf)
      | (refine Case.strT (by assumption) ?_; conv => whnf)
      | (refine Case.strF (by assumption) ?_; conv => whnf)
      | (refine Case.strF (by simp only [*]; decide) ?_; conv => whnf)
      | (refine alive_spec.call rfl ?_; conv => whnf)
      | (refine Owes.mk rfl ?_; conv => whnf)
      | (refine Owes.mk (by decide +kernel) ?_; conv => whnf)
      | (refine Elem.mk 0 _ rfl rfl ?_; conv => whnf)
      | (refine Elem.mk 1 _ rfl rfl ?_; conv => whnf)
      | (refine Elem.mk 2 _ rfl rfl ?_; conv => whnf)
      | (refine Elem.mk 3 _ rfl rfl ?_; conv => whnf)
      | (refine step_kinds 2 ?hk ?_; (case hk => decide +kernel); conv => whnf)
      | (refine step_kinds 3 ?hk ?_; (case hk => decide +kernel); conv => whnf)
      | (refine Num.id (by omega) (by omega) ?_; conv => whnf)
      | (refine Case.strI (fun _ => ?_) (fun _ => ?_) <;> conv => whnf)
      | (refine Both.mk ?_ ?_ <;> conv => whnf)
      | (refine Case.dec (fun _ => ?_) (fun _ => ?_) <;> conv => whnf)
      | (refine Case.beqI (fun _ => ?_) (fun _ => ?_) <;> conv => whnf)
      | (refine Case.mk (fun _ => ?_) (fun _ => ?_) <;> conv => whnf)
    refine ho.call ?_
    conv => whnf
    refine hp.call ?_
    conv => whnf
    repeat' first
      | (refine Case.not ?_; conv => whnf)
      | (refine Case.yes ?_; conv => whnf)
      | (refine Case.no ?_; conv => whnf)
      | (refine Case.isTrue (by assumption) ?_; conv => whnf)
      | (refine Case.isFalse (by assumption) ?_; conv => whnf)
      | (refine Case.decT (by assumption) ?_; conv => whnf)
      | (refine Case.decF (by assumption) ?_; conv => whnf)
      | (refine Case.decT (by omega) ?_; conv => whnf)
      | (refine Case.decF (by omega) ?_; conv => whnf)
      | (refine Case.beqT (by omega) ?_; conv => whnf)
      | (refine Case.beqF (by omega) ?_; conv => whnf)
      | (refine Case.strT (by assumption) ?_; conv => whnf)
      | (refine Case.strF (by assumption) ?_; conv => whnf)
      | (refine Case.strF (by simp only [*]; decide) ?_; conv => whnf)
      | (refine Owes.mk (by decide +kernel) ?_; conv => whnf)
      | (refine step_kinds 2 ?hk ?_; (case hk => decide +kernel); conv => whnf)
      | (refine step_kinds 3 ?hk ?_; (case hk => decide +kernel); conv => whnf)
      | (refine Num.id (by omega) (by omega) ?_; conv => whnf)
      | (refine Case.strI (fun _ => ?_) (fun _ => ?_) <;> conv => whnf)
      | (refine Both.mk ?_ ?_ <;> conv => whnf)
      | (refine Case.dec (fun _ => ?_) (fun _ => ?_) <;> conv => whnf)
      | (refine Case.beqI (fun _ => ?_) (fun _ => ?_) <;> conv => whnf)
      | (refine Case.mk (fun _ => ?_) (fun _ => ?_) <;> conv => whnf)
    refine hn.call ?_
    conv => whnf
    refine hm.call ?_
    conv => whnf
    repeat' first
      | (refine Case.not ?_; conv => whnf)
      | (refine Case.yes ?_; conv => whnf)
      | (refine Case.no ?_; conv => whnf)
      | (refine Case.isTrue (by assumption) ?_; conv => whnf)
      | (refine Case.isFalse (by assumption) ?_; conv => whnf)
      | (refine Case.decT (by assumption) ?_; conv => whnf)
      | (refine Case.decF (by assumption) ?_; conv => whnf)
      | (refine Case.decT (by omega) ?_; conv => whnf)
      | (refine Case.decF (by omega) ?_; conv => whnf)
      | (refine Case.beqT (by omega) ?_; conv => whnf)
      | (refine Case.beqF (by omega) ?_; conv => whnf)
      | (refine Case.strT (by assumption) ?_; conv => whnf)
      | (refine Case.strF (by assumption) ?_; conv => whnf)
      | (refine Case.strF (by simp only [*]; decide) ?_; conv => whnf)
      | (refine Case.strT rfl ?_; conv => whnf)
      | (refine Owes.mk sels_row ?_; conv => whnf)
      | (refine Owes.mk parts_row ?_; conv => whnf)
      | (refine Elem.mk 0 _ rfl rfl ?_; conv => whnf)
      | (refine Elem.mk 1 _ rfl rfl ?_; conv => whnf)
      | (refine Case.isTrue (by decide) ?_; conv => whnf)
      | (refine Case.isFalse (by decide) ?_; conv => whnf)
      | (refine step_kinds 2 ?hk ?_; (case hk => decide +kernel); conv => whnf)
      | (refine step_kinds 3 ?hk ?_; (case hk => decide +kernel); conv => whnf)
      | (refine Num.id (by omega) (by omega) ?_; conv => whnf)
      | (refine Case.strI (fun _ => ?_) (fun _ => ?_) <;> conv => whnf)
      | (refine Both.mk ?_ ?_ <;> conv => whnf)
      | (refine Case.dec (fun _ => ?_) (fun _ => ?_) <;> conv => whnf)
      | (refine Case.beqI (fun _ => ?_) (fun _ => ?_) <;> conv => whnf)
      | (refine Case.mk (fun _ => ?_) (fun _ => ?_) <;> conv => whnf)
    exact Fin.isB rfl
  ·
    have z1 : ((⟨#[97]⟩ ++ ⟨#[43]⟩ : ByteArray) ++ ⟨#[46, 98]⟩ : ByteArray).size < 1000000 := by decide +kernel
    have z2 : ((⟨#[97]⟩ ++ ⟨#[43]⟩ : ByteArray) ++ ⟨#[62]⟩ : ByteArray).size < 1000000 := by decide +kernel
    have ho := of_spec _ z1
    have hn := of_spec _ z2
    have hp := parse_spec (ofT_fit _ z1)
    have hm := parse_spec (ofT_fit _ z2)
    have e1 : sParse (ofT ((⟨#[97]⟩ ++ ⟨#[43]⟩ : ByteArray) ++ ⟨#[46, 98]⟩)) = (combS 3, true) := by kernel_rfl
    have e2 : (sParse (ofT ((⟨#[97]⟩ ++ ⟨#[43]⟩ : ByteArray) ++ ⟨#[62]⟩))).2 = false := by kernel_rfl
    rw [e1] at hp
    rw [e2] at hm
    clear e1 e2 z1 z2
    conv => whnf
    repeat' first
      | (refine Case.not ?_; conv => whnf)
      | (refine Case.yes ?_; conv => whnf)
      | (refine Case.no ?_; conv => whnf)
      | (refine Case.isTrue (by assumption) ?_; conv => whnf)
      | (refine Case.isFalse (by assumption) ?_; conv => whnf)
      | (refine Case.decT (by assumption) ?_; conv => whnf)
      | (refine Case.decF (by assumption) ?_; conv => whnf)
      | (refine Case.decT (by omega) ?_; conv => whnf)
      | (refine Case.decF (by omega) ?_; conv => whnf)
      | (refine Case.beqT (by omega) ?_; conv => whnf)
      | (refine Case.beqF (by omega) ?_; conv => whnf)
      | (refine Case.strT (by assumption) ?_; conv => whnf)
      | (refine Case.strF (by assumption) ?_; conv => whnf)
      | (refine Case.strF (by simp only [*]; decide) ?_; conv => whnf)
      | (refine alive_spec.call rfl ?_; conv => whnf)
      | (refine Owes.mk rfl ?_; conv => whnf)
      | (refine Owes.mk (by decide +kernel) ?_; conv => whnf)
      | (refine Elem.mk 0 _ rfl rfl ?_; conv => whnf)
      | (refine Elem.mk 1 _ rfl rfl ?_; conv => whnf)
      | (refine Elem.mk 2 _ rfl rfl ?_; conv => whnf)
      | (refine Elem.mk 3 _ rfl rfl ?_; conv => whnf)
      | (refine step_kinds 2 ?hk ?_; (case hk => decide +kernel); conv => whnf)
      | (refine step_kinds 3 ?hk ?_; (case hk => decide +kernel); conv => whnf)
      | (refine Num.id (by omega) (by omega) ?_; conv => whnf)
      | (refine Case.strI (fun _ => ?_) (fun _ => ?_) <;> conv => whnf)
      | (refine Both.mk ?_ ?_ <;> conv => whnf)
      | (refine Case.dec (fun _ => ?_) (fun _ => ?_) <;> conv => whnf)
      | (refine Case.beqI (fun _ => ?_) (fun _ => ?_) <;> conv => whnf)
      | (refine Case.mk (fun _ => ?_) (fun _ => ?_) <;> conv => whnf)
    refine ho.call ?_
    conv => whnf
    refine hp.call ?_
    conv => whnf
    repeat' first
      | (refine Case.not ?_; conv => whnf)
      | (refine Case.yes ?_; conv => whnf)
      | (refine Case.no ?_; conv => whnf)
      | (refine Case.isTrue (by assumption) ?_; conv => whnf)
      | (refine Case.isFalse (by assumption) ?_; conv => whnf)
      | (refine Case.decT (by assumption) ?_; conv => whnf)
      | (refine Case.decF (by assumption) ?_; conv => whnf)
      | (refine Case.decT (by omega) ?_; conv => whnf)
      | (refine Case.decF (by omega) ?_; conv => whnf)
      | (refine Case.beqT (by omega) ?_; conv => whnf)
      | (refine Case.beqF (by omega) ?_; conv => whnf)
      | (refine Case.strT (by assumption) ?_; conv => whnf)
      | (refine Case.strF (by assumption) ?_; conv => whnf)
      | (refine Case.strF (by simp only [*]; decide) ?_; conv => whnf)
      | (refine Owes.mk (by decide +kernel) ?_; conv => whnf)
      | (refine step_kinds 2 ?hk ?_; (case hk => decide +kernel); conv => whnf)
      | (refine step_kinds 3 ?hk ?_; (case hk => decide +kernel); conv => whnf)
      | (refine Num.id (by omega) (by omega) ?_; conv => whnf)
      | (refine Case.strI (fun _ => ?_) (fun _ => ?_) <;> conv => whnf)
      | (refine Both.mk ?_ ?_ <;> conv => whnf)
      | (refine Case.dec (fun _ => ?_) (fun _ => ?_) <;> conv => whnf)
      | (refine Case.beqI (fun _ => ?_) (fun _ => ?_) <;> conv => whnf)
      | (refine Case.mk (fun _ => ?_) (fun _ => ?_) <;> conv => whnf)
    refine hn.call ?_
    conv => whnf
    refine hm.call ?_
    conv => whnf
    repeat' first
      | (refine Case.not ?_; conv => whnf)
      | (refine Case.yes ?_; conv => whnf)
      | (refine Case.no ?_; conv => whnf)
      | (refine Case.isTrue (by assumption) ?_; conv => whnf)
      | (refine Case.isFalse (by assumption) ?_; conv => whnf)
      | (refine Case.decT (by assumption) ?_; conv => whnf)
      | (refine Case.decF (by assumption) ?_; conv => whnf)
      | (refine Case.decT (by omega) ?_; conv => whnf)
      | (refine Case.decF (by omega) ?_; conv => whnf)
      | (refine Case.beqT (by omega) ?_; conv => whnf)
      | (refine Case.beqF (by omega) ?_; conv => whnf)
      | (refine Case.strT (by assumption) ?_; conv => whnf)
      | (refine Case.strF (by assumption) ?_; conv => whnf)
      | (refine Case.strF (by simp only [*]; decide) ?_; conv => whnf)
      | (refine Case.strT rfl ?_; conv => whnf)
      | (refine Owes.mk sels_row ?_; conv => whnf)
      | (refine Owes.mk parts_row ?_; conv => whnf)
      | (refine Elem.mk 0 _ rfl rfl ?_; conv => whnf)
      | (refine Elem.mk 1 _ rfl rfl ?_; conv => whnf)
      | (refine Case.isTrue (by decide) ?_; conv => whnf)
      | (refine Case.isFalse (by decide) ?_; conv => whnf)
      | (refine step_kinds 2 ?hk ?_; (case hk => decide +kernel); conv => whnf)
      | (refine step_kinds 3 ?hk ?_; (case hk => decide +kernel); conv => whnf)
      | (refine Num.id (by omega) (by omega) ?_; conv => whnf)
      | (refine Case.strI (fun _ => ?_) (fun _ => ?_) <;> conv => whnf)
      | (refine Both.mk ?_ ?_ <;> conv => whnf)
      | (refine Case.dec (fun _ => ?_) (fun _ => ?_) <;> conv => whnf)
      | (refine Case.beqI (fun _ => ?_) (fun _ => ?_) <;> conv => whnf)
      | (refine Case.mk (fun _ => ?_) (fun _ => ?_) <;> conv => whnf)
    exact Fin.isB rfl
  ·
    have z1 : ((⟨#[97]⟩ ++ ⟨#[43]⟩ ++ ⟨#[47, 42, 42, 47, 32, 10]⟩ : ByteArray) ++ ⟨#[46, 98]⟩ : ByteArray).size < 1000000 := by decide +kernel
    have z2 : ((⟨#[97]⟩ ++ ⟨#[43]⟩ ++ ⟨#[47, 42, 42, 47, 32, 10]⟩ : ByteArray) ++ ⟨#[62]⟩ : ByteArray).size < 1000000 := by decide +kernel
    have ho := of_spec _ z1
    have hn := of_spec _ z2
    have hp := parse_spec (ofT_fit _ z1)
    have hm := parse_spec (ofT_fit _ z2)
    have e1 : sParse (ofT ((⟨#[97]⟩ ++ ⟨#[43]⟩ ++ ⟨#[47, 42, 42, 47, 32, 10]⟩ : ByteArray) ++ ⟨#[46, 98]⟩)) = (combS 3, true) := by kernel_rfl
    have e2 : (sParse (ofT ((⟨#[97]⟩ ++ ⟨#[43]⟩ ++ ⟨#[47, 42, 42, 47, 32, 10]⟩ : ByteArray) ++ ⟨#[62]⟩))).2 = false := by kernel_rfl
    rw [e1] at hp
    rw [e2] at hm
    clear e1 e2 z1 z2
    conv => whnf
    repeat' first
      | (refine Case.not ?_; conv => whnf)
      | (refine Case.yes ?_; conv => whnf)
      | (refine Case.no ?_; conv => whnf)
      | (refine Case.isTrue (by assumption) ?_; conv => whnf)
      | (refine Case.isFalse (by assumption) ?_; conv => whnf)
      | (refine Case.decT (by assumption) ?_; conv => whnf)
      | (refine Case.decF (by assumption) ?_; conv => whnf)
      | (refine Case.decT (by omega) ?_; conv => whnf)
      | (refine Case.decF (by omega) ?_; conv => whnf)
      | (refine Case.beqT (by omega) ?_; conv => whnf)
      | (refine Case.beqF (by omega) ?_; conv => whnf)
      | (refine Case.strT (by assumption) ?_; conv => whnf)
      | (refine Case.strF (by assumption) ?_; conv => whnf)
      | (refine Case.strF (by simp only [*]; decide) ?_; conv => whnf)
      | (refine alive_spec.call rfl ?_; conv => whnf)
      | (refine Owes.mk rfl ?_; conv => whnf)
      | (refine Owes.mk (by decide +kernel) ?_; conv => whnf)
      | (refine Elem.mk 0 _ rfl rfl ?_; conv => whnf)
      | (refine Elem.mk 1 _ rfl rfl ?_; conv => whnf)
      | (refine Elem.mk 2 _ rfl rfl ?_; conv => whnf)
      | (refine Elem.mk 3 _ rfl rfl ?_; conv => whnf)
      | (refine step_kinds 2 ?hk ?_; (case hk => decide +kernel); conv => whnf)
      | (refine step_kinds 3 ?hk ?_; (case hk => decide +kernel); conv => whnf)
      | (refine Num.id (by omega) (by omega) ?_; conv => whnf)
      | (refine Case.strI (fun _ => ?_) (fun _ => ?_) <;> conv => whnf)
      | (refine Both.mk ?_ ?_ <;> conv => whnf)
      | (refine Case.dec (fun _ => ?_) (fun _ => ?_) <;> conv => whnf)
      | (refine Case.beqI (fun _ => ?_) (fun _ => ?_) <;> conv => whnf)
      | (refine Case.mk (fun _ => ?_) (fun _ => ?_) <;> conv => whnf)
    refine ho.call ?_
    conv => whnf
    refine hp.call ?_
    conv => whnf
    repeat' first
      | (refine Case.not ?_; conv => whnf)
      | (refine Case.yes ?_; conv => whnf)
      | (refine Case.no ?_; conv => whnf)
      | (refine Case.isTrue (by assumption) ?_; conv => whnf)
      | (refine Case.isFalse (by assumption) ?_; conv => whnf)
      | (refine Case.decT (by assumption) ?_; conv => whnf)
      | (refine Case.decF (by assumption) ?_; conv => whnf)
      | (refine Case.decT (by omega) ?_; conv => whnf)
      | (refine Case.decF (by omega) ?_; conv => whnf)
      | (refine Case.beqT (by omega) ?_; conv => whnf)
      | (refine Case.beqF (by omega) ?_; conv => whnf)
      | (refine Case.strT (by assumption) ?_; conv => whnf)
      | (refine Case.strF (by assumption) ?_; conv => whnf)
      | (refine Case.strF (by simp only [*]; decide) ?_; conv => whnf)
      | (refine Owes.mk (by decide +kernel) ?_; conv => whnf)
      | (refine step_kinds 2 ?hk ?_; (case hk => decide +kernel); conv => whnf)
      | (refine step_kinds 3 ?hk ?_; (case hk => decide +kernel); conv => whnf)
      | (refine Num.id (by omega) (by omega) ?_; conv => whnf)
      | (refine Case.strI (fun _ => ?_) (fun _ => ?_) <;> conv => whnf)
      | (refine Both.mk ?_ ?_ <;> conv => whnf)
      | (refine Case.dec (fun _ => ?_) (fun _ => ?_) <;> conv => whnf)
      | (refine Case.beqI (fun _ => ?_) (fun _ => ?_) <;> conv => whnf)
      | (refine Case.mk (fun _ => ?_) (fun _ => ?_) <;> conv => whnf)
    refine hn.call ?_
    conv => whnf
    refine hm.call ?_
    conv => whnf
    repeat' first
      | (refine Case.not ?_; conv => whnf)
      | (refine Case.yes ?_; conv => whnf)
      | (refine Case.no ?_; conv => whnf)
      | (refine Case.isTrue (by assumption) ?_; conv => whnf)
      | (refine Case.isFalse (by assumption) ?_; conv => whnf)
      | (refine Case.decT (by assumption) ?_; conv => whnf)
      | (refine Case.decF (by assumption) ?_; conv => whnf)
      | (refine Case.decT (by omega) ?_; conv => whnf)
      | (refine Case.decF (by omega) ?_; conv => whnf)
      | (refine Case.beqT (by omega) ?_; conv => whnf)
      | (refine Case.beqF (by omega) ?_; conv => whnf)
      | (refine Case.strT (by assumption) ?_; conv => whnf)
      | (refine Case.strF (by assumption) ?_; conv => whnf)
      | (refine Case.strF (by simp only [*]; decide) ?_; conv => whnf)
      | (refine Case.strT rfl ?_; conv => whnf)
      | (refine Owes.mk sels_row ?_; conv => whnf)
      | (refine Owes.mk parts_row ?_; conv => whnf)
      | (refine Elem.mk 0 _ rfl rfl ?_; conv => whnf)
      | (refine Elem.mk 1 _ rfl rfl ?_; conv => whnf)
      | (refine Case.isTrue (by decide) ?_; conv => whnf)
      | (refine Case.isFalse (by decide) ?_; conv => whnf)
      | (refine step_kinds 2 ?hk ?_; (case hk => decide +kernel); conv => whnf)
      | (refine step_kinds 3 ?hk ?_; (case hk => decide +kernel); conv => whnf)
      | (refine Num.id (by omega) (by omega) ?_; conv => whnf)
      | (refine Case.strI (fun _ => ?_) (fun _ => ?_) <;> conv => whnf)
      | (refine Both.mk ?_ ?_ <;> conv => whnf)
      | (refine Case.dec (fun _ => ?_) (fun _ => ?_) <;> conv => whnf)
      | (refine Case.beqI (fun _ => ?_) (fun _ => ?_) <;> conv => whnf)
      | (refine Case.mk (fun _ => ?_) (fun _ => ?_) <;> conv => whnf)
    exact Fin.isB rfl
  ·
    have z1 : ((⟨#[97]⟩ ++ ⟨#[32, 9]⟩ ++ ⟨#[43]⟩ : ByteArray) ++ ⟨#[46, 98]⟩ : ByteArray).size < 1000000 := by decide +kernel
    have z2 : ((⟨#[97]⟩ ++ ⟨#[32, 9]⟩ ++ ⟨#[43]⟩ : ByteArray) ++ ⟨#[62]⟩ : ByteArray).size < 1000000 := by decide +kernel
    have ho := of_spec _ z1
    have hn := of_spec _ z2
    have hp := parse_spec (ofT_fit _ z1)
    have hm := parse_spec (ofT_fit _ z2)
    have e1 : sParse (ofT ((⟨#[97]⟩ ++ ⟨#[32, 9]⟩ ++ ⟨#[43]⟩ : ByteArray) ++ ⟨#[46, 98]⟩)) = (combS 3, true) := by kernel_rfl
    have e2 : (sParse (ofT ((⟨#[97]⟩ ++ ⟨#[32, 9]⟩ ++ ⟨#[43]⟩ : ByteArray) ++ ⟨#[62]⟩))).2 = false := by kernel_rfl
    rw [e1] at hp
    rw [e2] at hm
    clear e1 e2 z1 z2
    conv => whnf
    repeat' first
      | (refine Case.not ?_; conv => whnf)
      | (refine Case.yes ?_; conv => whnf)
      | (refine Case.no ?_; conv => whnf)
      | (refine Case.isTrue (by assumption) ?_; conv => whnf)
      | (refine Case.isFalse (by assumption) ?_; conv => whnf)
      | (refine Case.decT (by assumption) ?_; conv => whnf)
      | (refine Case.decF (by assumption) ?_; conv => whnf)
      | (refine Case.decT (by omega) ?_; conv => whnf)
      | (refine Case.decF (by omega) ?_; conv => whnf)
      | (refine Case.beqT (by omega) ?_; conv => whnf)
      | (refine Case.beqF (by omega) ?_; conv => whnf)
      | (refine Case.strT (by assumption) ?_; conv => whnf)
      | (refine Case.strF (by assumption) ?_; conv => whnf)
      | (refine Case.strF (by simp only [*]; decide) ?_; conv => whnf)
      | (refine alive_spec.call rfl ?_; conv => whnf)
      | (refine Owes.mk rfl ?_; conv => whnf)
      | (refine Owes.mk (by decide +kernel) ?_; conv => whnf)
      | (refine Elem.mk 0 _ rfl rfl ?_; conv => whnf)
      | (refine Elem.mk 1 _ rfl rfl ?_; conv => whnf)
      | (refine Elem.mk 2 _ rfl rfl ?_; conv => whnf)
      | (refine Elem.mk 3 _ rfl rfl ?_; conv => whnf)
      | (refine step_kinds 2 ?hk ?_; (case hk => decide +kernel); conv => whnf)
      | (refine step_kinds 3 ?hk ?_; (case hk => decide +kernel); conv => whnf)
      | (refine Num.id (by omega) (by omega) ?_; conv => whnf)
      | (refine Case.strI (fun _ => ?_) (fun _ => ?_) <;> conv => whnf)
      | (refine Both.mk ?_ ?_ <;> conv => whnf)
      | (refine Case.dec (fun _ => ?_) (fun _ => ?_) <;> conv => whnf)
      | (refine Case.beqI (fun _ => ?_) (fun _ => ?_) <;> conv => whnf)
      | (refine Case.mk (fun _ => ?_) (fun _ => ?_) <;> conv => whnf)
    refine ho.call ?_
    conv => whnf
    refine hp.call ?_
    conv => whnf
    repeat' first
      | (refine Case.not ?_; conv => whnf)
      | (refine Case.yes ?_; conv => whnf)
      | (refine Case.no ?_; conv => whnf)
      | (refine Case.isTrue (by assumption) ?_; conv => whnf)
      | (refine Case.isFalse (by assumption) ?_; conv => whnf)
      | (refine Case.decT (by assumption) ?_; conv => whnf)
      | (refine Case.decF (by assumption) ?_; conv => whnf)
      | (refine Case.decT (by omega) ?_; conv => whnf)
      | (refine Case.decF (by omega) ?_; conv => whnf)
      | (refine Case.beqT (by omega) ?_; conv => whnf)
      | (refine Case.beqF (by omega) ?_; conv => whnf)
      | (refine Case.strT (by assumption) ?_; conv => whnf)
      | (refine Case.strF (by assumption) ?_; conv => whnf)
      | (refine Case.strF (by simp only [*]; decide) ?_; conv => whnf)
      | (refine Owes.mk (by decide +kernel) ?_; conv => whnf)
      | (refine step_kinds 2 ?hk ?_; (case hk => decide +kernel); conv => whnf)
      | (refine step_kinds 3 ?hk ?_; (case hk => decide +kernel); conv => whnf)
      | (refine Num.id (by omega) (by omega) ?_; conv => whnf)
      | (refine Case.strI (fun _ => ?_) (fun _ => ?_) <;> conv => whnf)
      | (refine Both.mk ?_ ?_ <;> conv => whnf)
      | (refine Case.dec (fun _ => ?_) (fun _ => ?_) <;> conv => whnf)
      | (refine Case.beqI (fun _ => ?_) (fun _ => ?_) <;> conv => whnf)
      | (refine Case.mk (fun _ => ?_) (fun _ => ?_) <;> conv => whnf)
    refine hn.call ?_
    conv => whnf
    refine hm.call ?_
    conv => whnf
    repeat' first
      | (refine Case.not ?_; conv => whnf)
      | (refine Case.yes ?_; conv => whnf)
      | (refine Case.no ?_; conv => whnf)
      | (refine Case.isTrue (by assumption) ?_; conv => whnf)
      | (refine Case.isFalse (by assumption) ?_; conv => whnf)
      | (refine Case.decT (by assumption) ?_; conv => whnf)
      | (refine Case.decF (by assumption) ?_; conv => whnf)
      | (refine Case.decT (by omega) ?_; conv => whnf)
      | (refine Case.decF (by omega) ?_; conv => whnf)
      | (refine Case.beqT (by omega) ?_; conv => whnf)
      | (refine Case.beqF (by omega) ?_; conv => whnf)
      | (refine Case.strT (by assumption) ?_; conv => whnf)
      | (refine Case.strF (by assumption) ?_; conv => whnf)
      | (refine Case.strF (by simp only [*]; decide) ?_; conv => whnf)
      | (refine Case.strT rfl ?_; conv => whnf)
      | (refine Owes.mk sels_row ?_; conv => whnf)
      | (refine Owes.mk parts_row ?_; conv => whnf)
      | (refine Elem.mk 0 _ rfl rfl ?_; conv => whnf)
      | (refine Elem.mk 1 _ rfl rfl ?_; conv => whnf)
      | (refine Case.isTrue (by decide) ?_; conv => whnf)
      | (refine Case.isFalse (by decide) ?_; conv => whnf)
      | (refine step_kinds 2 ?hk ?_; (case hk => decide +kernel); conv => whnf)
      | (refine step_kinds 3 ?hk ?_; (case hk => decide +kernel); conv => whnf)
      | (refine Num.id (by omega) (by omega) ?_; conv => whnf)
      | (refine Case.strI (fun _ => ?_) (fun _ => ?_) <;> conv => whnf)
      | (refine Both.mk ?_ ?_ <;> conv => whnf)
      | (refine Case.dec (fun _ => ?_) (fun _ => ?_) <;> conv => whnf)
      | (refine Case.beqI (fun _ => ?_) (fun _ => ?_) <;> conv => whnf)
      | (refine Case.mk (fun _ => ?_) (fun _ => ?_) <;> conv => whnf)
    exact Fin.isB rfl
  ·
    have z1 : ((⟨#[97]⟩ ++ ⟨#[32, 9]⟩ ++ ⟨#[43]⟩ ++ ⟨#[47, 42, 42, 47, 32, 10]⟩ : ByteArray) ++ ⟨#[46, 98]⟩ : ByteArray).size < 1000000 := by decide +kernel
    have z2 : ((⟨#[97]⟩ ++ ⟨#[32, 9]⟩ ++ ⟨#[43]⟩ ++ ⟨#[47, 42, 42, 47, 32, 10]⟩ : ByteArray) ++ ⟨#[62]⟩ : ByteArray).size < 1000000 := by decide +kernel
    have ho := of_spec _ z1
    have hn := of_spec _ z2
    have hp := parse_spec (ofT_fit _ z1)
    have hm := parse_spec (ofT_fit _ z2)
    have e1 : sParse (ofT ((⟨#[97]⟩ ++ ⟨#[32, 9]⟩ ++ ⟨#[43]⟩ ++ ⟨#[47, 42, 42, 47, 32, 10]⟩ : ByteArray) ++ ⟨#[46, 98]⟩)) = (combS 3, true) := by kernel_rfl
    have e2 : (sParse (ofT ((⟨#[97]⟩ ++ ⟨#[32, 9]⟩ ++ ⟨#[43]⟩ ++ ⟨#[47, 42, 42, 47, 32, 10]⟩ : ByteArray) ++ ⟨#[62]⟩))).2 = false := by kernel_rfl
    rw [e1] at hp
    rw [e2] at hm
    clear e1 e2 z1 z2
    conv => whnf
    repeat' first
      | (refine Case.not ?_; conv => whnf)
      | (refine Case.yes ?_; conv => whnf)
      | (refine Case.no ?_; conv => whnf)
      | (refine Case.isTrue (by assumption) ?_; conv => whnf)
      | (refine Case.isFalse (by assumption) ?_; conv => whnf)
      | (refine Case.decT (by assumption) ?_; conv => whnf)
      | (refine Case.decF (by assumption) ?_; conv => whnf)
      | (refine Case.decT (by omega) ?_; conv => whnf)
      | (refine Case.decF (by omega) ?_; conv => whnf)
      | (refine Case.beqT (by omega) ?_; conv => whnf)
      | (refine Case.beqF (by omega) ?_; conv => whnf)
      | (refine Case.strT (by assumption) ?_; conv => whnf)
      | (refine Case.strF (by assumption) ?_; conv => whnf)
      | (refine Case.strF (by simp only [*]; decide) ?_; conv => whnf)
      | (refine alive_spec.call rfl ?_; conv => whnf)
      | (refine Owes.mk rfl ?_; conv => whnf)
      | (refine Owes.mk (by decide +kernel) ?_; conv => whnf)
      | (refine Elem.mk 0 _ rfl rfl ?_; conv => whnf)
      | (refine Elem.mk 1 _ rfl rfl ?_; conv => whnf)
      | (refine Elem.mk 2 _ rfl rfl ?_; conv => whnf)
      | (refine Elem.mk 3 _ rfl rfl ?_; conv => whnf)
      | (refine step_kinds 2 ?hk ?_; (case hk => decide +kernel); conv => whnf)
      | (refine step_kinds 3 ?hk ?_; (case hk => decide +kernel); conv => whnf)
      | (refine Num.id (by omega) (by omega) ?_; conv => whnf)
      | (refine Case.strI (fun _ => ?_) (fun _ => ?_) <;> conv => whnf)
      | (refine Both.mk ?_ ?_ <;> conv => whnf)
      | (refine Case.dec (fun _ => ?_) (fun _ => ?_) <;> conv => whnf)
      | (refine Case.beqI (fun _ => ?_) (fun _ => ?_) <;> conv => whnf)
      | (refine Case.mk (fun _ => ?_) (fun _ => ?_) <;> conv => whnf)
    refine ho.call ?_
    conv => whnf
    refine hp.call ?_
    conv => whnf
    repeat' first
      | (refine Case.not ?_; conv => whnf)
      | (refine Case.yes ?_; conv => whnf)
      | (refine Case.no ?_; conv => whnf)
      | (refine Case.isTrue (by assumption) ?_; conv => whnf)
      | (refine Case.isFalse (by assumption) ?_; conv => whnf)
      | (refine Case.decT (by assumption) ?_; conv => whnf)
      | (refine Case.decF (by assumption) ?_; conv => whnf)
      | (refine Case.decT (by omega) ?_; conv => whnf)
      | (refine Case.decF (by omega) ?_; conv => whnf)
      | (refine Case.beqT (by omega) ?_; conv => whnf)
      | (refine Case.beqF (by omega) ?_; conv => whnf)
      | (refine Case.strT (by assumption) ?_; conv => whnf)
      | (refine Case.strF (by assumption) ?_; conv => whnf)
      | (refine Case.strF (by simp only [*]; decide) ?_; conv => whnf)
      | (refine Owes.mk (by decide +kernel) ?_; conv => whnf)
      | (refine step_kinds 2 ?hk ?_; (case hk => decide +kernel); conv => whnf)
      | (refine step_kinds 3 ?hk ?_; (case hk => decide +kernel); conv => whnf)
      | (refine Num.id (by omega) (by omega) ?_; conv => whnf)
      | (refine Case.strI (fun _ => ?_) (fun _ => ?_) <;> conv => whnf)
      | (refine Both.mk ?_ ?_ <;> conv => whnf)
      | (refine Case.dec (fun _ => ?_) (fun _ => ?_) <;> conv => whnf)
      | (refine Case.beqI (fun _ => ?_) (fun _ => ?_) <;> conv => whnf)
      | (refine Case.mk (fun _ => ?_) (fun _ => ?_) <;> conv => whnf)
    refine hn.call ?_
    conv => whnf
    refine hm.call ?_
    conv => whnf
    repeat' first
      | (refine Case.not ?_; conv => whnf)
      | (refine Case.yes ?_; conv => whnf)
      | (refine Case.no ?_; conv => whnf)
      | (refine Case.isTrue (by assumption) ?_; conv => whnf)
      | (refine Case.isFalse (by assumption) ?_; conv => whnf)
      | (refine Case.decT (by assumption) ?_; conv => whnf)
      | (refine Case.decF (by assumption) ?_; conv => whnf)
      | (refine Case.decT (by omega) ?_; conv => whnf)
      | (refine Case.decF (by omega) ?_; conv => whnf)
      | (refine Case.beqT (by omega) ?_; conv => whnf)
      | (refine Case.beqF (by omega) ?_; conv => whnf)
      | (refine Case.strT (by assumption) ?_; conv => whnf)
      | (refine Case.strF (by assumption) ?_; conv => whnf)
      | (refine Case.strF (by simp only [*]; decide) ?_; conv => whnf)
      | (refine Case.strT rfl ?_; conv => whnf)
      | (refine Owes.mk sels_row ?_; conv => whnf)
      | (refine Owes.mk parts_row ?_; conv => whnf)
      | (refine Elem.mk 0 _ rfl rfl ?_; conv => whnf)
      | (refine Elem.mk 1 _ rfl rfl ?_; conv => whnf)
      | (refine Case.isTrue (by decide) ?_; conv => whnf)
      | (refine Case.isFalse (by decide) ?_; conv => whnf)
      | (refine step_kinds 2 ?hk ?_; (case hk => decide +kernel); conv => whnf)
      | (refine step_kinds 3 ?hk ?_; (case hk => decide +kernel); conv => whnf)
      | (refine Num.id (by omega) (by omega) ?_; conv => whnf)
      | (refine Case.strI (fun _ => ?_) (fun _ => ?_) <;> conv => whnf)
      | (refine Both.mk ?_ ?_ <;> conv => whnf)
      | (refine Case.dec (fun _ => ?_) (fun _ => ?_) <;> conv => whnf)
      | (refine Case.beqI (fun _ => ?_) (fun _ => ?_) <;> conv => whnf)
      | (refine Case.mk (fun _ => ?_) (fun _ => ?_) <;> conv => whnf)
    exact Fin.isB rfl
  ·
    have z1 : ((⟨#[97]⟩ ++ ⟨#[126]⟩ : ByteArray) ++ ⟨#[46, 98]⟩ : ByteArray).size < 1000000 := by decide +kernel
    have z2 : ((⟨#[97]⟩ ++ ⟨#[126]⟩ : ByteArray) ++ ⟨#[62]⟩ : ByteArray).size < 1000000 := by decide +kernel
    have ho := of_spec _ z1
    have hn := of_spec _ z2
    have hp := parse_spec (ofT_fit _ z1)
    have hm := parse_spec (ofT_fit _ z2)
    have e1 : sParse (ofT ((⟨#[97]⟩ ++ ⟨#[126]⟩ : ByteArray) ++ ⟨#[46, 98]⟩)) = (combS 4, true) := by kernel_rfl
    have e2 : (sParse (ofT ((⟨#[97]⟩ ++ ⟨#[126]⟩ : ByteArray) ++ ⟨#[62]⟩))).2 = false := by kernel_rfl
    rw [e1] at hp
    rw [e2] at hm
    clear e1 e2 z1 z2
    conv => whnf
    repeat' first
      | (refine Case.not ?_; conv => whnf)
      | (refine Case.yes ?_; conv => whnf)
      | (refine Case.no ?_; conv => whnf)
      | (refine Case.isTrue (by assumption) ?_; conv => whnf)
      | (refine Case.isFalse (by assumption) ?_; conv => whnf)
      | (refine Case.decT (by assumption) ?_; conv => whnf)
      | (refine Case.decF (by assumption) ?_; conv => whnf)
      | (refine Case.decT (by omega) ?_; conv => whnf)
      | (refine Case.decF (by omega) ?_; conv => whnf)
      | (refine Case.beqT (by omega) ?_; conv => whnf)
      | (refine Case.beqF (by omega) ?_; conv => whnf)
      | (refine Case.strT (by assumption) ?_; conv => whnf)
      | (refine Case.strF (by assumption) ?_; conv => whnf)
      | (refine Case.strF (by simp only [*]; decide) ?_; conv => whnf)
      | (refine alive_spec.call rfl ?_; conv => whnf)
      | (refine Owes.mk rfl ?_; conv => whnf)
      | (refine Owes.mk (by decide +kernel) ?_; conv => whnf)
      | (refine Elem.mk 0 _ rfl rfl ?_; conv => whnf)
      | (refine Elem.mk 1 _ rfl rfl ?_; conv => whnf)
      | (refine Elem.mk 2 _ rfl rfl ?_; conv => whnf)
      | (refine Elem.mk 3 _ rfl rfl ?_; conv => whnf)
      | (refine step_kinds 2 ?hk ?_; (case hk => decide +kernel); conv => whnf)
      | (refine step_kinds 3 ?hk ?_; (case hk => decide +kernel); conv => whnf)
      | (refine Num.id (by omega) (by omega) ?_; conv => whnf)
      | (refine Case.strI (fun _ => ?_) (fun _ => ?_) <;> conv => whnf)
      | (refine Both.mk ?_ ?_ <;> conv => whnf)
      | (refine Case.dec (fun _ => ?_) (fun _ => ?_) <;> conv => whnf)
      | (refine Case.beqI (fun _ => ?_) (fun _ => ?_) <;> conv => whnf)
      | (refine Case.mk (fun _ => ?_) (fun _ => ?_) <;> conv => whnf)
    refine ho.call ?_
    conv => whnf
    refine hp.call ?_
    conv => whnf
    repeat' first
      | (refine Case.not ?_; conv => whnf)
      | (refine Case.yes ?_; conv => whnf)
      | (refine Case.no ?_; conv => whnf)
      | (refine Case.isTrue (by assumption) ?_; conv => whnf)
      | (refine Case.isFalse (by assumption) ?_; conv => whnf)
      | (refine Case.decT (by assumption) ?_; conv => whnf)
      | (refine Case.decF (by assumption) ?_; conv => whnf)
      | (refine Case.decT (by omega) ?_; conv => whnf)
      | (refine Case.decF (by omega) ?_; conv => whnf)
      | (refine Case.beqT (by omega) ?_; conv => whnf)
      | (refine Case.beqF (by omega) ?_; conv => whnf)
      | (refine Case.strT (by assumption) ?_; conv => whnf)
      | (refine Case.strF (by assumption) ?_; conv => whnf)
      | (refine Case.strF (by simp only [*]; decide) ?_; conv => whnf)
      | (refine Owes.mk (by decide +kernel) ?_; conv => whnf)
      | (refine step_kinds 2 ?hk ?_; (case hk => decide +kernel); conv => whnf)
      | (refine step_kinds 3 ?hk ?_; (case hk => decide +kernel); conv => whnf)
      | (refine Num.id (by omega) (by omega) ?_; conv => whnf)
      | (refine Case.strI (fun _ => ?_) (fun _ => ?_) <;> conv => whnf)
      | (refine Both.mk ?_ ?_ <;> conv => whnf)
      | (refine Case.dec (fun _ => ?_) (fun _ => ?_) <;> conv => whnf)
      | (refine Case.beqI (fun _ => ?_) (fun _ => ?_) <;> conv => whnf)
      | (refine Case.mk (fun _ => ?_) (fun _ => ?_) <;> conv => whnf)
    refine hn.call ?_
    conv => whnf
    refine hm.call ?_
    conv => whnf
    repeat' first
      | (refine Case.not ?_; conv => whnf)
      | (refine Case.yes ?_; conv => whnf)
      | (refine Case.no ?_; conv => whnf)
      | (refine Case.isTrue (by assumption) ?_; conv => whnf)
      | (refine Case.isFalse (by assumption) ?_; conv => whnf)
      | (refine Case.decT (by assumption) ?_; conv => whnf)
      | (refine Case.decF (by assumption) ?_; conv => whnf)
      | (refine Case.decT (by omega) ?_; conv => whnf)
      | (refine Case.decF (by omega) ?_; conv => whnf)
      | (refine Case.beqT (by omega) ?_; conv => whnf)
      | (refine Case.beqF (by omega) ?_; conv => whnf)
      | (refine Case.strT (by assumption) ?_; conv => whnf)
      | (refine Case.strF (by assumption) ?_; conv => whnf)
      | (refine Case.strF (by simp only [*]; decide) ?_; conv => whnf)
      | (refine Case.strT rfl ?_; conv => whnf)
      | (refine Owes.mk sels_row ?_; conv => whnf)
      | (refine Owes.mk parts_row ?_; conv => whnf)
      | (refine Elem.mk 0 _ rfl rfl ?_; conv => whnf)
      | (refine Elem.mk 1 _ rfl rfl ?_; conv => whnf)
      | (refine Case.isTrue (by decide) ?_; conv => whnf)
      | (refine Case.isFalse (by decide) ?_; conv => whnf)
      | (refine step_kinds 2 ?hk ?_; (case hk => decide +kernel); conv => whnf)
      | (refine step_kinds 3 ?hk ?_; (case hk => decide +kernel); conv => whnf)
      | (refine Num.id (by omega) (by omega) ?_; conv => whnf)
      | (refine Case.strI (fun _ => ?_) (fun _ => ?_) <;> conv => whnf)
      | (refine Both.mk ?_ ?_ <;> conv => whnf)
      | (refine Case.dec (fun _ => ?_) (fun _ => ?_) <;> conv => whnf)
      | (refine Case.beqI (fun _ => ?_) (fun _ => ?_) <;> conv => whnf)
      | (refine Case.mk (fun _ => ?_) (fun _ => ?_) <;> conv => whnf)
    exact Fin.isB rfl
  ·
    have z1 : ((⟨#[97]⟩ ++ ⟨#[126]⟩ ++ ⟨#[47, 42, 42, 47, 32, 10]⟩ : ByteArray) ++ ⟨#[46, 98]⟩ : ByteArray).size < 1000000 := by decide +kernel
    have z2 : ((⟨#[97]⟩ ++ ⟨#[126]⟩ ++ ⟨#[47, 42, 42, 47, 32, 10]⟩ : ByteArray) ++ ⟨#[62]⟩ : ByteArray).size < 1000000 := by decide +kernel
    have ho := of_spec _ z1
    have hn := of_spec _ z2
    have hp := parse_spec (ofT_fit _ z1)
    have hm := parse_spec (ofT_fit _ z2)
    have e1 : sParse (ofT ((⟨#[97]⟩ ++ ⟨#[126]⟩ ++ ⟨#[47, 42, 42, 47, 32, 10]⟩ : ByteArray) ++ ⟨#[46, 98]⟩)) = (combS 4, true) := by kernel_rfl
    have e2 : (sParse (ofT ((⟨#[97]⟩ ++ ⟨#[126]⟩ ++ ⟨#[47, 42, 42, 47, 32, 10]⟩ : ByteArray) ++ ⟨#[62]⟩))).2 = false := by kernel_rfl
    rw [e1] at hp
    rw [e2] at hm
    clear e1 e2 z1 z2
    conv => whnf
    repeat' first
      | (refine Case.not ?_; conv => whnf)
      | (refine Case.yes ?_; conv => whnf)
      | (refine Case.no ?_; conv => whnf)
      | (refine Case.isTrue (by assumption) ?_; conv => whnf)
      | (refine Case.isFalse (by assumption) ?_; conv => whnf)
      | (refine Case.decT (by assumption) ?_; conv => whnf)
      | (refine Case.decF (by assumption) ?_; conv => whnf)
      | (refine Case.decT (by omega) ?_; conv => whnf)
      | (refine Case.decF (by omega) ?_; conv => whnf)
      | (refine Case.beqT (by omega) ?_; conv => whnf)
      | (refine Case.beqF (by omega) ?_; conv => whnf)
      | (refine Case.strT (by assumption) ?_; conv => whnf)
      | (refine Case.strF (by assumption) ?_; conv => whnf)
      | (refine Case.strF (by simp only [*]; decide) ?_; conv => whnf)
      | (refine alive_spec.call rfl ?_; conv => whnf)
      | (refine Owes.mk rfl ?_; conv => whnf)
      | (refine Owes.mk (by decide +kernel) ?_; conv => whnf)
      | (refine Elem.mk 0 _ rfl rfl ?_; conv => whnf)
      | (refine Elem.mk 1 _ rfl rfl ?_; conv => whnf)
      | (refine Elem.mk 2 _ rfl rfl ?_; conv => whnf)
      | (refine Elem.mk 3 _ rfl rfl ?_; conv => whnf)
      | (refine step_kinds 2 ?hk ?_; (case hk => decide +kernel); conv => whnf)
      | (refine step_kinds 3 ?hk ?_; (case hk => decide +kernel); conv => whnf)
      | (refine Num.id (by omega) (by omega) ?_; conv => whnf)
      | (refine Case.strI (fun _ => ?_) (fun _ => ?_) <;> conv => whnf)
      | (refine Both.mk ?_ ?_ <;> conv => whnf)
      | (refine Case.dec (fun _ => ?_) (fun _ => ?_) <;> conv => whnf)
      | (refine Case.beqI (fun _ => ?_) (fun _ => ?_) <;> conv => whnf)
      | (refine Case.mk (fun _ => ?_) (fun _ => ?_) <;> conv => whnf)
    refine ho.call ?_
    conv => whnf
    refine hp.call ?_
    conv => whnf
    repeat' first
      | (refine Case.not ?_; conv => whnf)
      | (refine Case.yes ?_; conv => whnf)
      | (refine Case.no ?_; conv => whnf)
      | (refine Case.isTrue (by assumption) ?_; conv => whnf)
      | (refine Case.isFalse (by assumption) ?_; conv => whnf)
      | (refine Case.decT (by assumption) ?_; conv => whnf)
      | (refine Case.decF (by assumption) ?_; conv => whnf)
      | (refine Case.decT (by omega) ?_; conv => whnf)
      | (refine Case.decF (by omega) ?_; conv => whnf)
      | (refine Case.beqT (by omega) ?_; conv => whnf)
      | (refine Case.beqF (by omega) ?_; conv => whnf)
      | (refine Case.strT (by assumption) ?_; conv => whnf)
      | (refine Case.strF (by assumption) ?_; conv => whnf)
      | (refine Case.strF (by simp only [*]; decide) ?_; conv => whnf)
      | (refine Owes.mk (by decide +kernel) ?_; conv => whnf)
      | (refine step_kinds 2 ?hk ?_; (case hk => decide +kernel); conv => whnf)
      | (refine step_kinds 3 ?hk ?_; (case hk => decide +kernel); conv => whnf)
      | (refine Num.id (by omega) (by omega) ?_; conv => whnf)
      | (refine Case.strI (fun _ => ?_) (fun _ => ?_) <;> conv => whnf)
      | (refine Both.mk ?_ ?_ <;> conv => whnf)
      | (refine Case.dec (fun _ => ?_) (fun _ => ?_) <;> conv => whnf)
      | (refine Case.beqI (fun _ => ?_) (fun _ => ?_) <;> conv => whnf)
      | (refine Case.mk (fun _ => ?_) (fun _ => ?_) <;> conv => whnf)
    refine hn.call ?_
    conv => whnf
    refine hm.call ?_
    conv => whnf
    repeat' first
      | (refine Case.not ?_; conv => whnf)
      | (refine Case.yes ?_; conv => whnf)
      | (refine Case.no ?_; conv => whnf)
      | (refine Case.isTrue (by assumption) ?_; conv => whnf)
      | (refine Case.isFalse (by assumption) ?_; conv => whnf)
      | (refine Case.decT (by assumption) ?_; conv => whnf)
      | (refine Case.decF (by assumption) ?_; conv => whnf)
      | (refine Case.decT (by omega) ?_; conv => whnf)
      | (refine Case.decF (by omega) ?_; conv => whnf)
      | (refine Case.beqT (by omega) ?_; conv => whnf)
      | (refine Case.beqF (by omega) ?_; conv => whnf)
      | (refine Case.strT (by assumption) ?_; conv => whnf)
      | (refine Case.strF (by assumption) ?_; conv => whnf)
      | (refine Case.strF (by simp only [*]; decide) ?_; conv => whnf)
      | (refine Case.strT rfl ?_; conv => whnf)
      | (refine Owes.mk sels_row ?_; conv => whnf)
      | (refine Owes.mk parts_row ?_; conv => whnf)
      | (refine Elem.mk 0 _ rfl rfl ?_; conv => whnf)
      | (refine Elem.mk 1 _ rfl rfl ?_; conv => whnf)
      | (refine Case.isTrue (by decide) ?_; conv => whnf)
      | (refine Case.isFalse (by decide) ?_; conv => whnf)
      | (refine step_kinds 2 ?hk ?_; (case hk => decide +kernel); conv => whnf)
      | (refine step_kinds 3 ?hk ?_; (case hk => decide +kernel); conv => whnf)
      | (refine Num.id (by omega) (by omega) ?_; conv => whnf)
      | (refine Case.strI (fun _ => ?_) (fun _ => ?_) <;> conv => whnf)
      | (refine Both.mk ?_ ?_ <;> conv => whnf)
      | (refine Case.dec (fun _ => ?_) (fun _ => ?_) <;> conv => whnf)
      | (refine Case.beqI (fun _ => ?_) (fun _ => ?_) <;> conv => whnf)
      | (refine Case.mk (fun _ => ?_) (fun _ => ?_) <;> conv => whnf)
    exact Fin.isB rfl
  ·
    have z1 : ((⟨#[97]⟩ ++ ⟨#[32, 9]⟩ ++ ⟨#[126]⟩ : ByteArray) ++ ⟨#[46, 98]⟩ : ByteArray).size < 1000000 := by decide +kernel
    have z2 : ((⟨#[97]⟩ ++ ⟨#[32, 9]⟩ ++ ⟨#[126]⟩ : ByteArray) ++ ⟨#[62]⟩ : ByteArray).size < 1000000 := by decide +kernel
    have ho := of_spec _ z1
    have hn := of_spec _ z2
    have hp := parse_spec (ofT_fit _ z1)
    have hm := parse_spec (ofT_fit _ z2)
    have e1 : sParse (ofT ((⟨#[97]⟩ ++ ⟨#[32, 9]⟩ ++ ⟨#[126]⟩ : ByteArray) ++ ⟨#[46, 98]⟩)) = (combS 4, true) := by kernel_rfl
    have e2 : (sParse (ofT ((⟨#[97]⟩ ++ ⟨#[32, 9]⟩ ++ ⟨#[126]⟩ : ByteArray) ++ ⟨#[62]⟩))).2 = false := by kernel_rfl
    rw [e1] at hp
    rw [e2] at hm
    clear e1 e2 z1 z2
    conv => whnf
    repeat' first
      | (refine Case.not ?_; conv => whnf)
      | (refine Case.yes ?_; conv => whnf)
      | (refine Case.no ?_; conv => whnf)
      | (refine Case.isTrue (by assumption) ?_; conv => whnf)
      | (refine Case.isFalse (by assumption) ?_; conv => whnf)
      | (refine Case.decT (by assumption) ?_; conv => whnf)
      | (refine Case.decF (by assumption) ?_; conv => whnf)
      | (refine Case.decT (by omega) ?_; conv => whnf)
      | (refine Case.decF (by omega) ?_; conv => whnf)
      | (refine Case.beqT (by omega) ?_; conv => whnf)
      | (refine Case.beqF (by omega) ?_; conv => whnf)
      | (refine Case.strT (by assumption) ?_; conv => whnf)
      | (refine Case.strF (by assumption) ?_; conv => whnf)
      | (refine Case.strF (by simp only [*]; decide) ?_; conv => whnf)
      | (refine alive_spec.call rfl ?_; conv => whnf)
      | (refine Owes.mk rfl ?_; conv => whnf)
      | (refine Owes.mk (by decide +kernel) ?_; conv => whnf)
      | (refine Elem.mk 0 _ rfl rfl ?_; conv => whnf)
      | (refine Elem.mk 1 _ rfl rfl ?_; conv => whnf)
      | (refine Elem.mk 2 _ rfl rfl ?_; conv => whnf)
      | (refine Elem.mk 3 _ rfl rfl ?_; conv => whnf)
      | (refine step_kinds 2 ?hk ?_; (case hk => decide +kernel); conv => whnf)
      | (refine step_kinds 3 ?hk ?_; (case hk => decide +kernel); conv => whnf)
      | (refine Num.id (by omega) (by omega) ?_; conv => whnf)
      | (refine Case.strI (fun _ => ?_) (fun _ => ?_) <;> conv => whnf)
      | (refine Both.mk ?_ ?_ <;> conv => whnf)
      | (refine Case.dec (fun _ => ?_) (fun _ => ?_) <;> conv => whnf)
      | (refine Case.beqI (fun _ => ?_) (fun _ => ?_) <;> conv => whnf)
      | (refine Case.mk (fun _ => ?_) (fun _ => ?_) <;> conv => whnf)
    refine ho.call ?_
    conv => whnf
    refine hp.call ?_
    conv => whnf
    repeat' first
      | (refine Case.not ?_; conv => whnf)
      | (refine Case.yes ?_; conv => whnf)
      | (refine Case.no ?_; conv => whnf)
      | (refine Case.isTrue (by assumption) ?_; conv => whnf)
      | (refine Case.isFalse (by assumption) ?_; conv => whnf)
      | (refine Case.decT (by assumption) ?_; conv => whnf)
      | (refine Case.decF (by assumption) ?_; conv => whnf)
      | (refine Case.decT (by omega) ?_; conv => whnf)
      | (refine Case.decF (by omega) ?_; conv => whnf)
      | (refine Case.beqT (by omega) ?_; conv => whnf)
      | (refine Case.beqF (by omega) ?_; conv => whnf)
      | (refine Case.strT (by assumption) ?_; conv => whnf)
      | (refine Case.strF (by assumption) ?_; conv => whnf)
      | (refine Case.strF (by simp only [*]; decide) ?_; conv => whnf)
      | (refine Owes.mk (by decide +kernel) ?_; conv => whnf)
      | (refine step_kinds 2 ?hk ?_; (case hk => decide +kernel); conv => whnf)
      | (refine step_kinds 3 ?hk ?_; (case hk => decide +kernel); conv => whnf)
      | (refine Num.id (by omega) (by omega) ?_; conv => whnf)
      | (refine Case.strI (fun _ => ?_) (fun _ => ?_) <;> conv => whnf)
      | (refine Both.mk ?_ ?_ <;> conv => whnf)
      | (refine Case.dec (fun _ => ?_) (fun _ => ?_) <;> conv => whnf)
      | (refine Case.beqI (fun _ => ?_) (fun _ => ?_) <;> conv => whnf)
      | (refine Case.mk (fun _ => ?_) (fun _ => ?_) <;> conv => whnf)
    refine hn.call ?_
    conv => whnf
    refine hm.call ?_
    conv => whnf
    repeat' first
      | (refine Case.not ?_; conv => whnf)
      | (refine Case.yes ?_; conv => whnf)
      | (refine Case.no ?_; conv => whnf)
      | (refine Case.isTrue (by assumption) ?_; conv => whnf)
      | (refine Case.isFalse (by assumption) ?_; conv => whnf)
      | (refine Case.decT (by assumption) ?_; conv => whnf)
      | (refine Case.decF (by assumption) ?_; conv => whnf)
      | (refine Case.decT (by omega) ?_; conv => whnf)
      | (refine Case.decF (by omega) ?_; conv => whnf)
      | (refine Case.beqT (by omega) ?_; conv => whnf)
      | (refine Case.beqF (by omega) ?_; conv => whnf)
      | (refine Case.strT (by assumption) ?_; conv => whnf)
      | (refine Case.strF (by assumption) ?_; conv => whnf)
      | (refine Case.strF (by simp only [*]; decide) ?_; conv => whnf)
      | (refine Case.strT rfl ?_; conv => whnf)
      | (refine Owes.mk sels_row ?_; conv => whnf)
      | (refine Owes.mk parts_row ?_; conv => whnf)
      | (refine Elem.mk 0 _ rfl rfl ?_; conv => whnf)
      | (refine Elem.mk 1 _ rfl rfl ?_; conv => whnf)
      | (refine Case.isTrue (by decide) ?_; conv => whnf)
      | (refine Case.isFalse (by decide) ?_; conv => whnf)
      | (refine step_kinds 2 ?hk ?_; (case hk => decide +kernel); conv => whnf)
      | (refine step_kinds 3 ?hk ?_; (case hk => decide +kernel); conv => whnf)
      | (refine Num.id (by omega) (by omega) ?_; conv => whnf)
      | (refine Case.strI (fun _ => ?_) (fun _ => ?_) <;> conv => whnf)
      | (refine Both.mk ?_ ?_ <;> conv => whnf)
      | (refine Case.dec (fun _ => ?_) (fun _ => ?_) <;> conv => whnf)
      | (refine Case.beqI (fun _ => ?_) (fun _ => ?_) <;> conv => whnf)
      | (refine Case.mk (fun _ => ?_) (fun _ => ?_) <;> conv => whnf)
    exact Fin.isB rfl
  ·
    have z1 : ((⟨#[97]⟩ ++ ⟨#[32, 9]⟩ ++ ⟨#[126]⟩ ++ ⟨#[47, 42, 42, 47, 32, 10]⟩ : ByteArray) ++ ⟨#[46, 98]⟩ : ByteArray).size < 1000000 := by decide +kernel
    have z2 : ((⟨#[97]⟩ ++ ⟨#[32, 9]⟩ ++ ⟨#[126]⟩ ++ ⟨#[47, 42, 42, 47, 32, 10]⟩ : ByteArray) ++ ⟨#[62]⟩ : ByteArray).size < 1000000 := by decide +kernel
    have ho := of_spec _ z1
    have hn := of_spec _ z2
    have hp := parse_spec (ofT_fit _ z1)
    have hm := parse_spec (ofT_fit _ z2)
    have e1 : sParse (ofT ((⟨#[97]⟩ ++ ⟨#[32, 9]⟩ ++ ⟨#[126]⟩ ++ ⟨#[47, 42, 42, 47, 32, 10]⟩ : ByteArray) ++ ⟨#[46, 98]⟩)) = (combS 4, true) := by kernel_rfl
    have e2 : (sParse (ofT ((⟨#[97]⟩ ++ ⟨#[32, 9]⟩ ++ ⟨#[126]⟩ ++ ⟨#[47, 42, 42, 47, 32, 10]⟩ : ByteArray) ++ ⟨#[62]⟩))).2 = false := by kernel_rfl
    rw [e1] at hp
    rw [e2] at hm
    clear e1 e2 z1 z2
    conv => whnf
    repeat' first
      | (refine Case.not ?_; conv => whnf)
      | (refine Case.yes ?_; conv => whnf)
      | (refine Case.no ?_; conv => whnf)
      | (refine Case.isTrue (by assumption) ?_; conv => whnf)
      | (refine Case.isFalse (by assumption) ?_; conv => whnf)
      | (refine Case.decT (by assumption) ?_; conv => whnf)
      | (refine Case.decF (by assumption) ?_; conv => whnf)
      | (refine Case.decT (by omega) ?_; conv => whnf)
      | (refine Case.decF (by omega) ?_; conv => whnf)
      | (refine Case.beqT (by omega) ?_; conv => whnf)
      | (refine Case.beqF (by omega) ?_; conv => whnf)
      | (refine Case.strT (by assumption) ?_; conv => whnf)
      | (refine Case.strF (by assumption) ?_; conv => whnf)
      | (refine Case.strF (by simp only [*]; decide) ?_; conv => whnf)
      | (refine alive_spec.call rfl ?_; conv => whnf)
      | (refine Owes.mk rfl ?_; conv => whnf)
      | (refine Owes.mk (by decide +kernel) ?_; conv => whnf)
      | (refine Elem.mk 0 _ rfl rfl ?_; conv => whnf)
      | (refine Elem.mk 1 _ rfl rfl ?_; conv => whnf)
      | (refine Elem.mk 2 _ rfl rfl ?_; conv => whnf)
      | (refine Elem.mk 3 _ rfl rfl ?_; conv => whnf)
      | (refine step_kinds 2 ?hk ?_; (case hk => decide +kernel); conv => whnf)
      | (refine step_kinds 3 ?hk ?_; (case hk => decide +kernel); conv => whnf)
      | (refine Num.id (by omega) (by omega) ?_; conv => whnf)
      | (refine Case.strI (fun _ => ?_) (fun _ => ?_) <;> conv => whnf)
      | (refine Both.mk ?_ ?_ <;> conv => whnf)
      | (refine Case.dec (fun _ => ?_) (fun _ => ?_) <;> conv => whnf)
      | (refine Case.beqI (fun _ => ?_) (fun _ => ?_) <;> conv => whnf)
      | (refine Case.mk (fun _ => ?_) (fun _ => ?_) <;> conv => whnf)
    refine ho.call ?_
    conv => whnf
    refine hp.call ?_
    conv => whnf
    repeat' first
      | (refine Case.not ?_; conv => whnf)
      | (refine Case.yes ?_; conv => whnf)
      | (refine Case.no ?_; conv => whnf)
      | (refine Case.isTrue (by assumption) ?_; conv => whnf)
      | (refine Case.isFalse (by assumption) ?_; conv => whnf)
      | (refine Case.decT (by assumption) ?_; conv => whnf)
      | (refine Case.decF (by assumption) ?_; conv => whnf)
      | (refine Case.decT (by omega) ?_; conv => whnf)
      | (refine Case.decF (by omega) ?_; conv => whnf)
      | (refine Case.beqT (by omega) ?_; conv => whnf)
      | (refine Case.beqF (by omega) ?_; conv => whnf)
      | (refine Case.strT (by assumption) ?_; conv => whnf)
      | (refine Case.strF (by assumption) ?_; conv => whnf)
      | (refine Case.strF (by simp only [*]; decide) ?_; conv => whnf)
      | (refine Owes.mk (by decide +kernel) ?_; conv => whnf)
      | (refine step_kinds 2 ?hk ?_; (case hk => decide +kernel); conv => whnf)
      | (refine step_kinds 3 ?hk ?_; (case hk => decide +kernel); conv => whnf)
      | (refine Num.id (by omega) (by omega) ?_; conv => whnf)
      | (refine Case.strI (fun _ => ?_) (fun _ => ?_) <;> conv => whnf)
      | (refine Both.mk ?_ ?_ <;> conv => whnf)
      | (refine Case.dec (fun _ => ?_) (fun _ => ?_) <;> conv => whnf)
      | (refine Case.beqI (fun _ => ?_) (fun _ => ?_) <;> conv => whnf)
      | (refine Case.mk (fun _ => ?_) (fun _ => ?_) <;> conv => whnf)
    refine hn.call ?_
    conv => whnf
    refine hm.call ?_
    conv => whnf
    repeat' first
      | (refine Case.not ?_; conv => whnf)
      | (refine Case.yes ?_; conv => whnf)
      | (refine Case.no ?_; conv => whnf)
      | (refine Case.isTrue (by assumption) ?_; conv => whnf)
      | (refine Case.isFalse (by assumption) ?_; conv => whnf)
      | (refine Case.decT (by assumption) ?_; conv => whnf)
      | (refine Case.decF (by assumption) ?_; conv => whnf)
      | (refine Case.decT (by omega) ?_; conv => whnf)
      | (refine Case.decF (by omega) ?_; conv => whnf)
      | (refine Case.beqT (by omega) ?_; conv => whnf)
      | (refine Case.beqF (by omega) ?_; conv => whnf)
      | (refine Case.strT (by assumption) ?_; conv => whnf)
      | (refine Case.strF (by assumption) ?_; conv => whnf)
      | (refine Case.strF (by simp only [*]; decide) ?_; conv => whnf)
      | (refine Case.strT rfl ?_; conv => whnf)
      | (refine Owes.mk sels_row ?_; conv => whnf)
      | (refine Owes.mk parts_row ?_; conv => whnf)
      | (refine Elem.mk 0 _ rfl rfl ?_; conv => whnf)
      | (refine Elem.mk 1 _ rfl rfl ?_; conv => whnf)
      | (refine Case.isTrue (by decide) ?_; conv => whnf)
      | (refine Case.isFalse (by decide) ?_; conv => whnf)
      | (refine step_kinds 2 ?hk ?_; (case hk => decide +kernel); conv => whnf)
      | (refine step_kinds 3 ?hk ?_; (case hk => decide +kernel); conv => whnf)
      | (refine Num.id (by omega) (by omega) ?_; conv => whnf)
      | (refine Case.strI (fun _ => ?_) (fun _ => ?_) <;> conv => whnf)
      | (refine Both.mk ?_ ?_ <;> conv => whnf)
      | (refine Case.dec (fun _ => ?_) (fun _ => ?_) <;> conv => whnf)
      | (refine Case.beqI (fun _ => ?_) (fun _ => ?_) <;> conv => whnf)
      | (refine Case.mk (fun _ => ?_) (fun _ => ?_) <;> conv => whnf)
    exact Fin.isB rfl
theorem selCombs_spec (c : Int) (x y : Bool) (hw : -9223372036854775808 ≤ c ∧ c < 9223372036854775808) : Pure 8 [int c, bool x, bool y] (bool true) := by
  refine ⟨trivial, ?_⟩
  by_cases hc : c = 1 ∨ c = 2 ∨ c = 3 ∨ c = 4
  · exact selCombs_in c x y hc
  · refine spec_mk tab_ok Try.func8 (by rfl) rfl ?_
    conv => whnf
    repeat' first
      | (refine Case.not ?_; conv => whnf)
      | (refine Case.yes ?_; conv => whnf)
      | (refine Case.no ?_; conv => whnf)
      | (refine Case.isTrue (by assumption) ?_; conv => whnf)
      | (refine Case.isFalse (by assumption) ?_; conv => whnf)
      | (refine Case.decT (by assumption) ?_; conv => whnf)
      | (refine Case.decF (by assumption) ?_; conv => whnf)
      | (refine Case.decT (by omega) ?_; conv => whnf)
      | (refine Case.decF (by omega) ?_; conv => whnf)
      | (refine Case.beqT (by omega) ?_; conv => whnf)
      | (refine Case.beqF (by omega) ?_; conv => whnf)
      | (refine Case.strT (by assumption) ?_; conv => whnf)
      | (refine Case.strF (by assumption) ?_; conv => whnf)
      | (refine Case.strF (by simp only [*]; decide) ?_; conv => whnf)
      | (refine alive_spec.call rfl ?_; conv => whnf)
      | (refine step_kinds 2 ?hk ?_; (case hk => decide +kernel); conv => whnf)
      | (refine step_kinds 3 ?hk ?_; (case hk => decide +kernel); conv => whnf)
      | (refine Num.id (by omega) (by omega) ?_; conv => whnf)
      | (refine Case.strI (fun _ => ?_) (fun _ => ?_) <;> conv => whnf)
      | (refine Both.mk ?_ ?_ <;> conv => whnf)
      | (refine Case.dec (fun _ => ?_) (fun _ => ?_) <;> conv => whnf)
      | (refine Case.beqI (fun _ => ?_) (fun _ => ?_) <;> conv => whnf)
      | (refine Case.mk (fun _ => ?_) (fun _ => ?_) <;> conv => whnf)
    all_goals first
      | exact Fin.isB rfl
      | (exfalso; omega)
theorem wf64' {a : Int} (h : (Lit.int .i64 a).wf = true) : -9223372036854775808 ≤ a ∧ a < 9223372036854775808 := by
  simp only [Lit.wf, Bool.and_eq_true, decide_eq_true_eq] at h
  have e1 : IntKind.i64.min = -9223372036854775808 := by decide
  have e2 : IntKind.i64.max = 9223372036854775807 := by decide
  omega
theorem walkSelCombs (a0 : Int) (a1 a2 : Bool) (W : World) (w0 : (Lit.int .i64 a0).wf = true) : Calls Try.prog 8 #[.int .i64 a0, .bool a1, .bool a2] W fun e w' => e = .returned (.bool true) ∧ Below W.heap.size W w' :=
  calls_of_spec (selCombs_spec a0 a1 a2 (wf64' w0)).2 W [.int .i64 a0, .bool a1, .bool a2] (repL_cons (rep_val rfl) (repL_cons (rep_val rfl) (repL_cons (rep_val rfl) repL_nil)))
end Go.Proofs.Ytdfiegleaknleaa.Aw
