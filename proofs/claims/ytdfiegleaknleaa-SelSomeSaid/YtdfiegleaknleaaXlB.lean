/- SelNone, SelSome: their walks. -/
import Derived.Test.YtdfiegleaknleaaXlF
namespace Go.Proofs.Ytdfiegleaknleaa.Aw
open Go Go.RowKit Go.Lib
set_option linter.unusedVariables false
set_option linter.unusedSimpArgs false
set_option maxRecDepth 100000
theorem wf64 {a : Int} (h : (Lit.int .i64 a).wf = true) : -9223372036854775808 ≤ a ∧ a < 9223372036854775808 := by
  simp only [Lit.wf, Bool.and_eq_true, decide_eq_true_eq] at h
  have e1 : IntKind.i64.min = -9223372036854775808 := by decide
  have e2 : IntKind.i64.max = 9223372036854775807 := by decide
  omega
def noneL : List ByteArray := [⟨#[]⟩, ⟨#[32]⟩, ⟨#[44]⟩, ⟨#[97, 44]⟩, ⟨#[44, 97]⟩, ⟨#[97, 44, 44, 98]⟩, ⟨#[62, 97]⟩, ⟨#[97, 62]⟩, ⟨#[97, 62, 62, 98]⟩, ⟨#[97, 32, 43, 32, 126, 32, 98]⟩, ⟨#[46]⟩, ⟨#[46, 49]⟩, ⟨#[35]⟩, ⟨#[97, 32, 98, 32, 62]⟩, ⟨#[91]⟩, ⟨#[91, 93]⟩, ⟨#[91, 97]⟩, ⟨#[91, 97, 61]⟩, ⟨#[91, 97, 61, 93]⟩, ⟨#[91, 97, 61, 49, 93]⟩, ⟨#[91, 97, 32, 61, 32, 98, 32, 99, 93]⟩, ⟨#[91, 97, 126, 32, 61, 98, 93]⟩, ⟨#[91, 49, 61, 97, 93]⟩, ⟨#[58]⟩, ⟨#[58, 58, 97]⟩, ⟨#[58, 110, 111, 116, 104, 105, 110, 103]⟩, ⟨#[58, 114, 111, 111, 116, 40, 41]⟩, ⟨#[58, 110, 116, 104, 45, 99, 104, 105, 108, 100]⟩, ⟨#[58, 110, 116, 104, 45, 99, 104, 105, 108, 100, 40]⟩, ⟨#[58, 110, 116, 104, 45, 99, 104, 105, 108, 100, 40, 97, 41]⟩, ⟨#[58, 110, 116, 104, 45, 99, 104, 105, 108, 100, 40, 49, 32, 50, 41]⟩, ⟨#[58, 110, 111, 116]⟩, ⟨#[58, 110, 111, 116, 40, 41]⟩, ⟨#[58, 110, 111, 116, 40, 97]⟩, ⟨#[58, 110, 111, 116, 40, 97, 44, 41]⟩, ⟨#[58, 105, 115, 40, 32, 62, 32, 97, 41]⟩, ⟨#[97, 59, 98]⟩, ⟨#[97, 123, 98]⟩, ⟨#[97, 41]⟩, ⟨#[42, 97]⟩, ⟨#[97, 42]⟩, ⟨#[42, 42]⟩, ⟨#[49]⟩, ⟨#[64, 97]⟩, ⟨#[34, 97, 34]⟩, ⟨#[97, 47, 98]⟩, ⟨#[33]⟩, ⟨#[97, 124, 98]⟩, ⟨#[40, 97, 41]⟩]
def noneB (b : ByteArray) : Bool := decide (b.size < 1000000) && fitB (ofT b) && (match sParse (ofT b) with | (l, k) => l.isEmpty && !k)
theorem none_all : noneL.all noneB = true := by kernel_rfl
set_option maxHeartbeats 2000000 in
theorem selNone_spec (w : Int) (hw : -9223372036854775808 ≤ w ∧ w < 9223372036854775808) : Pure 9 [int w] (bool true) := by
  have hlen : (strsB noneL).length = 49 := rfl
  refine ⟨trivial, spec_mk tab_ok Try.func9 (by rfl) rfl ?_⟩
  conv => whnf
  repeat' first
    | (refine Case.not ?_; conv => whnf)
    | (refine Case.yes ?_; conv => whnf)
    | (refine Case.no ?_; conv => whnf)
    | (refine Case.isTrue (by assumption) ?_; conv => whnf)
    | (refine Case.isFalse (by assumption) ?_; conv => whnf)
    | (refine Case.decT (by assumption) ?_; conv => whnf)
    | (refine Case.decF (by assumption) ?_; conv => whnf)
    | (refine Case.decT (by omega) ?_; conv => whnf)
    | (refine Case.decF (by omega) ?_; conv => whnf)
    | (refine Case.beqT (by omega) ?_; conv => whnf)
    | (refine Case.beqF (by omega) ?_; conv => whnf)
    | (refine Case.strT (by assumption) ?_; conv => whnf)
    | (refine Case.strF (by assumption) ?_; conv => whnf)
    | (refine Case.strF (by simp only [*]; decide) ?_; conv => whnf)
    | (refine alive_spec.call rfl ?_; conv => whnf)
    | (refine step_kinds 2 ?hk ?_; (case hk => decide +kernel); conv => whnf)
    | (refine step_kinds 3 ?hk ?_; (case hk => decide +kernel); conv => whnf)
    | (refine Num.id (by omega) (by omega) ?_; conv => whnf)
    | (refine Case.strI (fun _ => ?_) (fun _ => ?_) <;> conv => whnf)
    | (refine Both.mk ?_ ?_ <;> conv => whnf)
    | (refine Case.dec (fun _ => ?_) (fun _ => ?_) <;> conv => whnf)
    | (refine Case.beqI (fun _ => ?_) (fun _ => ?_) <;> conv => whnf)
    | (refine Case.mk (fun _ => ?_) (fun _ => ?_) <;> conv => whnf)
  · exact Fin.isB rfl
  · exact Fin.isB rfl
  · rename_i h1 h2
    have h2' : ¬ w ≥ 49 := h2
    obtain ⟨n, rfl⟩ : ∃ n : Nat, w = n := ⟨w.toNat, by omega⟩
    have hn : n < 49 := by omega
    obtain ⟨b, hb⟩ : ∃ b, noneL[n]? = some b := ⟨_, List.getElem?_eq_getElem hn⟩
    have hc := List.all_eq_true.1 none_all b (List.mem_of_getElem? hb)
    simp only [noneB, Bool.and_eq_true, decide_eq_true_eq] at hc
    obtain ⟨⟨z1, z2⟩, z3⟩ := hc
    have ho := of_spec b z1
    have hp := parse_spec (fit_of z2)
    rcases hr : sParse (ofT b) with ⟨l, k⟩
    simp only [hr] at z3 hp
    cases k with
    | true => simp at z3
    | false =>
      have hl : l = [] := by simpa using z3
      subst hl
      have hx := strsB_get hb
      rw [← Int.toNat_natCast n] at hx
      simp only [strsB, noneL, List.map_cons, List.map_nil] at hx
      refine Owes.mk rfl (Elem.mk n _ rfl (strsB_get hb) ?_)
      conv => whnf
      rw [hx]
      conv => whnf
      repeat' first
        | (refine Case.not ?_; conv => whnf)
        | (refine Case.yes ?_; conv => whnf)
        | (refine Case.no ?_; conv => whnf)
        | (refine Case.isTrue (by assumption) ?_; conv => whnf)
        | (refine Case.isFalse (by assumption) ?_; conv => whnf)
        | (refine Case.decT (by assumption) ?_; conv => whnf)
        | (refine Case.decF (by assumption) ?_; conv => whnf)
        | (refine Case.decT (by omega) ?_; conv => whnf)
        | (refine Case.decF (by omega) ?_; conv => whnf)
        | (refine Case.beqT (by omega) ?_; conv => whnf)
        | (refine Case.beqF (by omega) ?_; conv => whnf)
        | (refine Case.strT (by assumption) ?_; conv => whnf)
        | (refine Case.strF (by assumption) ?_; conv => whnf)
        | (refine Case.strF (by simp only [*]; decide) ?_; conv => whnf)
        | (refine ho.call ?_; conv => whnf)
        | (refine hp.call ?_; conv => whnf)
        | (refine Case.isTrue (by decide) ?_; conv => whnf)
        | (refine step_kinds 2 ?hk ?_; (case hk => decide +kernel); conv => whnf)
        | (refine step_kinds 3 ?hk ?_; (case hk => decide +kernel); conv => whnf)
        | (refine Num.id (by omega) (by omega) ?_; conv => whnf)
        | (refine Case.strI (fun _ => ?_) (fun _ => ?_) <;> conv => whnf)
        | (refine Both.mk ?_ ?_ <;> conv => whnf)
        | (refine Case.dec (fun _ => ?_) (fun _ => ?_) <;> conv => whnf)
        | (refine Case.beqI (fun _ => ?_) (fun _ => ?_) <;> conv => whnf)
        | (refine Case.mk (fun _ => ?_) (fun _ => ?_) <;> conv => whnf)
      exact Fin.isB rfl
theorem walkSelNone (a0 : Int) (W : World) (w0 : (Lit.int .i64 a0).wf = true) : Calls Try.prog 9 #[.int .i64 a0] W fun e w' => e = .returned (.bool true) ∧ Below W.heap.size W w' :=
  calls_of_spec (selNone_spec a0 (wf64 w0)).2 W [.int .i64 a0] (repL_cons (rep_val rfl) repL_nil)
def someL : List ByteArray := [⟨#[97]⟩, ⟨#[42]⟩, ⟨#[32, 97, 32]⟩, ⟨#[97, 32, 98]⟩, ⟨#[97, 62, 98]⟩, ⟨#[97, 32, 62, 32, 98, 32, 43, 32, 99, 32, 126, 32, 100]⟩, ⟨#[97, 46, 98, 46, 99, 35, 100, 35, 101]⟩, ⟨#[91, 97, 93]⟩, ⟨#[91, 32, 97, 32, 61, 32, 39, 98, 32, 99, 39, 32, 93]⟩, ⟨#[91, 97, 124, 61, 98, 93, 91, 99, 94, 61, 34, 34, 93]⟩, ⟨#[58, 114, 111, 111, 116]⟩, ⟨#[58, 70, 73, 82, 83, 84, 45, 67, 72, 73, 76, 68]⟩, ⟨#[58, 110, 116, 104, 45, 99, 104, 105, 108, 100, 40, 32, 45, 51, 32, 41]⟩, ⟨#[58, 110, 111, 116, 40, 97, 32, 98, 44, 32, 58, 105, 115, 40, 99, 32, 62, 32, 100, 41, 41]⟩, ⟨#[97, 44, 98, 32, 44, 32, 99]⟩, ⟨#[46, 97, 46, 98, 32, 46, 99]⟩, ⟨#[97, 47, 42, 42, 47, 98]⟩, ⟨#[97, 47, 42, 42, 47, 32, 47, 42, 42, 47, 98]⟩, ⟨#[92, 54, 49, 32, 98]⟩, ⟨#[97, 92, 32, 98]⟩]
def partsL : List Int := [1, 1, 1, 2, 2, 4, 1, 1, 1, 1, 1, 1, 1, 1, 1, 2, 0, 2, 1, 1]
def someB (i : Nat) : Bool := match someL[i]?, partsL[i]? with
  | some b, some p => decide (b.size < 1000000) && fitB (ofT b) && (match sParse (ofT b) with
    | (l, k) => if p = 0 then !k else k && decide ((l.length : Int) = if i = 14 then 3 else 1) && (match l with
      | [] => false
      | s :: _ => decide ((s.length : Int) = p)))
  | _, _ => false
theorem some_all : (List.range 20).all someB = true := by kernel_rfl
set_option maxHeartbeats 2000000 in
theorem selSome_spec (w : Int) (hw : -9223372036854775808 ≤ w ∧ w < 9223372036854775808) : Pure 10 [int w] (bool true) := by
  refine ⟨trivial, spec_mk tab_ok Try.func10 (by rfl) rfl ?_⟩
  conv => whnf
  repeat' first
    | (refine Case.not ?_; conv => whnf)
    | (refine Case.yes ?_; conv => whnf)
    | (refine Case.no ?_; conv => whnf)
    | (refine Case.isTrue (by assumption) ?_; conv => whnf)
    | (refine Case.isFalse (by assumption) ?_; conv => whnf)
    | (refine Case.decT (by assumption) ?_; conv => whnf)
    | (refine Case.decF (by assumption) ?_; conv => whnf)
    | (refine Case.decT (by omega) ?_; conv => whnf)
    | (refine Case.decF (by omega) ?_; conv => whnf)
    | (refine Case.beqT (by omega) ?_; conv => whnf)
    | (refine Case.beqF (by omega) ?_; conv => whnf)
    | (refine Case.strT (by assumption) ?_; conv => whnf)
    | (refine Case.strF (by assumption) ?_; conv => whnf)
    | (refine Case.strF (by simp only [*]; decide) ?_; conv => whnf)
    | (refine alive_spec.call rfl ?_; conv => whnf)
    | (refine step_kinds 2 ?hk ?_; (case hk => decide +kernel); conv => whnf)
    | (refine step_kinds 3 ?hk ?_; (case hk => decide +kernel); conv => whnf)
    | (refine Num.id (by omega) (by omega) ?_; conv => whnf)
    | (refine Case.strI (fun _ => ?_) (fun _ => ?_) <;> conv => whnf)
    | (refine Both.mk ?_ ?_ <;> conv => whnf)
    | (refine Case.dec (fun _ => ?_) (fun _ => ?_) <;> conv => whnf)
    | (refine Case.beqI (fun _ => ?_) (fun _ => ?_) <;> conv => whnf)
    | (refine Case.mk (fun _ => ?_) (fun _ => ?_) <;> conv => whnf)
  · exact Fin.isB rfl
  · exact Fin.isB rfl
  · rename_i h1 h2
    have h2' : ¬ w ≥ 20 := h2
    obtain ⟨n, rfl⟩ : ∃ n : Nat, w = n := ⟨w.toNat, by omega⟩
    have hn : n < 20 := by omega
    have hc := List.all_eq_true.1 some_all n (by simp [hn])
    obtain ⟨b, hb⟩ : ∃ b, someL[n]? = some b := ⟨_, List.getElem?_eq_getElem hn⟩
    obtain ⟨p, hpn⟩ : ∃ p, partsL[n]? = some p := ⟨_, List.getElem?_eq_getElem hn⟩
    unfold someB at hc
    rw [hb, hpn] at hc
    simp only [Bool.and_eq_true, decide_eq_true_eq] at hc
    obtain ⟨⟨z1, z2⟩, z3⟩ := hc
    have ho := of_spec b z1
    have hp := parse_spec (fit_of z2)
    rcases hr : sParse (ofT b) with ⟨l, k⟩
    simp only [hr] at z3 hp
    have l1 : (l.map selRow).length = l.length := List.length_map ..
    have hy := ptsF_get hpn
    rw [← Int.toNat_natCast n] at hy
    simp only [ptsF, partsL, List.map_cons, List.map_nil] at hy
    have hx := strsB_get hb
    rw [← Int.toNat_natCast n] at hx
    simp only [strsB, someL, List.map_cons, List.map_nil] at hx
    refine Owes.mk rfl (Elem.mk n _ rfl (strsB_get hb) ?_)
    conv => whnf
    rw [hx]
    conv => whnf
    repeat' first
      | (refine Case.not ?_; conv => whnf)
      | (refine Case.yes ?_; conv => whnf)
      | (refine Case.no ?_; conv => whnf)
      | (refine Case.isTrue (by assumption) ?_; conv => whnf)
      | (refine Case.isFalse (by assumption) ?_; conv => whnf)
      | (refine Case.decT (by assumption) ?_; conv => whnf)
      | (refine Case.decF (by assumption) ?_; conv => whnf)
      | (refine Case.decT (by omega) ?_; conv => whnf)
      | (refine Case.decF (by omega) ?_; conv => whnf)
      | (refine Case.beqT (by omega) ?_; conv => whnf)
      | (refine Case.beqF (by omega) ?_; conv => whnf)
      | (refine Case.strT (by assumption) ?_; conv => whnf)
      | (refine Case.strF (by assumption) ?_; conv => whnf)
      | (refine Case.strF (by simp only [*]; decide) ?_; conv => whnf)
      | (refine ho.call ?_; conv => whnf)
      | (refine hp.call ?_; conv => whnf)
      | (refine step_kinds 2 ?hk ?_; (case hk => decide +kernel); conv => whnf)
      | (refine step_kinds 3 ?hk ?_; (case hk => decide +kernel); conv => whnf)
      | (refine Num.id (by omega) (by omega) ?_; conv => whnf)
      | (refine Case.strI (fun _ => ?_) (fun _ => ?_) <;> conv => whnf)
      | (refine Both.mk ?_ ?_ <;> conv => whnf)
      | (refine Case.dec (fun _ => ?_) (fun _ => ?_) <;> conv => whnf)
      | (refine Case.beqI (fun _ => ?_) (fun _ => ?_) <;> conv => whnf)
      | (refine Case.mk (fun _ => ?_) (fun _ => ?_) <;> conv => whnf)
    refine Owes.mk rfl (Elem.mk n _ rfl (ptsF_get hpn) ?_)
    conv => whnf
    rw [hy]
    conv => whnf
    by_cases hp0 : p = 0
    · rw [if_pos hp0] at z3
      have hk : k = false := by simpa using z3
      subst hk
      repeat' first
        | (refine Case.not ?_; conv => whnf)
        | (refine Case.yes ?_; conv => whnf)
        | (refine Case.no ?_; conv => whnf)
        | (refine Case.isTrue (by assumption) ?_; conv => whnf)
        | (refine Case.isFalse (by assumption) ?_; conv => whnf)
        | (refine Case.decT (by assumption) ?_; conv => whnf)
        | (refine Case.decF (by assumption) ?_; conv => whnf)
        | (refine Case.decT (by omega) ?_; conv => whnf)
        | (refine Case.decF (by omega) ?_; conv => whnf)
        | (refine Case.beqT (by omega) ?_; conv => whnf)
        | (refine Case.beqF (by omega) ?_; conv => whnf)
        | (refine Case.strT (by assumption) ?_; conv => whnf)
        | (refine Case.strF (by assumption) ?_; conv => whnf)
        | (refine Case.strF (by simp only [*]; decide) ?_; conv => whnf)
        | (refine hp.call ?_; conv => whnf)
        | (refine step_kinds 2 ?hk ?_; (case hk => decide +kernel); conv => whnf)
        | (refine step_kinds 3 ?hk ?_; (case hk => decide +kernel); conv => whnf)
        | (refine Num.id (by omega) (by omega) ?_; conv => whnf)
        | (refine Case.strI (fun _ => ?_) (fun _ => ?_) <;> conv => whnf)
        | (refine Both.mk ?_ ?_ <;> conv => whnf)
        | (refine Case.dec (fun _ => ?_) (fun _ => ?_) <;> conv => whnf)
        | (refine Case.beqI (fun _ => ?_) (fun _ => ?_) <;> conv => whnf)
        | (refine Case.mk (fun _ => ?_) (fun _ => ?_) <;> conv => whnf)
      exact Fin.isB rfl
    · rw [if_neg hp0] at z3
      simp only [Bool.and_eq_true, decide_eq_true_eq] at z3
      obtain ⟨⟨hk, hl⟩, hm⟩ := z3
      subst hk
      rcases l with _ | ⟨s, l'⟩
      · simp at hm
      · simp only [decide_eq_true_eq] at hm
        have l2 : (s.map partRow).length = s.length := List.length_map ..
        have hl' : (n = 14 ∧ (((s :: l').map selRow).length : Int) = 3) ∨ (¬ n = 14 ∧ (((s :: l').map selRow).length : Int) = 1) := by
          rw [l1]
          by_cases h14 : n = 14
          · rw [if_pos h14] at hl; exact .inl ⟨h14, hl⟩
          · rw [if_neg h14] at hl; exact .inr ⟨h14, hl⟩
        repeat' first
          | (refine Case.not ?_; conv => whnf)
          | (refine Case.yes ?_; conv => whnf)
          | (refine Case.no ?_; conv => whnf)
          | (refine Case.isTrue (by assumption) ?_; conv => whnf)
          | (refine Case.isFalse (by assumption) ?_; conv => whnf)
          | (refine Case.decT (by assumption) ?_; conv => whnf)
          | (refine Case.decF (by assumption) ?_; conv => whnf)
          | (refine Case.decT (by omega) ?_; conv => whnf)
          | (refine Case.decF (by omega) ?_; conv => whnf)
          | (refine Case.beqT (by omega) ?_; conv => whnf)
          | (refine Case.beqF (by omega) ?_; conv => whnf)
          | (refine Case.strT (by assumption) ?_; conv => whnf)
          | (refine Case.strF (by assumption) ?_; conv => whnf)
          | (refine Case.strF (by simp only [*]; decide) ?_; conv => whnf)
          | (refine Owes.mk sels_row ?_; conv => whnf)
          | (refine Elem.mk 0 _ rfl rfl ?_; conv => whnf)
          | (refine step_kinds 2 ?hk ?_; (case hk => decide +kernel); conv => whnf)
          | (refine step_kinds 3 ?hk ?_; (case hk => decide +kernel); conv => whnf)
          | (refine Num.id (by omega) (by omega) ?_; conv => whnf)
          | (refine Case.strI (fun _ => ?_) (fun _ => ?_) <;> conv => whnf)
          | (refine Both.mk ?_ ?_ <;> conv => whnf)
          | (refine Case.dec (fun _ => ?_) (fun _ => ?_) <;> conv => whnf)
          | (refine Case.beqI (fun _ => ?_) (fun _ => ?_) <;> conv => whnf)
          | (refine Case.mk (fun _ => ?_) (fun _ => ?_) <;> conv => whnf)
        all_goals refine Owes.mk rfl (Elem.mk n _ rfl (ptsF_get hpn) ?_)
        all_goals conv => whnf
        all_goals
          repeat' first
            | (refine Case.not ?_; conv => whnf)
            | (refine Case.yes ?_; conv => whnf)
            | (refine Case.no ?_; conv => whnf)
            | (refine Case.isTrue (by assumption) ?_; conv => whnf)
            | (refine Case.isFalse (by assumption) ?_; conv => whnf)
            | (refine Case.decT (by assumption) ?_; conv => whnf)
            | (refine Case.decF (by assumption) ?_; conv => whnf)
            | (refine Case.decT (by omega) ?_; conv => whnf)
            | (refine Case.decF (by omega) ?_; conv => whnf)
            | (refine Case.beqT (by omega) ?_; conv => whnf)
            | (refine Case.beqF (by omega) ?_; conv => whnf)
            | (refine Case.strT (by assumption) ?_; conv => whnf)
            | (refine Case.strF (by assumption) ?_; conv => whnf)
            | (refine Case.strF (by simp only [*]; decide) ?_; conv => whnf)
            | (refine step_kinds 2 ?hk ?_; (case hk => decide +kernel); conv => whnf)
            | (refine step_kinds 3 ?hk ?_; (case hk => decide +kernel); conv => whnf)
            | (refine Num.id (by omega) (by omega) ?_; conv => whnf)
            | (refine Case.strI (fun _ => ?_) (fun _ => ?_) <;> conv => whnf)
            | (refine Both.mk ?_ ?_ <;> conv => whnf)
            | (refine Case.dec (fun _ => ?_) (fun _ => ?_) <;> conv => whnf)
            | (refine Case.beqI (fun _ => ?_) (fun _ => ?_) <;> conv => whnf)
            | (refine Case.mk (fun _ => ?_) (fun _ => ?_) <;> conv => whnf)
        all_goals first
          | (exfalso; omega)
          | skip
        all_goals rw [hy]
        all_goals conv => whnf
        all_goals
          repeat' first
            | (refine Case.not ?_; conv => whnf)
            | (refine Case.yes ?_; conv => whnf)
            | (refine Case.no ?_; conv => whnf)
            | (refine Case.isTrue (by assumption) ?_; conv => whnf)
            | (refine Case.isFalse (by assumption) ?_; conv => whnf)
            | (refine Case.decT (by assumption) ?_; conv => whnf)
            | (refine Case.decF (by assumption) ?_; conv => whnf)
            | (refine Case.decT (by omega) ?_; conv => whnf)
            | (refine Case.decF (by omega) ?_; conv => whnf)
            | (refine Case.beqT (by omega) ?_; conv => whnf)
            | (refine Case.beqF (by omega) ?_; conv => whnf)
            | (refine Case.strT (by assumption) ?_; conv => whnf)
            | (refine Case.strF (by assumption) ?_; conv => whnf)
            | (refine Case.strF (by simp only [*]; decide) ?_; conv => whnf)
            | (refine Owes.mk sels_row ?_; conv => whnf)
            | (refine Elem.mk 0 _ rfl rfl ?_; conv => whnf)
            | (refine step_kinds 2 ?hk ?_; (case hk => decide +kernel); conv => whnf)
            | (refine step_kinds 3 ?hk ?_; (case hk => decide +kernel); conv => whnf)
            | (refine Num.id (by omega) (by omega) ?_; conv => whnf)
            | (refine Case.strI (fun _ => ?_) (fun _ => ?_) <;> conv => whnf)
            | (refine Both.mk ?_ ?_ <;> conv => whnf)
            | (refine Case.dec (fun _ => ?_) (fun _ => ?_) <;> conv => whnf)
            | (refine Case.beqI (fun _ => ?_) (fun _ => ?_) <;> conv => whnf)
            | (refine Case.mk (fun _ => ?_) (fun _ => ?_) <;> conv => whnf)
        all_goals first
          | exact Fin.isB (by rw [l2, hm]; simp)
          | (exfalso; omega)
theorem walkSelSome (a0 : Int) (W : World) (w0 : (Lit.int .i64 a0).wf = true) : Calls Try.prog 10 #[.int .i64 a0] W fun e w' => e = .returned (.bool true) ∧ Below W.heap.size W w' :=
  calls_of_spec (selSome_spec a0 (wf64 w0)).2 W [.int .i64 a0] (repL_cons (rep_val rfl) repL_nil)
end Go.Proofs.Ytdfiegleaknleaa.Aw
