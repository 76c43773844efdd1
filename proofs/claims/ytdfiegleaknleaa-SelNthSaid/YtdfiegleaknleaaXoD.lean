/- SelNth: its walk. -/
import Derived.Test.YtdfiegleaknleaaXoC
import Derived.Test.YtdfiegleaknleaaXzB
import Derived.Test.YtdfiegleaknleaaXlC
import Derived.Test.YtdfiegleaknleaaAwVD
namespace Go.Proofs.Ytdfiegleaknleaa.Aw
open Go Go.RowKit Go.Lib
set_option linter.unusedVariables false
set_option linter.unusedSimpArgs false
set_option maxRecDepth 100000
def sgI (neg : Bool) (w : Nat) : Int := if neg then -(w : Int) else w
theorem p6 : (10 : Nat) ^ (5 + 1) = 1000000 := by decide
theorem dec_len6 {w : Nat} (h : w ≤ 100000) : (Lib.decDigits w).length ≤ 6 := dec_len' 5 w (by rw [p6]; omega)
theorem rint_spec (neg : Bool) (w : Nat) (hw : w ≤ 100000) (h0 : neg = true → 0 < w) : Pure 19 [int (sgI neg w)] (.str ⟨(sgB neg ++ Lib.decDigits w).toArray⟩) := by
  have hd := digits_spec 5 w (by rw [p6]; omega) (by omega)
  have hl := dec_len6 hw
  have hz : (⟨(Lib.decDigits w).toArray⟩ : ByteArray).size = (Lib.decDigits w).length := rfl
  have e0 : (⟨#[45]⟩ : ByteArray) ++ ⟨(Lib.decDigits w).toArray⟩ = ⟨(sgB true ++ Lib.decDigits w).toArray⟩ := by
    apply ByteArray.ext
    apply Array.ext'
    simp [sgB]
  refine .mk trivial (spec_mk tab_ok Try.func19 (by rfl) rfl ?_)
  cases neg with
  | true =>
    have h1 := h0 rfl
    have e : sgI true w = -(w : Int) := rfl
    rw [show (w : Int) = 0 - -(w : Int) by omega] at hd
    rw [e]
    conv => whnf
    repeat' first
      | (refine Case.not ?_; conv => whnf)
      | (refine Case.yes ?_; conv => whnf)
      | (refine Case.no ?_; conv => whnf)
      | (refine Case.isTrue (by with_reducible assumption) ?_; conv => whnf)
      | (refine Case.isFalse (by with_reducible assumption) ?_; conv => whnf)
      | (refine Case.decT (by with_reducible assumption) ?_; conv => whnf)
      | (refine Case.decF (by with_reducible assumption) ?_; conv => whnf)
      | (refine Case.decT (by omega) ?_; conv => whnf)
      | (refine Case.decF (by omega) ?_; conv => whnf)
      | (refine Case.beqT (by omega) ?_; conv => whnf)
      | (refine Case.beqF (by omega) ?_; conv => whnf)
      | (refine hd.call ⟨rfl, rfl⟩ ?_; conv => whnf)
      | (refine hd.callB ⟨rfl, rfl⟩ ?_; conv => whnf)
      | (refine Owes.mk (by rw [hz]; show 1 + _ ≤ _; omega) ?_; conv => whnf)
      | (refine Num.id (by omega) (by omega) ?_; conv => whnf)
      | (refine Case.dec (fun _ => ?_) (fun _ => ?_) <;> conv => whnf)
      | (refine Case.beqI (fun _ => ?_) (fun _ => ?_) <;> conv => whnf)
      | (refine Case.mk (fun _ => ?_) (fun _ => ?_) <;> conv => whnf)
      | (refine Way.fst ?_; conv => whnf)
    all_goals exact Fin.scal trivial ⟨rfl, by rw [e0]⟩
  | false =>
    have e : sgI false w = (w : Int) := rfl
    rw [e]
    conv => whnf
    repeat' first
      | (refine Case.not ?_; conv => whnf)
      | (refine Case.yes ?_; conv => whnf)
      | (refine Case.no ?_; conv => whnf)
      | (refine Case.isTrue (by with_reducible assumption) ?_; conv => whnf)
      | (refine Case.isFalse (by with_reducible assumption) ?_; conv => whnf)
      | (refine Case.decT (by with_reducible assumption) ?_; conv => whnf)
      | (refine Case.decF (by with_reducible assumption) ?_; conv => whnf)
      | (refine Case.decT (by omega) ?_; conv => whnf)
      | (refine Case.decF (by omega) ?_; conv => whnf)
      | (refine Case.beqT (by omega) ?_; conv => whnf)
      | (refine Case.beqF (by omega) ?_; conv => whnf)
      | (refine hd.call ⟨rfl, rfl⟩ ?_; conv => whnf)
      | (refine hd.callB ⟨rfl, rfl⟩ ?_; conv => whnf)
      | (refine Num.id (by omega) (by omega) ?_; conv => whnf)
      | (refine Case.dec (fun _ => ?_) (fun _ => ?_) <;> conv => whnf)
      | (refine Case.beqI (fun _ => ?_) (fun _ => ?_) <;> conv => whnf)
      | (refine Case.mk (fun _ => ?_) (fun _ => ?_) <;> conv => whnf)
      | (refine Way.fst ?_; conv => whnf)
    exact Fin.scal trivial ⟨rfl, rfl⟩
theorem sgX {neg : Bool} {w : Nat} (hw : w ≤ 100000) : (sgB neg ++ Lib.decDigits w).length ≤ 7 := by
  have := dec_len6 hw
  cases neg <;> simp [sgB] <;> omega
theorem app3 (b : List UInt8) : ((⟨#[58, 78, 84, 72, 45, 99, 104, 105, 108, 100, 40, 32]⟩ ++ ⟨b.toArray⟩ ++ ⟨#[32, 41]⟩ : ByteArray)).data.toList = 58 :: nthU ++ [40, 32] ++ b ++ [32, 41] := by simp [nthU]
theorem app4 (b : List UInt8) : ((⟨#[58, 110, 116, 104, 45, 99, 104, 105, 108, 100, 40]⟩ ++ ⟨b.toArray⟩ ++ ⟨#[46, 53, 41]⟩ : ByteArray)).data.toList = 58 :: nthL ++ [40] ++ (b ++ [46, 53]) ++ [41] := by simp [nthL]
set_option maxHeartbeats 4000000 in
theorem selNth_in (neg : Bool) (w : Nat) (hw : w ≤ 100000) (h0 : neg = true → 0 < w) (which : Int) : Pure 7 [int (sgI neg w), int which] (bool true) := by
  have hi := rint_spec neg w hw h0
  have hx := sgX (neg := neg) hw
  have hsg : -100000 ≤ sgI neg w ∧ sgI neg w ≤ 100000 := by unfold sgI; cases neg <;> simp <;> omega
  have hdiv := numN_div neg w
  have hsz : (⟨(sgB neg ++ Lib.decDigits w).toArray⟩ : ByteArray).size = (sgB neg ++ Lib.decDigits w).length := rfl
  refine ⟨trivial, spec_mk tab_ok Try.func7 (by rfl) rfl ?_⟩
  generalize hn : sgI neg w = n at *
  by_cases hk : which = 0
  · subst hk
    have ht := nth_toks neg w (by omega) (⟨#[58, 78, 84, 72, 45, 99, 104, 105, 108, 100, 40, 32]⟩ ++ ⟨(sgB neg ++ Lib.decDigits w).toArray⟩ ++ ⟨#[32, 41]⟩) (app3 _)
    have z1 : (⟨#[58, 78, 84, 72, 45, 99, 104, 105, 108, 100, 40, 32]⟩ ++ ⟨(sgB neg ++ Lib.decDigits w).toArray⟩ ++ ⟨#[32, 41]⟩ : ByteArray).size < 1000000 := by
      simp only [ByteArray.size_append, hsz]
      show (12 + _) + 2 < _
      omega
    have ho := of_spec _ z1
    have hp := parse_spec (ofT_fit _ z1)
    rw [ht] at ho hp
    rw [nth_parse, hdiv, show (if neg = true then -(w : Int) else w) = n from hn] at hp
    clear z1 ht
    conv => whnf
    repeat' first
      | (refine Case.not ?_; conv => whnf)
      | (refine Case.yes ?_; conv => whnf)
      | (refine Case.no ?_; conv => whnf)
      | (refine Case.isTrue (by with_reducible assumption) ?_; conv => whnf)
      | (refine Case.isFalse (by with_reducible assumption) ?_; conv => whnf)
      | (refine Case.decT (by with_reducible assumption) ?_; conv => whnf)
      | (refine Case.decF (by with_reducible assumption) ?_; conv => whnf)
      | (refine Case.decT (by omega) ?_; conv => whnf)
      | (refine Case.decF (by omega) ?_; conv => whnf)
      | (refine Case.beqT (by omega) ?_; conv => whnf)
      | (refine Case.beqF (by omega) ?_; conv => whnf)
      | (refine alive_spec.call rfl ?_; conv => whnf)
      | (refine hi.call ⟨rfl, rfl⟩ ?_; conv => whnf)
      | (refine Owes.mk (by rw [hsz]; show 12 + _ ≤ _; omega) ?_; conv => whnf)
      | (refine Owes.mk (by simp only [ByteArray.size_append, hsz]; show 12 + _ + 2 ≤ _; omega) ?_; conv => whnf)
      | (refine ho.call ?_; conv => whnf)
      | (refine hp.call ?_; conv => whnf)
      | (refine Owes.mk sels_row ?_; conv => whnf)
      | (refine Owes.mk parts_row ?_; conv => whnf)
      | (refine Owes.mk pss_row ?_; conv => whnf)
      | (refine Elem.mk 0 _ rfl rfl ?_; conv => whnf)
      | (refine Case.isTrue (by decide) ?_; conv => whnf)
      | (refine Case.isFalse (by decide) ?_; conv => whnf)
      | (refine Num.id (by omega) (by omega) ?_; conv => whnf)
      | (refine Case.dec (fun _ => ?_) (fun _ => ?_) <;> conv => whnf)
      | (refine Case.beqI (fun _ => ?_) (fun _ => ?_) <;> conv => whnf)
      | (refine Case.mk (fun _ => ?_) (fun _ => ?_) <;> conv => whnf)
      | (refine Way.fst ?_; conv => whnf)
    all_goals first
      | exact Fin.isB rfl
      | (exfalso; rename_i hh; exact hh rfl)
  by_cases hk1 : which = 1
  · subst hk1
    have ho := of_spec oddX (by decide)
    have hp := parse_spec (ofT_fit oddX (by decide))
    rw [odd_parse] at hp
    conv => whnf
    repeat' first
      | (refine Case.not ?_; conv => whnf)
      | (refine Case.yes ?_; conv => whnf)
      | (refine Case.no ?_; conv => whnf)
      | (refine Case.isTrue (by with_reducible assumption) ?_; conv => whnf)
      | (refine Case.isFalse (by with_reducible assumption) ?_; conv => whnf)
      | (refine Case.decT (by with_reducible assumption) ?_; conv => whnf)
      | (refine Case.decF (by with_reducible assumption) ?_; conv => whnf)
      | (refine Case.decT (by omega) ?_; conv => whnf)
      | (refine Case.decF (by omega) ?_; conv => whnf)
      | (refine Case.beqT (by omega) ?_; conv => whnf)
      | (refine Case.beqF (by omega) ?_; conv => whnf)
      | (refine alive_spec.call rfl ?_; conv => whnf)
      | (refine hi.call ⟨rfl, rfl⟩ ?_; conv => whnf)
      | (refine ho.call ?_; conv => whnf)
      | (refine hp.call ?_; conv => whnf)
      | (refine Owes.mk (by decide) ?_; conv => whnf)
      | (refine Owes.mk sels_row ?_; conv => whnf)
      | (refine Owes.mk parts_row ?_; conv => whnf)
      | (refine Owes.mk pss_row ?_; conv => whnf)
      | (refine Elem.mk 0 _ rfl rfl ?_; conv => whnf)
      | (refine Case.isTrue (by decide) ?_; conv => whnf)
      | (refine Case.isFalse (by decide) ?_; conv => whnf)
      | (refine Num.id (by omega) (by omega) ?_; conv => whnf)
      | (refine Case.dec (fun _ => ?_) (fun _ => ?_) <;> conv => whnf)
      | (refine Case.beqI (fun _ => ?_) (fun _ => ?_) <;> conv => whnf)
      | (refine Case.mk (fun _ => ?_) (fun _ => ?_) <;> conv => whnf)
      | (refine Way.fst ?_; conv => whnf)
    all_goals first
      | exact Fin.isB rfl
      | (exfalso; rename_i hh; exact hh rfl)
  by_cases hk2 : which = 2
  · subst hk2
    have ho := of_spec evenX (by decide)
    have hp := parse_spec (ofT_fit evenX (by decide))
    rw [even_parse] at hp
    conv => whnf
    repeat' first
      | (refine Case.not ?_; conv => whnf)
      | (refine Case.yes ?_; conv => whnf)
      | (refine Case.no ?_; conv => whnf)
      | (refine Case.isTrue (by with_reducible assumption) ?_; conv => whnf)
      | (refine Case.isFalse (by with_reducible assumption) ?_; conv => whnf)
      | (refine Case.decT (by with_reducible assumption) ?_; conv => whnf)
      | (refine Case.decF (by with_reducible assumption) ?_; conv => whnf)
      | (refine Case.decT (by omega) ?_; conv => whnf)
      | (refine Case.decF (by omega) ?_; conv => whnf)
      | (refine Case.beqT (by omega) ?_; conv => whnf)
      | (refine Case.beqF (by omega) ?_; conv => whnf)
      | (refine alive_spec.call rfl ?_; conv => whnf)
      | (refine hi.call ⟨rfl, rfl⟩ ?_; conv => whnf)
      | (refine ho.call ?_; conv => whnf)
      | (refine hp.call ?_; conv => whnf)
      | (refine Owes.mk (by decide) ?_; conv => whnf)
      | (refine Owes.mk sels_row ?_; conv => whnf)
      | (refine Owes.mk parts_row ?_; conv => whnf)
      | (refine Owes.mk pss_row ?_; conv => whnf)
      | (refine Elem.mk 0 _ rfl rfl ?_; conv => whnf)
      | (refine Case.isTrue (by decide) ?_; conv => whnf)
      | (refine Case.isFalse (by decide) ?_; conv => whnf)
      | (refine Num.id (by omega) (by omega) ?_; conv => whnf)
      | (refine Case.dec (fun _ => ?_) (fun _ => ?_) <;> conv => whnf)
      | (refine Case.beqI (fun _ => ?_) (fun _ => ?_) <;> conv => whnf)
      | (refine Case.mk (fun _ => ?_) (fun _ => ?_) <;> conv => whnf)
      | (refine Way.fst ?_; conv => whnf)
    all_goals first
      | exact Fin.isB rfl
      | (exfalso; rename_i hh; exact hh rfl)
  by_cases hk3 : which = 3
  · subst hk3
    obtain ⟨v, ht⟩ := nth_half neg w (⟨#[58, 110, 116, 104, 45, 99, 104, 105, 108, 100, 40]⟩ ++ ⟨(sgB neg ++ Lib.decDigits w).toArray⟩ ++ ⟨#[46, 53, 41]⟩) (by rw [app4, List.append_assoc (sgB neg)])
    have z1 : (⟨#[58, 110, 116, 104, 45, 99, 104, 105, 108, 100, 40]⟩ ++ ⟨(sgB neg ++ Lib.decDigits w).toArray⟩ ++ ⟨#[46, 53, 41]⟩ : ByteArray).size < 1000000 := by
      simp only [ByteArray.size_append, hsz]
      show (11 + _) + 3 < _
      omega
    have ho := of_spec _ z1
    have hp := parse_spec (ofT_fit _ z1)
    rw [ht] at ho hp
    have hpb := half_parse v
    rcases hr : sParse (nthHs v) with ⟨l1, k1⟩
    rw [hr] at hp hpb
    simp only at hp hpb
    subst hpb
    have ho2 := of_spec voidX (by decide)
    have hp2 := parse_spec (ofT_fit voidX (by decide))
    have hpb2 := void_parse
    rcases hr2 : sParse (ofT voidX) with ⟨l2, k2⟩
    rw [hr2] at hp2 hpb2
    simp only at hp2 hpb2
    subst hpb2
    clear z1 ht
    conv => whnf
    repeat' first
      | (refine Case.not ?_; conv => whnf)
      | (refine Case.yes ?_; conv => whnf)
      | (refine Case.no ?_; conv => whnf)
      | (refine Case.isTrue (by with_reducible assumption) ?_; conv => whnf)
      | (refine Case.isFalse (by with_reducible assumption) ?_; conv => whnf)
      | (refine Case.decT (by with_reducible assumption) ?_; conv => whnf)
      | (refine Case.decF (by with_reducible assumption) ?_; conv => whnf)
      | (refine Case.decT (by omega) ?_; conv => whnf)
      | (refine Case.decF (by omega) ?_; conv => whnf)
      | (refine Case.beqT (by omega) ?_; conv => whnf)
      | (refine Case.beqF (by omega) ?_; conv => whnf)
      | (refine alive_spec.call rfl ?_; conv => whnf)
      | (refine hi.call ⟨rfl, rfl⟩ ?_; conv => whnf)
      | (refine Owes.mk (by rw [hsz]; show 11 + _ ≤ _; omega) ?_; conv => whnf)
      | (refine Owes.mk (by simp only [ByteArray.size_append, hsz]; show 11 + _ + 3 ≤ _; omega) ?_; conv => whnf)
      | (refine ho.call ?_; conv => whnf)
      | (refine hp.call ?_; conv => whnf)
      | (refine ho2.call ?_; conv => whnf)
      | (refine hp2.call ?_; conv => whnf)
      | (refine Num.id (by omega) (by omega) ?_; conv => whnf)
      | (refine Case.dec (fun _ => ?_) (fun _ => ?_) <;> conv => whnf)
      | (refine Case.beqI (fun _ => ?_) (fun _ => ?_) <;> conv => whnf)
      | (refine Case.mk (fun _ => ?_) (fun _ => ?_) <;> conv => whnf)
      | (refine Way.fst ?_; conv => whnf)
    all_goals first
      | exact Fin.isB rfl
      | (exfalso; rename_i hh; exact hh rfl)
  conv => whnf
  repeat' first
    | (refine Case.not ?_; conv => whnf)
    | (refine Case.yes ?_; conv => whnf)
    | (refine Case.no ?_; conv => whnf)
    | (refine Case.isTrue (by with_reducible assumption) ?_; conv => whnf)
    | (refine Case.isFalse (by with_reducible assumption) ?_; conv => whnf)
    | (refine Case.decT (by with_reducible assumption) ?_; conv => whnf)
    | (refine Case.decF (by with_reducible assumption) ?_; conv => whnf)
    | (refine Case.decT (by omega) ?_; conv => whnf)
    | (refine Case.decF (by omega) ?_; conv => whnf)
    | (refine Case.beqT (by omega) ?_; conv => whnf)
    | (refine Case.beqF (by omega) ?_; conv => whnf)
    | (refine alive_spec.call rfl ?_; conv => whnf)
    | (refine hi.call ⟨rfl, rfl⟩ ?_; conv => whnf)
    | (refine Num.id (by omega) (by omega) ?_; conv => whnf)
    | (refine Case.dec (fun _ => ?_) (fun _ => ?_) <;> conv => whnf)
    | (refine Case.beqI (fun _ => ?_) (fun _ => ?_) <;> conv => whnf)
    | (refine Case.mk (fun _ => ?_) (fun _ => ?_) <;> conv => whnf)
    | (refine Way.fst ?_; conv => whnf)
  all_goals exact Fin.isB rfl
theorem selNth_out (n which : Int) (h : n < -100000 ∨ n > 100000) : Pure 7 [int n, int which] (bool true) := by
  refine ⟨trivial, spec_mk tab_ok Try.func7 (by rfl) rfl ?_⟩
  rcases h with h | h
  · conv => whnf
    repeat' first
      | (refine Case.not ?_; conv => whnf)
      | (refine Case.yes ?_; conv => whnf)
      | (refine Case.no ?_; conv => whnf)
      | (refine Case.isTrue (by with_reducible assumption) ?_; conv => whnf)
      | (refine Case.isFalse (by with_reducible assumption) ?_; conv => whnf)
      | (refine Case.decT (by with_reducible assumption) ?_; conv => whnf)
      | (refine Case.decF (by with_reducible assumption) ?_; conv => whnf)
      | (refine Case.decT (by omega) ?_; conv => whnf)
      | (refine Case.decF (by omega) ?_; conv => whnf)
      | (refine Case.beqT (by omega) ?_; conv => whnf)
      | (refine Case.beqF (by omega) ?_; conv => whnf)
      | (refine alive_spec.call rfl ?_; conv => whnf)
      | (refine Num.id (by omega) (by omega) ?_; conv => whnf)
      | (refine Case.dec (fun _ => ?_) (fun _ => ?_) <;> conv => whnf)
      | (refine Case.beqI (fun _ => ?_) (fun _ => ?_) <;> conv => whnf)
      | (refine Case.mk (fun _ => ?_) (fun _ => ?_) <;> conv => whnf)
      | (refine Way.fst ?_; conv => whnf)
    all_goals exact Fin.isB rfl
  · conv => whnf
    repeat' first
      | (refine Case.not ?_; conv => whnf)
      | (refine Case.yes ?_; conv => whnf)
      | (refine Case.no ?_; conv => whnf)
      | (refine Case.isTrue (by with_reducible assumption) ?_; conv => whnf)
      | (refine Case.isFalse (by with_reducible assumption) ?_; conv => whnf)
      | (refine Case.decT (by with_reducible assumption) ?_; conv => whnf)
      | (refine Case.decF (by with_reducible assumption) ?_; conv => whnf)
      | (refine Case.decT (by omega) ?_; conv => whnf)
      | (refine Case.decF (by omega) ?_; conv => whnf)
      | (refine Case.beqT (by omega) ?_; conv => whnf)
      | (refine Case.beqF (by omega) ?_; conv => whnf)
      | (refine alive_spec.call rfl ?_; conv => whnf)
      | (refine Num.id (by omega) (by omega) ?_; conv => whnf)
      | (refine Case.dec (fun _ => ?_) (fun _ => ?_) <;> conv => whnf)
      | (refine Case.beqI (fun _ => ?_) (fun _ => ?_) <;> conv => whnf)
      | (refine Case.mk (fun _ => ?_) (fun _ => ?_) <;> conv => whnf)
      | (refine Way.fst ?_; conv => whnf)
    all_goals exact Fin.isB rfl
theorem selNth_spec (n which : Int) : Pure 7 [int n, int which] (bool true) := by
  by_cases h : n < -100000 ∨ n > 100000
  · exact selNth_out n which h
  · by_cases h0 : n < 0
    · have e : n = sgI true (-n).toNat := by show n = -(((-n).toNat : Nat) : Int); omega
      rw [e]
      exact selNth_in true _ (by omega) (fun _ => by omega) which
    · have e : n = sgI false n.toNat := by show n = ((n.toNat : Nat) : Int); omega
      rw [e]
      exact selNth_in false _ (by omega) (fun h => by cases h) which
theorem walkSelNth (a0 a1 : Int) (W : World) (w0 : (Lit.int .i64 a0).wf = true) (w1 : (Lit.int .i64 a1).wf = true) : Calls Try.prog 7 #[.int .i64 a0, .int .i64 a1] W fun e w' => e = .returned (.bool true) ∧ Below W.heap.size W w' :=
  calls_of_spec (selNth_spec a0 a1).2 W (laidOk W) [.int .i64 a0, .int .i64 a1] (repL_cons (rep_val rfl) (repL_cons (rep_val rfl) repL_nil))
end Go.Proofs.Ytdfiegleaknleaa.Aw
