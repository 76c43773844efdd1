/- The laws' own small functions: of, alive; a contract as a statement's walk. -/
import Derived.Test.YtdfiegleaknleaaXpA
import Derived.Test.YtdfiegleaknleaaXrS
import Derived.Test.YtdfiegleaknleaaXlG
import Derived.KernelRfl
namespace Go.Proofs.Ytdfiegleaknleaa.Aw
open Go Go.RowKit Go.Lib
set_option linter.unusedVariables false
set_option linter.unusedSimpArgs false
set_option maxRecDepth 100000
/-- Bounds that can be looked up. -/
def fitB (t : List Tok) : Bool := decide (t.length < 100000000) && t.all fun k => decide (k.text.length < 1000000000) && decide (-9223372036854775808 ≤ k.n) && decide (k.n < 9223372036854775808)
theorem fit_of {t : List Tok} (h : fitB t = true) : Fit t := by
  simp only [fitB, Bool.and_eq_true, decide_eq_true_eq, List.all_eq_true] at h
  refine ⟨h.1, fun i => ?_, fun i => ?_⟩
  · unfold tk
    split
    · simp
    · rename_i k hk
      exact (h.2 k (List.mem_of_getElem? hk)).1.1
  · unfold tk
    split
    · simp
    · rename_i k hk
      have := h.2 k (List.mem_of_getElem? hk)
      exact ⟨this.1.2, this.2⟩
theorem tokens_val (l : List Int) (hl : l.length < 100000000) : Val 23 [.f (.sl (ptsF l))] (.f (.sl (toksF (tokens l)))) :=
  ⟨rfl, ⟨trivial, trivial⟩, rfl, (tokens_spec l hl).mono fun d H h => ⟨h.2, h.1⟩⟩
/-- The tokens of a text. -/
def ofT (b : ByteArray) : List Tok := tokens (prepare b.data.toList)
theorem of_spec (b : ByteArray) (hb : b.size < 1000000) : Val 18 [.str b] (.f (.sl (toksF (ofT b)))) := by
  have hb' : b.data.toList.length < 1000000 := hb
  have hl := prepare_len b.data.toList
  refine ⟨rfl, ⟨trivial, trivial⟩, rfl, spec_mk tab_ok Try.func18 (by rfl) rfl ?_⟩
  conv => whnf
  repeat' first
    | (refine Case.not ?_; conv => whnf)
    | (refine Case.yes ?_; conv => whnf)
    | (refine Case.no ?_; conv => whnf)
    | (refine Case.isTrue (by assumption) ?_; conv => whnf)
    | (refine Case.isFalse (by assumption) ?_; conv => whnf)
    | (refine Case.decT (by assumption) ?_; conv => whnf)
    | (refine Case.decF (by assumption) ?_; conv => whnf)
    | (refine Case.decT (by omega) ?_; conv => whnf)
    | (refine Case.decF (by omega) ?_; conv => whnf)
    | (refine Case.beqT (by omega) ?_; conv => whnf)
    | (refine Case.beqF (by omega) ?_; conv => whnf)
    | (refine Case.strT (by assumption) ?_; conv => whnf)
    | (refine Case.strF (by assumption) ?_; conv => whnf)
    | (refine Case.strF (by simp only [*]; decide) ?_; conv => whnf)
    | (refine (prepare_spec b.data.toList (by omega)).call ?_; conv => whnf)
    | (refine (tokens_val (prepare b.data.toList) (by omega)).call ?_; conv => whnf)
    | (refine step_kinds 2 ?hk ?_; (case hk => decide +kernel); conv => whnf)
    | (refine step_kinds 3 ?hk ?_; (case hk => decide +kernel); conv => whnf)
    | (refine Num.id (by omega) (by omega) ?_; conv => whnf)
    | (refine Case.strI (fun _ => ?_) (fun _ => ?_) <;> conv => whnf)
    | (refine Both.mk ?_ ?_ <;> conv => whnf)
    | (refine Case.dec (fun _ => ?_) (fun _ => ?_) <;> conv => whnf)
    | (refine Case.beqI (fun _ => ?_) (fun _ => ?_) <;> conv => whnf)
    | (refine Case.mk (fun _ => ?_) (fun _ => ?_) <;> conv => whnf)
    | (refine Way.fst ?_; conv => whnf)
  refine Fin.val ?_ ⟨rfl, rfl⟩
  exact rfl
def aliveB : ByteArray := ⟨#[97, 32, 62, 32, 46, 98]⟩
def aliveS : List Selr := [[(0, { tag := [97] }), (2, { cls := [[98]] })]]
theorem alive_toks : ofT aliveB = [{ kind := 1, text := [97] }, { kind := 9 }, { kind := 10, c := 62 }, { kind := 9 }, { kind := 10, c := 46 }, { kind := 1, text := [98] }] := by decide +kernel
theorem alive_parse : sParse (ofT aliveB) = (aliveS, true) := by
  rw [alive_toks]
  kernel_rfl
theorem alive_spec : Pure 13 [] (bool true) := by
  have ho := of_spec aliveB (by decide)
  have hp := parse_spec (t := ofT aliveB) (fit_of (by rw [alive_toks]; decide))
  rw [alive_parse] at hp
  refine ⟨trivial, spec_mk tab_ok Try.func13 (by rfl) rfl ?_⟩
  conv => whnf
  repeat' first
    | (refine Case.not ?_; conv => whnf)
    | (refine Case.yes ?_; conv => whnf)
    | (refine Case.no ?_; conv => whnf)
    | (refine Case.isTrue (by assumption) ?_; conv => whnf)
    | (refine Case.isFalse (by assumption) ?_; conv => whnf)
    | (refine Case.decT (by assumption) ?_; conv => whnf)
    | (refine Case.decF (by assumption) ?_; conv => whnf)
    | (refine Case.decT (by omega) ?_; conv => whnf)
    | (refine Case.decF (by omega) ?_; conv => whnf)
    | (refine Case.beqT (by omega) ?_; conv => whnf)
    | (refine Case.beqF (by omega) ?_; conv => whnf)
    | (refine Case.strT (by assumption) ?_; conv => whnf)
    | (refine Case.strF (by assumption) ?_; conv => whnf)
    | (refine Case.strF (by simp only [*]; decide) ?_; conv => whnf)
    | (refine ho.call ?_; conv => whnf)
    | (refine hp.call ?_; conv => whnf)
    | (refine Owes.mk sels_row ?_; conv => whnf)
    | (refine Owes.mk parts_row ?_; conv => whnf)
    | (refine Elem.mk 0 _ rfl rfl ?_; conv => whnf)
    | (refine Elem.mk 1 _ rfl rfl ?_; conv => whnf)
    | (refine Case.isTrue (by decide) ?_; conv => whnf)
    | (refine Case.isFalse (by decide) ?_; conv => whnf)
    | (refine step_kinds 2 ?hk ?_; (case hk => decide +kernel); conv => whnf)
    | (refine step_kinds 3 ?hk ?_; (case hk => decide +kernel); conv => whnf)
    | (refine Num.id (by omega) (by omega) ?_; conv => whnf)
    | (refine Case.strI (fun _ => ?_) (fun _ => ?_) <;> conv => whnf)
    | (refine Both.mk ?_ ?_ <;> conv => whnf)
    | (refine Case.dec (fun _ => ?_) (fun _ => ?_) <;> conv => whnf)
    | (refine Case.beqI (fun _ => ?_) (fun _ => ?_) <;> conv => whnf)
    | (refine Case.mk (fun _ => ?_) (fun _ => ?_) <;> conv => whnf)
    | (refine Way.fst ?_; conv => whnf)
  exact Fin.isB rfl
/-- Some texts. -/
def strsB (l : List ByteArray) : List (List F) := l.map fun b => [.v (.string b)]
theorem strsB_row {l : List ByteArray} : ∀ e ∈ strsB l, e.length = 1 := by simp [strsB]
theorem strsB_get {l : List ByteArray} {i : Nat} {b : ByteArray} (h : l[i]? = some b) : (strsB l)[i]? = some [.v (.string b)] := by simp [strsB, h]
end Go.Proofs.Ytdfiegleaknleaa.Aw
