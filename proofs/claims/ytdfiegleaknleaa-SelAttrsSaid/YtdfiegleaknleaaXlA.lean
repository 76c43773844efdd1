/- The laws' own small functions: of, alive; a contract as a statement's walk. -/
import Derived.Test.YtdfiegleaknleaaXpA
import Derived.Test.YtdfiegleaknleaaXrS
import Derived.KernelRfl
namespace Go.Proofs.Ytdfiegleaknleaa.Aw
open Go Go.RowKit Go.Lib
set_option linter.unusedVariables false
set_option linter.unusedSimpArgs false
set_option maxRecDepth 100000
/-- All that is there does not turn. -/
def allC (w : World) : Cx := ⟨fun _ => 0, fun _ => nilS, fun b => b < w.heap.size, 0, 0⟩
theorem calls_of_spec {g : FuncId} {args : List D} {y : Value} (h : Spec P g args [] 0 (fun d H => H = [] ∧ d = .f (.v y))) (w : World) (vs : List Value) (hr : RepL (allC w) w args vs) : Calls P g vs.toArray w fun e w' => e = .returned y ∧ Below w.heap.size w w' := by
  have hC : Con (base (allC w) w []) (allC w) w [] 0 :=
    ⟨rfl, rfl, rfl, Nat.le_refl _, fun _ _ _ => rfl, fun _ h => h, fun b hb => ⟨hb, .inl hb⟩, rfl, rfl, Nat.le_refl _, fun _ _ => rfl, fun k cs h => (by simp at h), fun k cs h => (by simp at h), fun j k cs ds h => (by simp at h), fun k b hb => (by cases hb), fun j k b hb => (by cases hb), fun _ _ => rfl⟩
  refine (h.2 (allC w) w vs hC hr).mono ?_
  rintro e w' ⟨d, v, H', c2, ⟨rfl, rfl⟩, rfl, hl, hC2, hd⟩
  have hno : ∀ b, ¬ mine (allC w) [] b := fun b hb => by
    rcases hb with ⟨k, cs, h1, _⟩ | ⟨k, h1⟩
    · simp at h1
    · cases h1
  have := rep_v hd
  subst this
  exact ⟨rfl, hC2.os, hC2.tape, hC2.output, hC2.size, fun b hb => hC2.old b hb (hno b)⟩
theorem rep_val {c : Cx} {w : World} {x : Value} (h : x.oneCell' = true) : Rep c w (.f (.v x)) x := rep_of x h
/-- Bounds that can be looked up. -/
def fitB (t : List Tok) : Bool := decide (t.length < 100000000) && t.all fun k => decide (k.text.length < 1000000000) && decide (-9223372036854775808 ≤ k.n) && decide (k.n < 9223372036854775808)
theorem fit_of {t : List Tok} (h : fitB t = true) : Fit t := by
  simp only [fitB, Bool.and_eq_true, decide_eq_true_eq, List.all_eq_true] at h
  refine ⟨h.1, fun i => ?_, fun i => ?_⟩
  · unfold tk
    split
    · simp
    · rename_i k hk
      exact (h.2 k (List.mem_of_getElem? hk)).1.1
  · unfold tk
    split
    · simp
    · rename_i k hk
      have := h.2 k (List.mem_of_getElem? hk)
      exact ⟨this.1.2, this.2⟩
theorem tokens_val (l : List Int) (hl : l.length < 100000000) : Val 23 [.f (.sl (ptsF l))] (.f (.sl (toksF (tokens l)))) :=
  ⟨rfl, ⟨trivial, trivial⟩, rfl, (tokens_spec l hl).mono fun d H h => ⟨h.2, h.1⟩⟩
/-- The tokens of a text. -/
def ofT (b : ByteArray) : List Tok := tokens (prepare b.data.toList)
theorem of_spec (b : ByteArray) (hb : b.size < 1000000) : Val 18 [.str b] (.f (.sl (toksF (ofT b)))) := by
  have hb' : b.data.toList.length < 1000000 := hb
  have hl := prepare_len b.data.toList
  refine ⟨rfl, ⟨trivial, trivial⟩, rfl, spec_mk tab_ok Try.func18 (by rfl) rfl ?_⟩
  conv => whnf
  repeat' first
    | (refine Case.not ?_; conv => whnf)
    | (refine Case.yes ?_; conv => whnf)
    | (refine Case.no ?_; conv => whnf)
    | (refine Case.isTrue (by assumption) ?_; conv => whnf)
    | (refine Case.isFalse (by assumption) ?_; conv => whnf)
    | (refine Case.decT (by assumption) ?_; conv => whnf)
    | (refine Case.decF (by assumption) ?_; conv => whnf)
    | (refine Case.decT (by omega) ?_; conv => whnf)
    | (refine Case.decF (by omega) ?_; conv => whnf)
    | (refine Case.beqT (by omega) ?_; conv => whnf)
    | (refine Case.beqF (by omega) ?_; conv => whnf)
    | (refine Case.strT (by assumption) ?_; conv => whnf)
    | (refine Case.strF (by assumption) ?_; conv => whnf)
    | (refine Case.strF (by simp only [*]; decide) ?_; conv => whnf)
    | (refine (prepare_spec b.data.toList (by omega)).call ?_; conv => whnf)
    | (refine (tokens_val (prepare b.data.toList) (by omega)).call ?_; conv => whnf)
    | (refine step_kinds 2 ?hk ?_; (case hk => decide +kernel); conv => whnf)
    | (refine step_kinds 3 ?hk ?_; (case hk => decide +kernel); conv => whnf)
    | (refine Num.id (by omega) (by omega) ?_; conv => whnf)
    | (refine Case.strI (fun _ => ?_) (fun _ => ?_) <;> conv => whnf)
    | (refine Both.mk ?_ ?_ <;> conv => whnf)
    | (refine Case.dec (fun _ => ?_) (fun _ => ?_) <;> conv => whnf)
    | (refine Case.beqI (fun _ => ?_) (fun _ => ?_) <;> conv => whnf)
    | (refine Case.mk (fun _ => ?_) (fun _ => ?_) <;> conv => whnf)
  refine Fin.val ?_ ⟨rfl, rfl⟩
  exact rfl
def aliveB : ByteArray := ⟨#[97, 32, 62, 32, 46, 98]⟩
def aliveS : List Selr := [[(0, { tag := [97] }), (2, { cls := [[98]] })]]
theorem alive_toks : ofT aliveB = [{ kind := 1, text := [97] }, { kind := 9 }, { kind := 10, c := 62 }, { kind := 9 }, { kind := 10, c := 46 }, { kind := 1, text := [98] }] := by decide +kernel
theorem alive_parse : sParse (ofT aliveB) = (aliveS, true) := by
  rw [alive_toks]
  kernel_rfl
theorem alive_spec : Pure 13 [] (bool true) := by
  have ho := of_spec aliveB (by decide)
  have hp := parse_spec (t := ofT aliveB) (fit_of (by rw [alive_toks]; decide))
  rw [alive_parse] at hp
  refine ⟨trivial, spec_mk tab_ok Try.func13 (by rfl) rfl ?_⟩
  conv => whnf
  repeat' first
    | (refine Case.not ?_; conv => whnf)
    | (refine Case.yes ?_; conv => whnf)
    | (refine Case.no ?_; conv => whnf)
    | (refine Case.isTrue (by assumption) ?_; conv => whnf)
    | (refine Case.isFalse (by assumption) ?_; conv => whnf)
    | (refine Case.decT (by assumption) ?_; conv => whnf)
    | (refine Case.decF (by assumption) ?_; conv => whnf)
    | (refine Case.decT (by omega) ?_; conv => whnf)
    | (refine Case.decF (by omega) ?_; conv => whnf)
    | (refine Case.beqT (by omega) ?_; conv => whnf)
    | (refine Case.beqF (by omega) ?_; conv => whnf)
    | (refine Case.strT (by assumption) ?_; conv => whnf)
    | (refine Case.strF (by assumption) ?_; conv => whnf)
    | (refine Case.strF (by simp only [*]; decide) ?_; conv => whnf)
    | (refine ho.call ?_; conv => whnf)
    | (refine hp.call ?_; conv => whnf)
    | (refine Owes.mk sels_row ?_; conv => whnf)
    | (refine Owes.mk parts_row ?_; conv => whnf)
    | (refine Elem.mk 0 _ rfl rfl ?_; conv => whnf)
    | (refine Elem.mk 1 _ rfl rfl ?_; conv => whnf)
    | (refine Case.isTrue (by decide) ?_; conv => whnf)
    | (refine Case.isFalse (by decide) ?_; conv => whnf)
    | (refine step_kinds 2 ?hk ?_; (case hk => decide +kernel); conv => whnf)
    | (refine step_kinds 3 ?hk ?_; (case hk => decide +kernel); conv => whnf)
    | (refine Num.id (by omega) (by omega) ?_; conv => whnf)
    | (refine Case.strI (fun _ => ?_) (fun _ => ?_) <;> conv => whnf)
    | (refine Both.mk ?_ ?_ <;> conv => whnf)
    | (refine Case.dec (fun _ => ?_) (fun _ => ?_) <;> conv => whnf)
    | (refine Case.beqI (fun _ => ?_) (fun _ => ?_) <;> conv => whnf)
    | (refine Case.mk (fun _ => ?_) (fun _ => ?_) <;> conv => whnf)
  exact Fin.isB rfl
/-- Some texts. -/
def strsB (l : List ByteArray) : List (List F) := l.map fun b => [.v (.string b)]
theorem strsB_row {l : List ByteArray} : ∀ e ∈ strsB l, e.length = 1 := by simp [strsB]
theorem strsB_get {l : List ByteArray} {i : Nat} {b : ByteArray} (h : l[i]? = some b) : (strsB l)[i]? = some [.v (.string b)] := by simp [strsB, h]
end Go.Proofs.Ytdfiegleaknleaa.Aw
