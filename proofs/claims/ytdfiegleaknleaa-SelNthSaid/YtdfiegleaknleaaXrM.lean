/- Strings; Lower; a word among words; the picker's looks. -/
import Derived.Test.YtdfiegleaknleaaXrL
import Derived.Test.YtdfiegleaknleaaLower
namespace Go.Proofs.Ytdfiegleaknleaa.Aw
open Go Go.RowKit Go.Lib
set_option linter.unusedVariables false
set_option linter.unusedSimpArgs false
set_option maxRecDepth 100000
theorem loop_eq (b : ByteArray) : ∀ (k i : Nat) (r : List UInt8), b.size - i = k → ByteArray.toList.loop b i r = r.reverse ++ b.data.toList.drop i
  | 0, i, r, h => by
    unfold ByteArray.toList.loop
    rw [if_neg (by omega)]
    have : b.data.toList.drop i = [] := by rw [List.drop_eq_nil_iff]; show b.size ≤ i; omega
    rw [this, List.append_nil]
  | k + 1, i, r, h => by
    unfold ByteArray.toList.loop
    have hi : i < b.size := by omega
    rw [if_pos hi, loop_eq b k (i + 1) _ (by omega)]
    have hl : i < b.data.toList.length := hi
    rw [List.drop_eq_getElem_cons hl, List.reverse_cons, List.append_assoc]
    congr 1
    simp only [List.cons_append, List.nil_append]
    congr 1
    unfold ByteArray.get!
    simp [getElem!_pos, hi]
theorem mk_toList (s : List UInt8) : (⟨s.toArray⟩ : ByteArray).toList = s := by
  unfold ByteArray.toList
  rw [loop_eq _ _ 0 [] rfl]
  rfl
theorem Case.strI {x y : List UInt8} {A B : Prop} (a : x = y → A) (b : ¬ x = y → B) : Case ((⟨x.toArray⟩ : ByteArray).toList == (⟨y.toArray⟩ : ByteArray).toList) A B := by
  rw [mk_toList, mk_toList]
  exact Case.mk (fun h => a (by simpa using h)) (fun h => b (by simpa using h))
theorem Case.strT {x y : List UInt8} {A B : Prop} (h : x = y) (a : A) : Case ((⟨x.toArray⟩ : ByteArray).toList == (⟨y.toArray⟩ : ByteArray).toList) A B := Case.strI (fun _ => a) (fun h' => absurd h h')
theorem Case.strF {x y : List UInt8} {A B : Prop} (h : ¬ x = y) (b : B) : Case ((⟨x.toArray⟩ : ByteArray).toList == (⟨y.toArray⟩ : ByteArray).toList) A B := Case.strI (fun h' => absurd h' h) (fun _ => b)
/-- A contract of the machine, of one plain argument, as one of abstract values. -/
theorem pure_of_calls {g : FuncId} {x y : Value} (hf : FnOk P g) (hy : y.oneCell' = true) (h : ∀ w, Calls P g #[x] w fun e w' => e = .returned y ∧ Below w.heap.size w w') : Pure g [.f (.v x)] (.f (.v y)) :=
  ⟨trivial, hf, fun c w vs hC hr => by
    unfold RepL at hr
    obtain ⟨v, vs', rfl, h1, h2⟩ := hr
    unfold RepL at h2
    subst h2
    have e := rep_v h1
    subst e
    refine (h w).mono ?_
    rintro e w' ⟨rfl, hb⟩
    obtain ⟨hC', hk⟩ := hC.grow hb
    exact ⟨.f (.v y), y, [], c, ⟨rfl, rfl⟩, rfl, rfl, hC', rep_of y hy⟩⟩
def lower (s : List UInt8) : List UInt8 := s.map Low.lowC
theorem repL_vals {c : Cx} {w : World} : ∀ (xs vs : List Value), RepL c w (xs.map fun x => .f (.v x)) vs → vs = xs
  | [], vs, h => by unfold RepL at h; simpa using h
  | x :: xs, vs, h => by
    simp only [List.map_cons] at h
    unfold RepL at h
    obtain ⟨v, vs', rfl, h1, h2⟩ := h
    rw [rep_v h1, repL_vals xs vs' h2]
/-- A contract of the machine, of plain arguments, as one of abstract values. -/
theorem pure_of_callsL {g : FuncId} {xs : List Value} {d : D} {y : Value} (hf : FnOk P g) (hs : scalD d) (hy : ∀ c w, Rep c w d y) (h : ∀ w, tabP w → Calls P g xs.toArray w fun e w' => e = .returned y ∧ Below w.heap.size w w') : Pure g (xs.map fun x => .f (.v x)) d :=
  ⟨hs, hf, fun c w vs hC hr => by
    have e := repL_vals xs vs hr
    subst e
    refine (h w hC.glob.tab).mono ?_
    rintro e w' ⟨rfl, hb⟩
    obtain ⟨hC', hk⟩ := hC.grow hb
    exact ⟨d, y, [], c, ⟨rfl, rfl⟩, rfl, rfl, hC', hy _ _⟩⟩
theorem lower_len (s : List UInt8) : (lower s).length = s.length := by simp [lower]
theorem lower_spec (s : List UInt8) (hl : s.length < 1000000000) : Pure 62 [.str ⟨s.toArray⟩] (.str ⟨(lower s).toArray⟩) :=
  pure_of_calls ⟨_, Try.func62, by rfl, rfl⟩ rfl fun w => by
    have := Low.lowerR ⟨s.toArray⟩ w (by show s.length ≤ _; omega)
    exact this
theorem lowerP_spec (s : List UInt8) (hl : s.length < 1000000000) : Pure 58 [.str ⟨s.toArray⟩] (.str ⟨(lower s).toArray⟩) :=
  pure_of_calls ⟨_, Try.func58, by rfl, rfl⟩ rfl fun w => by
    have := Low.lower ⟨s.toArray⟩ w (by show s.length ≤ _; omega)
    exact this
/-- Rows of strings. -/
abbrev fs (s : List UInt8) : F := .v (.string ⟨s.toArray⟩)
abbrev fi (n : Int) : F := .v (.int .i64 n)
def strs (l : List (List UInt8)) : List (List F) := l.map fun s => [fs s]
theorem strs_length (l : List (List UInt8)) : (strs l).length = l.length := by simp [strs]
theorem strs_row {l : List (List UInt8)} : ∀ e ∈ strs l, e.length = 1 := by simp [strs]
theorem strs_get {l : List (List UInt8)} {i : Nat} {s : List UInt8} (h : l[i]? = some s) : (strs l)[i]? = some [fs s] := by simp [strs, h]
def wordRun (s : List UInt8) : List (List UInt8) → Nat → Nat × Bool
  | [], _ => (0, false)
  | x :: r, k => if x = s then (k, true) else wordRun s r (k + 1)
def wordV (s : List UInt8) (l : List (List UInt8)) : Nat × Bool := wordRun s l 0
structure WordI (s : List UInt8) (l : List (List UInt8)) (i : Nat) : Prop where
  le : i ≤ l.length
  run : wordRun s (l.drop i) i = wordV s l
theorem drop_cons' {α : Type} {l : List α} {i : Nat} {c : α} (h : l[i]? = some c) : l.drop i = c :: l.drop (i + 1) := by
  obtain ⟨h1, h2⟩ := List.getElem?_eq_some_iff.1 h
  rw [List.drop_eq_getElem_cons h1, h2]
theorem Fin.ib {x : Int} {b : Bool} {q : Nat × Bool} {H : Hp} {n n0 : Nat} (e1 : x = q.1) (e2 : b = q.2) : Fin (.tup [int x, bool b]) H n 0 n0 (fun d H => H = [] ∧ d = .tup [int q.1, bool q.2]) := by
  subst e1 e2
  exact Fin.scal ⟨trivial, trivial, trivial⟩ ⟨rfl, rfl⟩
theorem word_spec (s : List UInt8) (l : List (List UInt8)) (hl : l.length < 1000000000) : Pure 71 [.str ⟨s.toArray⟩, .f (.sl (strs l))] (.tup [int (wordV s l).1, bool (wordV s l).2]) := by
  have hlen := strs_length l
  refine ⟨⟨trivial, trivial, trivial⟩, spec_mk tab_ok Try.func71 (by rfl) rfl ?_⟩
  conv => whnf
  refine step_loop tab_ok (fun i : Nat => padK [.str ⟨s.toArray⟩, .f (.sl (strs l)), .junk, .junk, .junk, .junk, int i] 20) (fun _ => []) 0 (WordI s l) (fun i => l.length - i) 0 ⟨by simp, rfl⟩ (fun _ => rfl) ?_ ?_
  ·
    repeat' first | exact trivial | exact rfl | exact (by decide : (0 : Nat) < 1) | exact Nat.le_refl _ | exact Nat.zero_lt_succ _ | exact congrArg int (by (try dsimp only); omega) | exact congrArg bool (by (try dsimp only); simp; omega) | (show _ < List.length _; simp; done) | apply And.intro
  · rintro i ⟨h1, h2⟩
    conv => whnf
    refine Case.dec (fun h0 => ?_) (fun h0 => ?_)
    · obtain ⟨x, hx⟩ : ∃ x, l[i]? = some x := ⟨_, List.getElem?_eq_getElem (by omega)⟩
      rw [drop_cons' hx, wordRun] at h2
      conv => whnf
      repeat' first
        | (refine Case.not ?_; conv => whnf)
        | (refine Case.yes ?_; conv => whnf)
        | (refine Case.no ?_; conv => whnf)
        | (refine Case.isTrue (by assumption) ?_; conv => whnf)
        | (refine Case.isFalse (by assumption) ?_; conv => whnf)
        | (refine Case.decT (by assumption) ?_; conv => whnf)
        | (refine Case.decF (by assumption) ?_; conv => whnf)
        | (refine Case.decT (by omega) ?_; conv => whnf)
        | (refine Case.decF (by omega) ?_; conv => whnf)
        | (refine Case.beqT (by omega) ?_; conv => whnf)
        | (refine Case.beqF (by omega) ?_; conv => whnf)
        | (refine Owes.mk strs_row ?_; conv => whnf)
        | (refine Elem.mk i _ rfl (strs_get hx) ?_; conv => whnf)
        | (refine Case.strI (fun _ => ?_) (fun _ => ?_); conv => whnf)
        | (refine Num.id (by omega) (by omega) ?_; conv => whnf)
        | (refine Case.dec (fun _ => ?_) (fun _ => ?_) <;> conv => whnf)
        | (refine Case.beqI (fun _ => ?_) (fun _ => ?_) <;> conv => whnf)
        | (refine Case.mk (fun _ => ?_) (fun _ => ?_) <;> conv => whnf)
        | (refine Way.fst ?_; conv => whnf)
      · rw [if_pos (by assumption)] at h2
        refine Fin.ib ?_ ?_ <;> rw [← h2]
      · rw [if_neg (by assumption)] at h2
        refine ⟨i + 1, ⟨by omega, h2⟩, by omega, ?_⟩
        repeat' first | exact trivial | exact rfl | exact (by decide : (0 : Nat) < 1) | exact Nat.le_refl _ | exact Nat.zero_lt_succ _ | exact congrArg int (by (try dsimp only); omega) | exact congrArg bool (by (try dsimp only); simp; omega) | (show _ < List.length _; simp; done) | apply And.intro
    · rw [show l.drop i = [] by rw [List.drop_eq_nil_iff]; omega, wordRun] at h2
      conv => whnf
      refine Fin.ib ?_ ?_ <;> rw [← h2] <;> rfl
/-! The picker. -/
abbrev toksF (t : List Tok) : List (List F) := t.map tokRow
theorem toksF_row {t : List Tok} : ∀ e ∈ toksF t, e.length = 5 := by simp [tokRow]
theorem toksF_get {t : List Tok} {i : Nat} {k : Tok} (h : t[i]? = some k) : (toksF t)[i]? = some (tokRow k) := by simp [h]
def tk (t : List Tok) (i : Nat) : Tok := match t[i]? with
  | none => {}
  | some k => k
theorem Tok.scal (k : Tok) : scalD k.d := ⟨trivial, trivial, trivial, trivial, trivial, trivial⟩
theorem Fin.agg {cs ds : Cells} {H : Hp} {n n0 : Nat} (hs : scalL cs) (e : cs = ds) : Fin (.agg cs) H n 0 n0 (fun d H => H = [] ∧ d = .agg ds) := by
  subst e
  exact Fin.scal hs ⟨rfl, rfl⟩
end Go.Proofs.Ytdfiegleaknleaa.Aw
