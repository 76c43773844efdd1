/- Strings; Lower; a word among words; the picker's looks. -/
import Derived.Test.YtdenafhfngnlfaaDoorXrL
import Derived.Test.YtdenafhfngnlfaaDoorLower
namespace Go.Proofs.YtdenafhfngnlfaaDoor.Aw
open Go Go.RowKit Go.Lib
set_option linter.unusedVariables false
set_option linter.unusedSimpArgs false
set_option maxRecDepth 100000
theorem loop_eq (b : ByteArray) : ∀ (k i : Nat) (r : List UInt8), b.size - i = k → ByteArray.toList.loop b i r = r.reverse ++ b.data.toList.drop i
  | 0, i, r, h => by
    unfold ByteArray.toList.loop
    rw [if_neg (by omega)]
    have : b.data.toList.drop i = [] := by rw [List.drop_eq_nil_iff]; show b.size ≤ i; omega
    rw [this, List.append_nil]
  | k + 1, i, r, h => by
    unfold ByteArray.toList.loop
    have hi : i < b.size := by omega
    rw [if_pos hi, loop_eq b k (i + 1) _ (by omega)]
    have hl : i < b.data.toList.length := hi
    rw [List.drop_eq_getElem_cons hl, List.reverse_cons, List.append_assoc]
    congr 1
    simp only [List.cons_append, List.nil_append]
    congr 1
    unfold ByteArray.get!
    simp [getElem!_pos, hi]
theorem mk_toList (s : List UInt8) : (⟨s.toArray⟩ : ByteArray).toList = s := by
  unfold ByteArray.toList
  rw [loop_eq _ _ 0 [] rfl]
  rfl
theorem Case.strI {x y : List UInt8} {A B : Prop} (a : x = y → A) (b : ¬ x = y → B) : Case ((⟨x.toArray⟩ : ByteArray).toList == (⟨y.toArray⟩ : ByteArray).toList) A B := by
  rw [mk_toList, mk_toList]
  exact Case.mk (fun h => a (by simpa using h)) (fun h => b (by simpa using h))
theorem Case.strT {x y : List UInt8} {A B : Prop} (h : x = y) (a : A) : Case ((⟨x.toArray⟩ : ByteArray).toList == (⟨y.toArray⟩ : ByteArray).toList) A B := Case.strI (fun _ => a) (fun h' => absurd h h')
theorem Case.strF {x y : List UInt8} {A B : Prop} (h : ¬ x = y) (b : B) : Case ((⟨x.toArray⟩ : ByteArray).toList == (⟨y.toArray⟩ : ByteArray).toList) A B := Case.strI (fun h' => absurd h' h) (fun _ => b)
/-- A contract of the machine, of one plain argument, as one of abstract values. -/
theorem pure_of_calls {g : FuncId} {x y : Value} (hf : FnOk P g) (hy : y.oneCell' = true) (h : ∀ w, Calls P g #[x] w fun e w' => e = .returned y ∧ Below w.heap.size w w') : Pure g [.f (.v x)] (.f (.v y)) :=
  ⟨trivial, hf, fun c w vs hC hr => by
    unfold RepL at hr
    obtain ⟨v, vs', rfl, h1, h2⟩ := hr
    unfold RepL at h2
    subst h2
    have e := rep_v h1
    subst e
    refine (h w).mono ?_
    rintro e w' ⟨rfl, hb⟩
    obtain ⟨hC', hk⟩ := hC.grow hb
    exact ⟨.f (.v y), y, [], c, ⟨rfl, rfl⟩, rfl, rfl, hC', rep_of y hy⟩⟩
def lower (s : List UInt8) : List UInt8 := s.map Low.lowC
theorem repL_vals {c : Cx} {w : World} : ∀ (xs vs : List Value), RepL c w (xs.map fun x => .f (.v x)) vs → vs = xs
  | [], vs, h => by unfold RepL at h; simpa using h
  | x :: xs, vs, h => by
    simp only [List.map_cons] at h
    unfold RepL at h
    obtain ⟨v, vs', rfl, h1, h2⟩ := h
    rw [rep_v h1, repL_vals xs vs' h2]
/-- A contract of the machine, of plain arguments, as one of abstract values. -/
theorem pure_of_callsL {g : FuncId} {xs : List Value} {d : D} {y : Value} (hf : FnOk P g) (hs : scalD d) (hy : ∀ c w, Rep c w d y) (h : ∀ w, tabP w → Calls P g xs.toArray w fun e w' => e = .returned y ∧ Below w.heap.size w w') : Pure g (xs.map fun x => .f (.v x)) d :=
  ⟨hs, hf, fun c w vs hC hr => by
    have e := repL_vals xs vs hr
    subst e
    refine (h w hC.glob.tab).mono ?_
    rintro e w' ⟨rfl, hb⟩
    obtain ⟨hC', hk⟩ := hC.grow hb
    exact ⟨d, y, [], c, ⟨rfl, rfl⟩, rfl, rfl, hC', hy _ _⟩⟩
/-- Rows of strings. -/
abbrev fs (s : List UInt8) : F := .v (.string ⟨s.toArray⟩)
abbrev fi (n : Int) : F := .v (.int .i64 n)
def strs (l : List (List UInt8)) : List (List F) := l.map fun s => [fs s]
theorem strs_length (l : List (List UInt8)) : (strs l).length = l.length := by simp [strs]
theorem strs_row {l : List (List UInt8)} : ∀ e ∈ strs l, e.length = 1 := by simp [strs]
theorem strs_get {l : List (List UInt8)} {i : Nat} {s : List UInt8} (h : l[i]? = some s) : (strs l)[i]? = some [fs s] := by simp [strs, h]
def wordRun (s : List UInt8) : List (List UInt8) → Nat → Nat × Bool
  | [], _ => (0, false)
  | x :: r, k => if x = s then (k, true) else wordRun s r (k + 1)
def wordV (s : List UInt8) (l : List (List UInt8)) : Nat × Bool := wordRun s l 0
structure WordI (s : List UInt8) (l : List (List UInt8)) (i : Nat) : Prop where
  le : i ≤ l.length
  run : wordRun s (l.drop i) i = wordV s l
theorem drop_cons' {α : Type} {l : List α} {i : Nat} {c : α} (h : l[i]? = some c) : l.drop i = c :: l.drop (i + 1) := by
  obtain ⟨h1, h2⟩ := List.getElem?_eq_some_iff.1 h
  rw [List.drop_eq_getElem_cons h1, h2]
theorem Fin.ib {x : Int} {b : Bool} {q : Nat × Bool} {H : Hp} {n n0 : Nat} (e1 : x = q.1) (e2 : b = q.2) : Fin (.tup [int x, bool b]) H n 0 n0 (fun d H => H = [] ∧ d = .tup [int q.1, bool q.2]) := by
  subst e1 e2
  exact Fin.scal ⟨trivial, trivial, trivial⟩ ⟨rfl, rfl⟩
/-! The picker. -/
abbrev toksF (t : List Tok) : List (List F) := t.map tokRow
theorem toksF_row {t : List Tok} : ∀ e ∈ toksF t, e.length = 5 := by simp [tokRow]
theorem toksF_get {t : List Tok} {i : Nat} {k : Tok} (h : t[i]? = some k) : (toksF t)[i]? = some (tokRow k) := by simp [h]
def tk (t : List Tok) (i : Nat) : Tok := match t[i]? with
  | none => {}
  | some k => k
theorem Tok.scal (k : Tok) : scalD k.d := ⟨trivial, trivial, trivial, trivial, trivial, trivial⟩
theorem Fin.agg {cs ds : Cells} {H : Hp} {n n0 : Nat} (hs : scalL cs) (e : cs = ds) : Fin (.agg cs) H n 0 n0 (fun d H => H = [] ∧ d = .agg ds) := by
  subst e
  exact Fin.scal hs ⟨rfl, rfl⟩
end Go.Proofs.YtdenafhfngnlfaaDoor.Aw
