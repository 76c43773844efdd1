/- What each plain operation makes of a state, and that the machine does just that. -/
import Derived.Test.YtlhegfkpgchaeaaGreatDoorAwC
import Derived.WalkKit
namespace Go.Proofs.YtlhegfkpgchaeaaGreatDoor.Aw
open Go Go.RowKit
set_option linter.unusedVariables false
set_option linter.unusedSimpArgs false
theorem forceV_eq (x : Value) (K : Value → Prop) : forceV x K = K x := by cases x <;> rfl
theorem force_eq (d : D) (K : D → Prop) : force d K = K d := by
 cases d with
 | f x => cases x with
  | v x => exact forceV_eq x (fun x => K (.f (.v x)))
  | sl es => rfl
 | _ => rfl
theorem evK_eq (E : List D) (x : Operand) (K : D → Prop) : evK E x K = K (ev E x) := force_eq _ _
theorem setK_eq : ∀ (E : List D) (i : Nat) (d : D) (K : List D → Prop), setK E i d K = K (E.set i d)
 | [], _, _, _ => rfl
 | _ :: _, 0, _, _ => rfl
 | x :: E, i + 1, d, K => setK_eq E i d (fun E' => K (x :: E'))
theorem dropL_eq {α : Type} : ∀ (n : Nat) (l : List α), dropL n l = l.drop n
 | 0, _ => rfl
 | _ + 1, [] => rfl
 | n + 1, _ :: l => dropL_eq n l
theorem takeK_open {α : Type} : ∀ (n : Nat) (l : List α) (K : List α → Prop), takeK n l K → n ≤ l.length ∧ K (l.take n)
 | 0, l, K, h => ⟨Nat.zero_le _, h⟩
 | _ + 1, [], K, h => h.elim
 | n + 1, x :: l, K, h => by
  obtain ⟨h1, h2⟩ := takeK_open n l (fun l' => K (x :: l')) h
  exact ⟨by simpa using h1, h2⟩
theorem mapFK_open : ∀ (l : List F) (K : List D → Prop), mapFK l K → K (l.map .f)
 | [], K, h => h
 | x :: l, K, h => mapFK_open l (fun l' => K (.f x :: l')) h
theorem overK_open {α : Type} : ∀ (cs : List α) (n : Nat) (ys : List α) (K : List α → Prop), overK cs n ys K → (ys = [] ∨ n + ys.length ≤ cs.length) ∧ K (if ys = [] then cs else cs.take n ++ ys ++ cs.drop (n + ys.length))
 | cs, n, [], K, h => by
  unfold overK at h
  exact ⟨.inl rfl, by simpa using h⟩
 | [], _, _ :: _, _, h => h.elim
 | c :: cs, 0, y :: ys, K, h => by
  unfold overK at h
  obtain ⟨h1, h2⟩ := overK_open cs 0 ys _ h
  refine ⟨.inr ?_, ?_⟩
  ·rcases h1 with rfl | h1
   ·simp
   ·simp at h1 ⊢; omega
  ·by_cases hy : ys = []
   ·subst hy; simpa using h2
   ·simp [hy] at h2 ⊢
    have : 0 + (ys.length + 1) = ys.length + 1 := by omega
    exact h2
 | c :: cs, n + 1, y :: ys, K, h => by
  unfold overK at h
  obtain ⟨h1, h2⟩ := overK_open cs n (y :: ys) _ h
  refine ⟨.inr ?_, ?_⟩
  ·rcases h1 with h1 | h1
   ·cases h1
   ·simp at h1 ⊢; omega
  ·simp at h2 ⊢
   rw [show n + 1 + (ys.length + 1) = (n + (ys.length + 1)) + 1 by omega]
   exact h2
theorem setHK_eq : ∀ (H : Hp) (i : Nat) (d : Option Cells) (K : Hp → Prop), setHK H i d K = K (H.set i d)
 | [], _, _, _ => rfl
 | _ :: _, 0, _, _ => rfl
 | x :: E, i + 1, d, K => setHK_eq E i d (fun E' => K (x :: E'))
theorem pushHK_eq : ∀ (H : Hp) (d : Option Cells) (K : Hp → Prop), pushHK H d K = K (H ++ [d])
 | [], _, _ => rfl
 | x :: E, d, K => pushHK_eq E d (fun E' => K (x :: E'))
section
variable {c : Cx} {w : World}
theorem rep_ofC (x : Value) : Rep c w (ofC x) x := by
 unfold ofC
 split
 ·simp [Rep]
 ·simp [Rep]
 ·simp [Rep]
 ·rename_i h1 h2
  unfold Rep RepF
  refine ⟨rfl, ?_⟩
  cases x <;> first | rfl | (exact absurd rfl (h1 _)) | (exact absurd rfl (h2 _))
theorem repL_ofCs : ∀ (l : List Value), RepL c w (ofCs l) l
 | [] => repL_nil
 | x :: l => repL_cons (rep_ofC x) (repL_ofCs l)
theorem rep_ofV (x : Value) : Rep c w (ofV x) x := by
 unfold ofV
 split
 ·rename_i cs
  unfold Rep
  exact ⟨cs.toList, rfl, repL_ofCs _⟩
 ·simp [Rep]
 ·simp [Rep]
 ·rename_i g
  unfold Rep
  exact ⟨[], rfl, repL_nil⟩
 ·rename_i h1 h2 h3 h4
  unfold Rep RepF
  refine ⟨rfl, ?_⟩
  cases x <;> first | rfl | (exact absurd rfl (h1 _)) | (exact absurd rfl (h3 _))
theorem rep_ev {E : List D} {a : Act} (h : RepL c w E a.tmps.toList) (x : Operand) : Rep c w (ev E x) (a.eval x) := by
 cases x with
 | tmp t =>
  have := h.get t
  simp only [ev, Act.eval]
  simpa [Array.getD_eq_getD_getElem?, List.getD_eq_getElem?_getD] using this
 | const v => exact rep_ofV v
 | global g => simp [ev, Rep]
 | func f => unfold ev Act.eval Rep; exact ⟨[], rfl, repL_nil⟩
end
theorem repL_put {c : Cx} {w : World} {E : List D} {a : Act} {d : D} {v : Value} (h : RepL c w E a.tmps.toList) (hv : Rep c w d v) (dst : Option Nat) {K : List D → Prop} (hk : putK E dst d K) :
  ∃ E', K E' ∧ RepL c w E' (a.put dst v).tmps.toList := by
 cases dst with
 | none => exact ⟨E, hk, h⟩
 | some i =>
  have hk' : setK E i d K := hk
  rw [setK_eq] at hk'
  refine ⟨E.set i d, hk', ?_⟩
  simpa [Act.put] using h.set i d v hv
theorem tabOk_get {P : Program} : ∀ {T : List TI} {k : Nat}, TabOk P k T → ∀ (t : Nat) (ti : TI), T[t]? = some ti → ti.shut = false →
  P.underlying (k + t) = some ti.desc ∧ (P.info? (k + t)).map (fun i => (i.size, i.bytes, i.zero)) = some (ti.size, ti.bytes, some ti.zval) ∧ ti.zval.cells = ti.zero.toArray ∧ EqFit P (k + t) ti
 | [], _, _, _, _, h, _ => by simp at h
 | x :: T, k, hT, t, ti, h, hs => by
  unfold TabOk at hT
  cases t with
  | zero =>
   simp at h; subst h
   rcases hT.1 with h1 | h1
   ·rw [hs] at h1; cases h1
   ·simpa using h1
  | succ t =>
   have := tabOk_get hT.2 t ti (by simpa using h) hs
   rw [show k + (t + 1) = k + 1 + t by omega]
   exact this
structure Lay (P : Program) (t : Nat) (ti : TI) : Prop where
 und : P.underlying t = some ti.desc
 info : ∃ i, P.info? t = some i ∧ i.size = ti.size ∧ i.bytes = ti.bytes ∧ i.zero = some ti.zval
 zero : ti.zval.cells = ti.zero.toArray
 eq : EqFit P t ti
theorem tiK_open {P : Program} {T : Tab} (hT : TabOk P 0 T) {t : Nat} {K : TI → Prop} (h : tiK T t K) : ∃ ti, Lay P t ti ∧ K ti := by
 unfold tiK at h
 cases hg : T[t]? with
 | none => rw [hg] at h; exact h.elim
 | some ti =>
  rw [hg] at h
  cases hs : ti.shut with
  | true => simp [hs] at h
  | false =>
   simp [hs] at h
   obtain ⟨h1, h2, h3, h4⟩ := tabOk_get hT t ti hg hs
   rw [Nat.zero_add] at h1 h2 h4
   refine ⟨ti, ⟨h1, ?_, h3, h4⟩, h⟩
   cases hi : P.info? t with
   | none => rw [hi] at h2; cases h2
   | some i =>
    rw [hi] at h2
    simp at h2
    exact ⟨i, rfl, h2.1, h2.2.1, h2.2.2⟩
section
variable {P : Program} {t : Nat} {ti : TI} (L : Lay P t ti) (w : World)
include L
theorem Lay.run_underlying : (underlying t).run P w = .ok ti.desc w := Go.run_underlying L.und w
theorem Lay.run_typeInfo : ∃ i, (typeInfo t).run P w = .ok i w ∧ i.size = ti.size ∧ i.bytes = ti.bytes ∧ i.zero = some ti.zval := by
 obtain ⟨i, h, h2⟩ := L.info
 exact ⟨i, by simp [typeInfo, h], h2⟩
theorem Lay.run_sizeOf : (sizeOf t).run P w = .ok ti.size w := by
 obtain ⟨i, h, h2⟩ := L.run_typeInfo w
 simp [sizeOf, h, h2.1]
theorem Lay.run_zeroValue : (zeroValue t).run P w = .ok ti.zval w := by
 obtain ⟨i, h, h2⟩ := L.run_typeInfo w
 simp [zeroValue, h, h2.2.2]
theorem Lay.run_isAgg : (isAgg t).run P w = .ok ti.isAgg w := by
 simp only [isAgg, Sem.run_bind, L.run_underlying w, Result.andThen_ok]
 unfold TI.isAgg
 cases ti.desc <;> rfl
end
theorem addr_add (b o n : Nat) : (⟨b, o, none⟩ : Addr).add n = ⟨b, o + n, none⟩ := by unfold Addr.add; split <;> simp_all
theorem run_loadCells_at {P : Program} {w : World} {b o : Nat} (vs : List Value) (h : ∀ j v, vs[j]? = some v → w.cell? ⟨b, o + j, none⟩ = some v) : (loadCells ⟨b, o, none⟩ vs.length).run P w = .ok vs.toArray w :=
 run_loadCells_list w ⟨b, o, none⟩ vs (fun j v hv => by rw [addr_add]; exact h j v hv)
theorem run_loadVar_at {P : Program} {w : World} {t b o : Nat} {ti : TI} (L : Lay P t ti) (vs : List Value) (hl : vs.length = if ti.isAgg then ti.size else 1) (h : ∀ j v, vs[j]? = some v → w.cell? ⟨b, o + j, none⟩ = some v) :
  (loadVar t ⟨b, o, none⟩).run P w = .ok (if ti.isAgg then .agg vs.toArray else vs.getD 0 undef) w := by
 unfold loadVar
 simp only [Sem.run_bind, L.run_isAgg w, Result.andThen_ok]
 cases hg : ti.isAgg with
 | true =>
  rw [hg] at hl
  simp only [if_true] at hl ⊢
  simp only [Sem.run_bind, L.run_sizeOf w, Result.andThen_ok, ← hl, run_loadCells_at vs h, Sem.run_pure]
 | false =>
  rw [hg] at hl
  simp only [Bool.false_eq_true, if_false] at hl ⊢
  obtain ⟨v, rfl⟩ : ∃ v, vs = [v] := by
   cases vs with
   | nil => simp at hl
   | cons v r => cases r with
    | nil => exact ⟨v, rfl⟩
    | cons _ _ => simp at hl
  have := h 0 v rfl
  simp only [run_load]
  rw [show (⟨b, o, none⟩ : Addr) = ⟨b, o + 0, none⟩ from rfl, this]
  rfl
end Go.Proofs.YtlhegfkpgchaeaaGreatDoor.Aw
