/- A function's contract out of its text, and its use at a call. -/
import Derived.Test.YtofjmhigfihhbaaDoorAwN
namespace Go.Proofs.YtofjmhigfihhbaaDoor.Aw
open Go Go.RowKit Go.Lib
set_option linter.unusedVariables false
set_option linter.unusedSimpArgs false

/-- Where a call begins. -/
def mine (c : Cx) (H : Hp) (b : Nat) : Prop := (∃ k cs, H[k]? = some (some cs) ∧ c.φ k = b) ∨ ∃ k, blk (c.τ k) = some b
def base (c : Cx) (w : World) (H : Hp) : Base := ⟨w, mine c H, c.imm, c.φ, H.length⟩
/-- A function's contract. -/
def Spec (P : Program) (g : FuncId) (args : List D) (H : Hp) (n : Nat) (R : D → Hp → Prop) : Prop :=
  FnOk P g ∧ ∀ (c : Cx) (w : World) (vs : List Value), Con (base c w H) c w H n → RepL c w args vs →
    Calls P g vs.toArray w (fun e w' => ∃ d v H' c', R d H' ∧ e = .returned v ∧ H'.length = H.length ∧ Con (base c w H) c' w' H' n ∧ Rep c' w' d v)
theorem Spec.mono {P : Program} {g : FuncId} {args : List D} {H : Hp} {n : Nat} {R R' : D → Hp → Prop} (h : Spec P g args H n R) (hR : ∀ d H, R d H → R' d H) : Spec P g args H n R' :=
  ⟨h.1, fun c w vs hC hr => (h.2 c w vs hC hr).mono fun e w' ⟨d, v, H', c', h1, h2⟩ => ⟨d, v, H', c', hR _ _ h1, h2⟩⟩

/-! The end of a function. -/
structure Fin (d : D) (H : Hp) (n h0 n0 : Nat) (R : D → Hp → Prop) : Prop where of ::
  out : ∀ (B : Base) (c : Cx) (w : World) (v : Value), B.h0 = h0 → Con B c w H n → Rep c w d v → ∃ d' H' c', R d' H' ∧ H'.length = h0 ∧ Con B c' w H' n0 ∧ Rep c' w d' v
theorem Fin.mk {d : D} {H : Hp} {n h0 n0 : Nat} {R : D → Hp → Prop} (d' : D) (H' : Hp) (hR : R d' H') (hl : H'.length = h0) (hi : Into [d] H n [d'] H' n0) : Fin d H n h0 n0 R := ⟨fun B c w v hB hC hv => by
  obtain ⟨h1, h2⟩ := hC.into (by omega) hi (repL_cons hv repL_nil)
  exact ⟨d', H', _, hR, hl, h1, (repL_cons_iff.1 h2).1⟩⟩
theorem Fin.frz {d : D} {H : Hp} {n h0 n0 : Nat} {R : D → Hp → Prop} (k : Nat) (h : Fin (d.frz k) (frzH k H) n h0 n0 R) : Fin d H n h0 n0 R := ⟨fun B c w v hB hC hv => by
  obtain ⟨h1, k1⟩ := hC.frz (k := k)
  exact h.out B _ w v hB h1 (Rep.frz k1 (fun b hb => .inr hb) _ _ hv)⟩
def retK (T : Tab) : List ResultVar → List D → Hp → (List D → Prop) → Prop
  | [], _, _, K => K []
  | .tmp t :: r, E, H, K => evK E (.tmp t) fun d => retK T r E H fun ds => K (d :: ds)
  | .cell a t :: r, E, H, K => loadD T t (ev E (.tmp a)) H fun d => retK T r E H fun ds => K (d :: ds)
def oneK (ds : List D) (K : D → Prop) : Prop := match ds with
  | [d] => K d
  | ds => K (.tup ds)
/-- What is asked where a function's text ends. -/
def Ends (T : Tab) (rs : List ResultVar) (h0 n0 : Nat) (R : D → Hp → Prop) (x : X) (E : List D) (H : Hp) (n : Nat) : Prop :=
  match x with
  | .exit _ => False
  | _ => retK T rs E H fun ds => oneK ds fun d => Fin d H n h0 n0 R
def padK (a : List D) : Nat → List D
  | 0 => a
  | n + 1 => match a with
    | [] => .junk :: padK [] n
    | d :: ds => d :: padK ds n
theorem padK_eq : ∀ (n : Nat) (a : List D), padK a n = a ++ List.replicate (n - a.length) .junk
  | 0, a => by simp [padK]
  | n + 1, [] => by simp [padK, padK_eq n [], List.replicate_succ]
  | n + 1, d :: ds => by
    simp only [padK, padK_eq n ds, List.cons_append, List.length_cons]
    rw [show n + 1 - (ds.length + 1) = n - ds.length by omega]
section
variable {P : Program}
def resOne (ts : Array Value) : ResultVar → Sem Value
  | .tmp t => pure (ts.getD t undef)
  | .cell a t => do loadVar t (← asAddr (ts.getD a undef))
theorem results_eq (fn : Func) (ts : Array Value) : results fn ts = (do
    let vs ← fn.results.mapM (resOne ts)
    pure (if h : vs.size = 1 then vs[0] else .tuple vs)) := rfl
theorem retK_sound {T : Tab} (hT : TabOk P 0 T) {B : Base} {c : Cx} {w : World} {H : Hp} {n : Nat} (hC : Con B c w H n) {E : List D} {ts : Array Value} (hE : RepL c w E ts.toList) : ∀ (rs : List ResultVar) (K : List D → Prop), retK T rs E H K →
    ∃ ds vs, K ds ∧ RepL c w ds vs ∧ (rs.mapM (resOne ts)).run P w = .ok vs w
  | [], K, h => ⟨[], [], h, repL_nil, rfl⟩
  | .tmp t :: r, K, h => by
    unfold retK at h
    rw [evK_eq] at h
    obtain ⟨ds, vs, h1, h2, h3⟩ := retK_sound hT hC hE r _ h
    have hv : Rep c w (ev E (.tmp t)) (ts.getD t undef) := rep_ev (a := ⟨ts, []⟩) hE (.tmp t)
    exact ⟨_, _, h1, repL_cons hv h2, by simp [List.mapM_cons, resOne, h3]⟩
  | .cell a t :: r, K, h => by
    unfold retK at h
    have hp : Rep c w (ev E (.tmp a)) (ts.getD a undef) := rep_ev (a := ⟨ts, []⟩) hE (.tmp a)
    obtain ⟨d, u, h, hl, hu⟩ := loadD_sound hT hC hp h
    have hl := hl w (Below.refl _ _)
    obtain ⟨ds, vs, h1, h2, h3⟩ := retK_sound hT hC hE r _ h
    refine ⟨_, _, h1, repL_cons hu h2, ?_⟩
    have : ∃ ad, ts.getD a undef = .pointer (some ad) := by
      simp only [Instr.loadAt, Sem.run_bind] at hl
      generalize ts.getD a undef = z at hl
      cases z with
      | pointer p => cases p with
        | none => simp [Instr.sureAddr] at hl
        | some ad => exact ⟨ad, rfl⟩
      | _ => simp [Instr.sureAddr] at hl
    obtain ⟨ad, had⟩ := this
    rw [had] at hl
    simp [Instr.loadAt, Instr.sureAddr] at hl
    simp [List.mapM_cons, resOne, had, asAddr, hl, h3]
theorem spec_sem {T : Tab} (hT : TabOk P 0 T) {g : FuncId} {fn : Func} {k : Code} {args : List D} {H : Hp} {n : Nat} {R : D → Hp → Prop} (hf : P.funcs[g]? = some fn) (hnm : (fn.name == "runtime.NumGoroutine") = false) (hb : fn.body = some k)
    (h : CSem P k (Ends T fn.results.toList H.length n R) (padK args fn.ntmps) H n) : Spec P g args H n R := by
  refine ⟨⟨fn, hf, hnm, by rw [hb]; rfl⟩, fun c w vs hC hr => ?_⟩
  refine calls_of_wp hf hb ?_
  have hE : RepL c w (padK args fn.ntmps) (vs.toArray ++ Array.replicate (fn.ntmps - vs.toArray.size) undef).toList := by
    rw [padK_eq]
    simp only [Array.toList_append, Array.toList_replicate, List.size_toArray]
    rw [hr.length]
    refine hr.append ?_
    have := repL_junk (c := c) (w := w) (List.replicate (fn.ntmps - args.length) undef)
    simpa using this
  refine wp_mono (h _ c w _ hC hE rfl) ?_
  rintro e a w' ⟨x, E', H', n', c', rfl, h1, h2, h3, h4⟩
  have fin : (retK T fn.results.toList E' H' fun ds => oneK ds fun d => Fin d H' n' H.length n R) → a.defers = [] ∧ ∃ v, (results fn a.tmps).run P w' = .ok v w' ∧ (∃ d v' H'' c'', R d H'' ∧ Ending.returned v = .returned v' ∧ H''.length = H.length ∧ Con (base c w H) c'' w' H'' n ∧ Rep c'' w' d v') := fun h1 => by
    obtain ⟨ds, us, h5, h6, h7⟩ := retK_sound hT h2 h3 _ _ h1
    have hres : (results fn a.tmps).run P w' = .ok (if h : us.toArray.size = 1 then us.toArray[0] else .tuple us.toArray) w' := by
      rw [results_eq, Sem.run_bind, Array.mapM_eq_mapM_toList]
      simp only [Sem.run_map, h7, Result.andThen_ok, Sem.run_pure]
    have hrep : ∃ d, Fin d H' n' H.length n R ∧ Rep c' w' d (if h : us.toArray.size = 1 then us.toArray[0] else .tuple us.toArray) := by
      by_cases h1 : ∃ d, ds = [d]
      · obtain ⟨d, rfl⟩ := h1
        unfold RepL at h6
        obtain ⟨v, vs', rfl, h8, h9⟩ := h6
        unfold RepL at h9
        subst h9
        exact ⟨d, h5, by simpa using h8⟩
      · have hl := h6.length
        have h5' : Fin (.tup ds) H' n' H.length n R := by
          unfold oneK at h5
          split at h5
          · exact absurd ⟨_, rfl⟩ h1
          · exact h5
        rw [dif_neg]
        · exact ⟨_, h5', by unfold Rep; exact ⟨us, rfl, h6⟩⟩
        · intro h2
          have : us.length = 1 := by simpa using h2
          rw [hl] at this
          obtain ⟨d, rfl⟩ : ∃ d, ds = [d] := by
            cases ds with
            | nil => simp at this
            | cons d r => cases r with
              | nil => exact ⟨d, rfl⟩
              | cons _ _ => simp at this
          exact h1 ⟨d, rfl⟩
    obtain ⟨d, hF, hd⟩ := hrep
    have hF' : ∀ (B : Base) (c : Cx) (w : World) (v : Value), B.h0 = H.length → Con B c w H' n' → Rep c w d v → ∃ d' H' c', R d' H' ∧ H'.length = H.length ∧ Con B c' w H' n ∧ Rep c' w d' v := by
      exact hF.out
    obtain ⟨d', H'', c'', g1, g2, g3, g4⟩ := hF' _ c' w' _ rfl h2 hd
    exact ⟨h4, _, hres, d', _, H'', c'', g1, rfl, g2, g3, g4⟩
  cases x with
  | normal => exact fin h1
  | exit id => exact h1.elim
  | ret => exact fin h1
theorem spec_mk {T : Tab} (hT : TabOk P 0 T) {g : FuncId} {fn : Func} {k : Code} {args : List D} {H : Hp} {n : Nat} {R : D → Hp → Prop} (hf : P.funcs[g]? = some fn) (hnm : (fn.name == "runtime.NumGoroutine") = false) (hb : fn.body = some k)
    (h : layK (padK args fn.ntmps) fun E => awp P T k (Ends T fn.results.toList H.length n R) E H n) : Spec P g args H n R := by
  rw [layK_eq] at h
  exact spec_sem hT hf hnm hb (awp_sound hT k h)
end
end Go.Proofs.YtofjmhigfihhbaaDoor.Aw
