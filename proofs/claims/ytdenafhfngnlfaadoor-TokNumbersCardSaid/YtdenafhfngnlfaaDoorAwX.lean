/- Ranges over functions: the statement, and the function that it stands in. -/
import Derived.Test.YtdenafhfngnlfaaDoorAwZ
namespace Go.Proofs.YtdenafhfngnlfaaDoor.Aw
open Go Go.RowKit Go.Lib
set_option linter.unusedVariables false
set_option linter.unusedSimpArgs false
section
variable {P : Program}
def Cx.addImm (c : Cx) (b : Nat) : Cx := { c with imm := fun x => c.imm x ∨ x = b }
/-- A new block that nothing of the state's is, told as one that does not turn. -/
theorem Con.addImm {B : Base} {c : Cx} {w : World} {H : Hp} {n b : Nat} (h : Con B c w H n) (hb : b < w.heap.size) (hB : B.w0.heap.size ≤ b) (hm : ¬ mine c H b) : Con B (c.addImm b) w H n ∧ Keep c (c.addImm b) w w none := by
  have hk : Keep c (c.addImm b) w w none := ⟨fun x hx => ⟨.inl hx, rfl⟩, Nat.le_refl _, Nat.le_refl _, fun _ _ => rfl, fun _ _ _ => ⟨rfl, fun _ _ => rfl⟩⟩
  refine ⟨⟨h.os, h.tape, h.output, h.size, h.old, fun x hx => .inl (h.imm0 x hx), fun x hx => ?_, h.hlen, h.nlen, h.hh, h.phi, fun k cs hk2 => ?_, fun k cs hk2 => ⟨(h.objM k cs hk2).1, fun hx => ?_⟩, h.inj, fun k x hx => ⟨(h.tags k x hx).1, fun hi => ?_, (h.tags k x hx).2.2⟩, h.tagInj, h.high, h.glob.keep hk.imm⟩, hk⟩
  · rcases hx with hx | rfl
    · exact h.immB x hx
    · exact ⟨hb, .inr (.inr hB)⟩
  · obtain ⟨C, T, e, hr⟩ := h.objs k cs hk2
    exact ⟨C, T, e, hr.mono hk⟩
  · rcases hx with hx | hx
    · exact (h.objM k cs hk2).2 hx
    · exact hm (.inl ⟨k, cs, hk2, hx⟩)
  · rcases hi with hi | rfl
    · exact (h.tags k x hx).2.1 hi
    · exact hm (.inr ⟨k, hx⟩)
/-- Where the statement has been: the mark that it leaves behind, the block that the mark names. -/
structure Left (B : Base) (c : Cx) (w : World) (H : Hp) (D : Nat) : Prop where
  lt : D < w.heap.size
  new : B.w0.heap.size ≤ D
  here : w.heap[D]? = some (.deferred (some []))
  free : ¬ mine c H D
  turns : ¬ c.imm D
abbrev markOf (D : Nat) : Deferred := { target := .collected D, args := #[] }
structure RangeK (P : Program) (g : Operand) (ps : Array Tmp) (x y : Code) (E : List D) (H : Hp) (n : Nat) (K : List D → Hp → Nat → Prop) : Prop where of ::
  out : ∀ (B : Base) (c : Cx) (w : World) (a : Act), Con B c w H n → RepL c w E a.tmps.toList → a.defers = [] →
    (Code.rangeFunc g ps x y).wpIn (Fw none) 0 P (fun e a' w' => e = .normal ∧ ∃ D E' H' n' c', K E' H' n' ∧ Con B c' w' H' n' ∧ RepL c' w' E' a'.tmps.toList ∧ a'.defers = [markOf D] ∧ Left B c' w' H' D) a w
/-- **The statement**: the function that is ranged over is called, yield in its hand. -/
theorem range_mk {g : Operand} {ps : Array Tmp} {x y : Code} {E : List D} {H : Hp} {n : Nat} {K : List D → Hp → Nat → Prop} {gf : FuncId} {capg «as» : List D} {Hs : Hp} {R : D → Hp → Prop} (ρ σ : List Nat) (hg : ev E g = .fn gf capg)
    (hs : Spec P gf «as» Hs σ.length R) (has : renL ρ σ «as» = .yl ps.toList x y E :: capg)
    (hρ : ρ.Nodup) (hσ : σ.Nodup) (hρb : ∀ r ∈ ρ, r < H.length) (hσb : ∀ k ∈ σ, k < n) (hfit : fitH ρ σ Hs.length σ.length ρ Hs H) (href : refL Hs.length σ.length «as»)
    (k : ∀ d Hs', R d Hs' → Hs'.length = Hs.length → noYH (putH ρ σ ρ Hs' (killsH σ H)) = true ∧ noYL (killsL σ E) = true ∧ K (killsL σ E) (putH ρ σ ρ Hs' (killsH σ H)) n) : RangeK P g ps x y E H n K := by
  refine ⟨fun B c w a hC hE hd => wpIn_rangeFunc (fun fn hfn => ?_)⟩
  have hx := rep_ev hE g
  rw [hg] at hx
  unfold Rep at hx
  obtain ⟨lb, hgv, hlb⟩ := hx
  have hb1 : Below w.heap.size w (w.alloc (.deferred (some []))) := (Below.refl _ _).alloc (Nat.le_refl _) _
  obtain ⟨rc, hrc⟩ : ∃ rc : Loop, rc = { state := .ready, pending := none, fn := fn, tmps := a.tmps, params := ps, assign := x, body := y, defers := w.heap.size } := ⟨_, rfl⟩
  obtain ⟨W1, hW1⟩ : ∃ W1, (w.alloc (.deferred (some []))).alloc (.loop rc) = W1 := ⟨_, rfl⟩
  have hb2 : Below w.heap.size w W1 := by rw [← hW1]; exact hb1.alloc (by simp) _
  have hL1 : W1.heap[w.heap.size + 1]? = some (.loop rc) := by
    rw [← hW1]
    have := World.alloc_heap_new (w.alloc (.deferred (some []))) (.loop rc)
    rwa [World.size_alloc] at this
  have hK1 : W1.heap[w.heap.size]? = some (.deferred (some [])) := by
    rw [← hW1]; exact (Below.heap_alloc _ _ _ (by simp)).trans (World.alloc_heap_new w _)
  have hsz : W1.heap.size = w.heap.size + 2 := by rw [← hW1, World.size_alloc, World.size_alloc]
  obtain ⟨hC1, hk1⟩ := hC.grow hb2
  have hnm : ∀ b, w.heap.size ≤ b → ¬ mine c H b := fun b hb hm => by
    have := (hC.mineB hm).2.1
    omega
  obtain ⟨hC2, hk2⟩ := hC1.addImm (b := w.heap.size + 1) (by omega) (by have := hC.size; omega) (hnm _ (by omega))
  have hE2 : RepL (c.addImm (w.heap.size + 1)) W1 E a.tmps.toList := (hE.mono hk1).mono hk2
  have hlb2 : RepL (c.addImm (w.heap.size + 1)) W1 capg lb := (hlb.mono hk1).mono hk2
  have hyl : Rep (c.addImm (w.heap.size + 1)) W1 (.yl ps.toList x y E) (.func (.yield (w.heap.size + 1)) #[] #[]) := by
    unfold Rep
    refine ⟨w.heap.size + 1, fn, w.heap.size, a.tmps.toList, rfl, .inr rfl, ?_, hE2⟩
    rw [hL1, hrc]
  have hall : RepL (c.addImm (w.heap.size + 1)) W1 (renL ρ σ «as») (.func (.yield (w.heap.size + 1)) #[] #[] :: lb) := by
    rw [has]
    exact repL_cons hyl hlb2
  obtain ⟨c1, hCc, hrc1, hback⟩ := core_gen ρ σ hρ hσ hρb hσb hfit href hC2.self hE2 hall
  obtain ⟨fg, hf, hnm2, hbd⟩ := hs.1
  have eg : ∀ args w, (callFunc gf args).run P w = .ok (.enter gf args) w := fun args w => by
    have hn2 : fg.name ≠ "runtime.NumGoroutine" := by simpa using hnm2
    have hb2 : ¬ fg.body = none := fun e => by rw [e] at hbd; cases hbd
    simp [callFunc, hf, hn2, hb2]
  refine ⟨w.heap.size + 1, [markOf w.heap.size], W1, { target := .fn (.func gf) lb.toArray, args := #[.func (.yield (w.heap.size + 1)) #[] #[]] }, W1, gf, #[.func (.yield (w.heap.size + 1)) #[] #[]] ++ lb.toArray, W1, ?_, ?_, fun _ _ => trivial, ?_, fun h => (by cases h), ?_⟩
  · rw [← hW1, hrc]; exact run_enterLoop_outer _ _ _ _ _
  · simp only [resolve, hgv]
    simp [go_sem]
  · simp [invoke, go_sem, eg]
  · have hargs : (#[.func (.yield (w.heap.size + 1)) #[] #[]] ++ lb.toArray : Array Value) = (Value.func (.yield (w.heap.size + 1)) #[] #[] :: lb).toArray := by simp
    rw [hargs]
    refine callsFw (Calls.mono (hs.2 c1 W1 _ hCc hrc1) ?_)
    rintro e w3 ⟨d, v, Hs', c2, hR, rfl, hl', hCr, hv⟩
    obtain ⟨c', hC3, hE3, _⟩ := hback w3 d v Hs' c2 hl' hCr hv
    obtain ⟨n1, n2, hK⟩ := k d Hs' hR hl'
    have hC4 := hC2.trans hC3
    have hmm : ∀ b, w.heap.size ≤ b → ¬ mine (c.addImm (w.heap.size + 1)) H b := fun b hb hm => hnm b hb hm
    have hl3 : w3.heap[w.heap.size + 1]? = some (.loop rc) := (hC3.old _ (by show _ < W1.heap.size; omega) (hmm _ (by omega))).trans hL1
    have hD3 : w3.heap[w.heap.size]? = some (.deferred (some [])) := (hC3.old _ (by show _ < W1.heap.size; omega) (hmm _ (by omega))).trans hK1
    refine ⟨none, _, by have := run_endLoop (P := P) hl3 (by rw [hrc]; simp); rw [hrc] at this; exact this, rfl, w.heap.size, _, _, n, c', hK, ?_, ?_, ?_, ?_⟩
    · refine hC4.off hl3 n1 ⟨rfl, rfl, rfl, rfl⟩ ⟨rfl, rfl, rfl, rfl⟩ (fun b hb hm => ?_)
      rw [World.putObj_heap_other (by have := hC.size; omega)]
      exact hC4.old b hb hm
    · exact RepL.off (Off.putObj hl3 _) _ _ n2 hE3
    · show [markOf w.heap.size] ++ a.defers = _
      rw [hd]; rfl
    · have hsz3 : W1.heap.size ≤ w3.heap.size := hC3.size
      refine ⟨by rw [putObj_size]; omega, hC.size, by rw [World.putObj_heap_other (by omega)]; exact hD3, fun hm => ?_, fun hi => ?_⟩
      · rcases (hC3.mineB hm).1 with h1 | h1
        · exact hmm _ (Nat.le_refl _) h1
        · have h1' : W1.heap.size ≤ w.heap.size := h1
          omega
      · rcases (hC3.immB _ hi).2 with h1 | h1 | h1
        · rcases h1 with h1 | h1
          · have := (hC.immB _ h1).1
            omega
          · omega
        · exact hmm _ (Nat.le_refl _) h1
        · have h1' : W1.heap.size ≤ w.heap.size := h1
          omega
theorem Left.run {B : Base} {c c' : Cx} {w w' : World} {H H' : Hp} {n' D : Nat} (h : Left B c w H D) (h2 : Con (base c w H) c' w' H' n') : Left B c' w' H' D := by
  refine ⟨Nat.lt_of_lt_of_le h.lt h2.size, h.new, (h2.old D h.lt h.free).trans h.here, fun hm => ?_, fun hi => ?_⟩
  · rcases (h2.mineB hm).1 with h3 | h3
    · exact h.free h3
    · have h3' : w.heap.size ≤ D := h3
      have := h.lt
      omega
  · rcases (h2.immB D hi).2 with h3 | h3 | h3
    · exact h.turns h3
    · exact h.free h3
    · have h3' : w.heap.size ≤ D := h3
      have := h.lt
      omega
def rangeOf : Code → Option (Code × Nat × Operand × Array Tmp × Code × Code)
  | .seq a (.block id (.rangeFunc g ps x y)) => some (a, id, g, ps, x, y)
  | _ => none
/-- A function's body, one of whose statements is a range over a function. -/
noncomputable def awpM (P : Program) (T : Tab) : Code → (X → List D → Hp → Nat → Prop) → List D → Hp → Nat → Prop
  | .seq a b, Q, E, H, n => match rangeOf a with
    | some (a', id, g, ps, x, y) => awpY none [] P T a' (fun e E H n => match e with
      | .normal => RangeK P g ps x y E H n (fun E' H' n' => ∀ D, awpY none [markOf D] P T b (fun x E H n => noYL E = true ∧ noYH H = true ∧ Q x E H n) E' H' n')
      | _ => False) E H n
    | none => awpY none [] P T a (fun e E H n => match e with
      | .normal => awpM P T b Q E H n
      | _ => False) E H n
  | _, _, _, _, _ => False
theorem rangeOf_is {a a' : Code} {id : Nat} {g : Operand} {ps : Array Tmp} {x y : Code} (h : rangeOf a = some (a', id, g, ps, x, y)) : a = .seq a' (.block id (.rangeFunc g ps x y)) := by
  unfold rangeOf at h
  split at h
  · cases h; rfl
  · cases h
def PostM (B : Base) (Q : X → List D → Hp → Nat → Prop) (e : Exit) (a : Act) (w : World) : Prop :=
  ∃ x E H n c D, e = conv x ∧ Q x E H n ∧ noYL E = true ∧ noYH H = true ∧ Con B c w H n ∧ RepL c w E a.tmps.toList ∧ a.defers = [markOf D] ∧ Left B c w H D
theorem awpM_sound {T : Tab} (hT : TabOk P 0 T) : ∀ (k : Code) {Q : X → List D → Hp → Nat → Prop} {E : List D} {H : Hp} {n : Nat}, awpM P T k Q E H n → ∀ (B : Base) (c : Cx) (w : World) (a : Act), Con B c w H n → RepL c w E a.tmps.toList → a.defers = [] → k.wpIn (Fw none) 0 P (PostM B Q) a w := by
  intro k
  induction k with
  | seq p q ihp ihq =>
    intro Q E H n h B c w a hC hE hd
    unfold awpM at h
    split at h
    · rename_i a' id g ps x y hr
      rw [rangeOf_is hr]
      refine wpIn_seq (wpIn_seq (wpIn_mono (awpY_sound hT a' h B c w a hC hE hd) ?_))
      rintro e a1 w1 ⟨x1, E1, H1, n1, c1, rfl, h1, hC1, hE1, hd1⟩
      cases x1 with
      | exit id => exact h1.elim
      | ret => exact h1.elim
      | normal =>
        refine wpIn_block (wpIn_mono (h1.out B c1 w1 a1 hC1 hE1 hd1) ?_)
        rintro e a2 w2 ⟨rfl, D, E2, H2, n2, c2, h2, hC2, hE2, hd2, hL⟩
        refine wpIn_mono (awpY_sound hT q (h2 D) _ c2 w2 a2 hC2.self hE2 hd2) ?_
        rintro e a3 w3 ⟨x3, E3, H3, n3, c3, rfl, ⟨h3, h4, h5⟩, hC3, hE3, hd3⟩
        exact ⟨x3, E3, H3, n3, c3, D, rfl, h5, h3, h4, hC2.trans hC3, hE3, hd3, hL.run hC3⟩
    · refine wpIn_seq (wpIn_mono (awpY_sound hT p h B c w a hC hE hd) ?_)
      rintro e a1 w1 ⟨x1, E1, H1, n1, c1, rfl, h1, hC1, hE1, hd1⟩
      cases x1 with
      | exit id => exact h1.elim
      | ret => exact h1.elim
      | normal => exact ihq h1 B c1 w1 a1 hC1 hE1 hd1
  | _ => intro Q E H n h; unfold awpM at h; exact h.elim
theorem ends_fin {T : Tab} (hT : TabOk P 0 T) {fn : Func} {B : Base} {c : Cx} {w : World} {H : Hp} {n h0 n0 : Nat} {E : List D} {ts : Array Value} {R : D → Hp → Prop} (h1 : retK T fn.results.toList E H fun ds => oneK ds fun d => Fin d H n h0 n0 R) (h2 : Con B c w H n) (hB : B.h0 = h0) (h3 : RepL c w E ts.toList) :
    ∃ v, (results fn ts).run P w = .ok v w ∧ ∃ d' H'' c'', R d' H'' ∧ H''.length = h0 ∧ Con B c'' w H'' n0 ∧ Rep c'' w d' v := by
  obtain ⟨ds, us, h5, h6, h7⟩ := retK_sound hT h2 h3 _ _ h1
  have hres : (results fn ts).run P w = .ok (if h : us.toArray.size = 1 then us.toArray[0] else .tuple us.toArray) w := by
    rw [results_eq, Sem.run_bind, Array.mapM_eq_mapM_toList]
    simp only [Sem.run_map, h7, Result.andThen_ok, Sem.run_pure]
  have hrep : ∃ d, Fin d H n h0 n0 R ∧ Rep c w d (if h : us.toArray.size = 1 then us.toArray[0] else .tuple us.toArray) := by
    by_cases h1 : ∃ d, ds = [d]
    · obtain ⟨d, rfl⟩ := h1
      unfold RepL at h6
      obtain ⟨v, vs', rfl, h8, h9⟩ := h6
      unfold RepL at h9
      subst h9
      exact ⟨d, h5, by simpa using h8⟩
    · have hl := h6.length
      have h5' : Fin (.tup ds) H n h0 n0 R := by
        unfold oneK at h5
        split at h5
        · exact absurd ⟨_, rfl⟩ h1
        · exact h5
      rw [dif_neg]
      · exact ⟨_, h5', by unfold Rep; exact ⟨us, rfl, h6⟩⟩
      · intro h2
        have : us.length = 1 := by simpa using h2
        rw [hl] at this
        obtain ⟨d, rfl⟩ : ∃ d, ds = [d] := by
          cases ds with
          | nil => simp at this
          | cons d r => cases r with
            | nil => exact ⟨d, rfl⟩
            | cons _ _ => simp at this
        exact h1 ⟨d, rfl⟩
  obtain ⟨d, hF, hd⟩ := hrep
  obtain ⟨d', H'', c'', g1, g2, g3, g4⟩ := hF.out _ c w _ hB h2 hd
  exact ⟨_, hres, d', H'', c'', g1, g2, g3, g4⟩
theorem spec_mkM {T : Tab} (hT : TabOk P 0 T) {g : FuncId} {fn : Func} {k : Code} {args : List D} {H : Hp} {n : Nat} {R : D → Hp → Prop} (hf : P.funcs[g]? = some fn) (hnm : (fn.name == "runtime.NumGoroutine") = false) (hb : fn.body = some k)
    (h : layK (padK args fn.ntmps) fun E => awpM P T k (Ends T fn.results.toList H.length n R) E H n) : Spec P g args H n R := by
  rw [layK_eq] at h
  refine ⟨⟨fn, hf, hnm, by rw [hb]; rfl⟩, fun c w vs hC hr => ?_⟩
  refine callsIn_wide.1 (callsIn_of_wp_marks (F := Fence.wide) (n := 0) hf hb trivial ?_)
  have hE : RepL c w (padK args fn.ntmps) (vs.toArray ++ Array.replicate (fn.ntmps - vs.toArray.size) undef).toList := by
    rw [padK_eq]
    simp only [Array.toList_append, Array.toList_replicate, List.size_toArray]
    rw [hr.length]
    refine hr.append ?_
    have := repL_junk (c := c) (w := w) (List.replicate (fn.ntmps - args.length) undef)
    simpa using this
  refine wpIn_mono (awpM_sound hT k h _ c w _ hC hE rfl) ?_
  rintro e a w' ⟨x, E', H', n', c', D, rfl, h1, hy1, hy2, hC', hE', hd, hL⟩
  have hof : Off w' (w'.putObj D (.deferred none)) D := ⟨fun C T z e => (by rw [hL.here] at e; cases e), fun b hb => World.putObj_heap_other hb⟩
  have hC2 : Con (base c w H) c' (w'.putObj D (.deferred none)) H' n' := hC'.offG hof (tabP_mono (fun b hb => World.putObj_heap_other (fun e => hL.turns (e ▸ hC'.glob.imm b hb))) hC'.glob.tab) hy2 ⟨rfl, rfl, rfl, rfl⟩ ⟨rfl, rfl, rfl, rfl⟩ (fun b hb hm => by
    have hn : w.heap.size ≤ D := hL.new
    have hb' : b < w.heap.size := hb
    rw [World.putObj_heap_other (by omega)]
    exact hC'.old b hb hm)
  have hE2 := RepL.off hof E' _ hy1 hE'
  have fin : (retK T fn.results.toList E' H' fun ds => oneK ds fun d => Fin d H' n' H.length n R) → LeavesInM Fence.wide 0 P fn a.tmps (fun e w' => ∃ d v H' c', R d H' ∧ e = .returned v ∧ H'.length = H.length ∧ Con (base c w H) c' w' H' n ∧ Rep c' w' d v) a.defers .returning w' := fun h1 => by
    obtain ⟨v, g1, d', H'', c'', g2, g3, g4, g5⟩ := ends_fin hT h1 hC2 rfl hE2
    rw [hd]
    exact ⟨by simp, .inl ⟨D, _, rfl, run_takeDeferred hL.here, v, g1, d', v, H'', c'', g2, rfl, g3, g4, g5⟩⟩
  cases x with
  | normal => exact fin h1
  | exit id => exact h1.elim
  | ret => exact fin h1
/-- A function that is handed a yield. -/
theorem spec_mkY {T : Tab} (hT : TabOk P 0 T) {g : FuncId} {fn : Func} {k : Code} {args : List D} {H : Hp} {n : Nat} {R : D → Hp → Prop} (hf : P.funcs[g]? = some fn) (hnm : (fn.name == "runtime.NumGoroutine") = false) (hb : fn.body = some k)
    (h : layK (padK args fn.ntmps) fun E => awpY none [] P T k (Ends T fn.results.toList H.length n R) E H n) : Spec P g args H n R := by
  rw [layK_eq] at h
  exact spec_sem hT hf hnm hb fun B c w a hC hE hd => wpIn_wide.1 (wpIn_mono (awpY_sound hT k h B c w a hC hE hd) fun e a w h => h)
end
end Go.Proofs.YtdenafhfngnlfaaDoor.Aw
