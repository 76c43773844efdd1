/- Regions that draw their order: trees with loads, and with operations that only add. -/
import Derived.Test.YtdfiegleaknleaaAwT
namespace Go.Proofs.Ytdfiegleaknleaa.Aw
open Go Go.RowKit Go.Lib
set_option linter.unusedVariables false
set_option linter.unusedSimpArgs false
section
variable {P : Program}
inductive Tr where
  | done
  | one (i q : Nat) (s : Tr)
  | two (i q : Nat) (s : Tr) (j q' : Nat) (s' : Tr)
def pureU (T : Tab) (o : Oper) (E : List D) (K : D → Prop) : Prop :=
  match o.op with
  | .build t parts => buildD T t parts.toList E K
  | .slice t x lo hi none => tiK T t fun ti => (match ti.desc with
    | .string => (match ev E x with
      | .f (.v (.string s)) => boundK E lo 0 fun l => boundK E hi s.size fun h => Owes (0 ≤ l ∧ l ≤ h ∧ h ≤ s.size) (K (.str (s.extract l.toNat h.toNat)))
      | _ => False)
    | _ => False)
  | _ => pureD T o E K
def growU (P : Program) (T : Tab) (o : Oper) (E : List D) (H : Hp) (n : Nat) (K : KD) : Prop :=
  match o.op with
  | .alloc t => tiK T t fun ti => numK H.length fun h => pushHK H (some (ofCs ti.zero)) fun H' => K (.ptr h 0) E H' n
  | _ => growD P T o E H n K
def drawU (P : Program) (T : Tab) (q : Nat) (o : Oper) (E : List D) (H : Hp) (n : Nat) (K : KD) : Prop :=
  bif Nat.beq q 0 then pureU T o E fun d => K d E H n
  else bif Nat.beq q 1 then memD T o E H fun d => K d E H n
  else bif Nat.beq q 2 then growU P T o E H n K
  else opD P T o E H n K
def stepU (P : Program) (T : Tab) (all : List Oper) (i q : Nat) (k : List D → Hp → Nat → Prop) (E : List D) (H : Hp) (n : Nat) : Prop :=
  match all[i]? with
    | none => False
    | some o => match o.guard with
      | none => drawU P T q o E H n (fun d E H n => putK E o.dst d (fun E => k E H n))
      | some (j, want) =>
        match slotOf all j with
        | some s => match E.getD s .junk with
          | .f (.v (.bool t)) =>
            bif want then Case t (drawU P T q o E H n (fun d E H n => putK E o.dst d (fun E => k E H n))) (putK E o.dst (.tup []) (fun E => k E H n))
            else Case t (putK E o.dst (.tup []) (fun E => k E H n)) (drawU P T q o E H n (fun d E H n => putK E o.dst d (fun E => k E H n)))
          | .tup [] => putK E o.dst (.tup []) (fun E => k E H n)
          | _ => False
        | none => False
theorem placesK_openA {T : Tab} (hT : TabOk P 0 T) : ∀ (fs : List Field) (K : List (Nat × Nat) → Prop), placesK T fs K →
    ∃ ps, K ps ∧ ∀ w, (fs.mapM (m := Sem) fun f => do pure (f.offset, ← sizeOf f.type)).run P w = .ok ps w
  | [], K, h => ⟨[], h, fun _ => rfl⟩
  | f :: fs, K, h => by
    unfold placesK at h
    obtain ⟨u, L, h⟩ := tiK_open hT h
    obtain ⟨ps, h1, h2⟩ := placesK_openA hT fs _ h
    refine ⟨_, h1, fun w => ?_⟩
    have h2 := h2 w
    simp at h2
    simp [List.mapM_cons, L.run_sizeOf w, h2]
theorem buildD_soundA {T : Tab} (hT : TabOk P 0 T) {c : Cx} {w : World} {E : List D} {a : Act} (hE : RepL c w E a.tmps.toList) {t : Nat} {parts : Array (Nat × Operand)} {K : D → Prop} (h : buildD T t parts.toList E K) :
    ∃ d v, K d ∧ (∀ w, (Instr.build t (parts.map fun (i, x) => (i, a.eval x))).run P w = .ok v w) ∧ Rep c w d v := by
  unfold buildD at h
  obtain ⟨ti, L, h⟩ := tiK_open hT h
  have hz : RepL c w (ofCs ti.zero) ti.zval.cells.toList := by rw [L.zero]; exact repL_ofCs _
  split at h
  · rename_i fs hd
    have hu : P.underlying t = some (.struct fs) := by rw [L.und, hd]
    obtain ⟨ps, h1, h2⟩ := placesK_openA hT _ _ h
    obtain ⟨cs', vs', h3, h4, h5⟩ := fill_sound hE _ _ _ _ hz h1
    refine ⟨_, .agg vs', h3, fun w => ?_, by unfold Rep; exact ⟨vs'.toList, by simp, h5⟩⟩
    have h2 := h2 w
    have h2' : (fs.mapM (m := Sem) fun f => do pure (f.offset, ← sizeOf f.type)).run P w = .ok ps.toArray w := by
      rw [Array.mapM_eq_mapM_toList]
      simp at h2
      simp [h2]
    simp only [Instr.build, Sem.run_bind, L.run_zeroValue w, run_underlying hu, Result.andThen_ok, h2']
    have e1 : (parts.map fun (i, x) => (i, a.eval x)).toList = parts.toList.map fun (i, x) => (i, a.eval x) := by simp
    have e2 : (fun i : Nat => (ps.toArray)[i]?) = fun i : Nat => ps[i]? := by funext i; simp
    rw [e1, e2, h4]
    rfl
  · rename_i m e hd
    have hu : P.underlying t = some (.array m e) := by rw [L.und, hd]
    obtain ⟨u, L', h⟩ := tiK_open hT h
    obtain ⟨cs', vs', h3, h4, h5⟩ := fill_sound hE _ _ _ _ hz h
    refine ⟨_, .agg vs', h3, fun w => ?_, by unfold Rep; exact ⟨vs'.toList, by simp, h5⟩⟩
    simp only [Instr.build, Sem.run_bind, L.run_zeroValue w, run_underlying hu, Result.andThen_ok, L'.run_sizeOf w]
    have e1 : (parts.map fun (i, x) => (i, a.eval x)).toList = parts.toList.map fun (i, x) => (i, a.eval x) := by simp
    rw [e1, h4]
    rfl
  · exact h.elim
theorem pureU_sound {T : Tab} (hT : TabOk P 0 T) {o : Oper} {c : Cx} {w : World} {a : Act} {E : List D} (hE : RepL c w E a.tmps.toList) {K : D → Prop} (h : pureU T o E K) :
    ∃ d v, K d ∧ (∀ w' : World, (execOp a.eval o).run P w' = .ok (.value v) w') ∧ Rep c w d v := by
  unfold pureU at h
  split at h
  · rename_i t parts ho
    obtain ⟨d, v, h1, h2, h3⟩ := buildD_soundA hT hE h
    refine ⟨d, v, h1, fun w' => ?_, h3⟩
    have h2 := h2 w'
    simp at h2
    simp [execOp, ho, h2]
  · rename_i t x lo hi ho
    replace h := tiK_open hT h; obtain ⟨ti, L, h⟩ := h
    split at h
    · rename_i hd
      have hu : P.underlying t = some .string := by rw [L.und, hd]
      split at h
      · rename_i s ex
        have hx := rep_ev hE x
        rw [ex] at hx
        have e1 := rep_v hx
        obtain ⟨l, h, hl⟩ := boundK_open hE h
        obtain ⟨m, h, hm⟩ := boundK_open hE h
        replace h := Owes.open h; obtain ⟨⟨b1, b2, b3⟩, h⟩ := h
        refine ⟨_, _, h, fun w' => ?_, rep_of _ rfl⟩
        simp [execOp, ho, e1, Instr.sliceAt, run_underlying hu, Instr.slice, run_bounds (P := P) (w := w') (E := E) (isSlice := false) hl hm b1 b2 b3 (Nat.le_refl _)]
      · exact h.elim
    · exact h.elim
  · exact pureD_sound hT hE h
theorem growU_sound {T : Tab} (hT : TabOk P 0 T) {o : Oper} {E : List D} {H : Hp} {n : Nat} {K : KD} (h : growU P T o E H n K) {B : Base} {c : Cx} {w : World} {a : Act} (hC : Con B c w H n) (hE : RepL c w E a.tmps.toList) (hd : a.defers = []) :
    o.wp P a w (fun a' w' => Below w.heap.size w w' ∧ ∃ d v E' H' n' c', K d E' H' n' ∧ a' = a.put o.dst v ∧ Con B c' w' H' n' ∧ RepL c' w' E' a.tmps.toList ∧ Rep c' w' d v) (fun _ _ _ => False) := by
  unfold growU at h
  split at h
  · rename_i t ho
    replace h := tiK_open hT h; obtain ⟨ti, L, h⟩ := h
    rw [numK_eq, pushHK_eq] at h
    obtain ⟨hC', hk⟩ := hC.push (C := ti.zval.cells) (T := t) (cs := ofCs ti.zero) (by rw [L.zero]; exact repL_ofCs _)
    have hrun : (execOp a.eval o).run P w = .ok (.value (.pointer (some ⟨w.heap.size, 0, none⟩))) (w.alloc (.cells ti.zval.cells t)) := by
      simp [execOp, ho, Instr.alloc, L.run_zeroValue w, newVar, newRow]
    unfold Oper.wp
    rw [hrun]
    refine ⟨(Below.refl _ _).alloc (Nat.le_refl _) _, _, _, E, _, n, _, h, rfl, hC', hE.mono hk, ?_⟩
    unfold Rep
    rw [← hC.hlen]
    refine ⟨Nat.lt_succ_self _, ?_⟩
    show _ = Value.pointer (some ⟨if c.h = c.h then _ else _, _, _⟩)
    rw [if_pos rfl]
  · exact growD_sound hT h hC hE hd
noncomputable def drawV (P : Program) (T : Tab) (all : List Oper) (s : Tr) (K : List D → Hp → Nat → Prop) : List D → Hp → Nat → Prop :=
  Tr.rec (motive := fun _ => List D → Hp → Nat → Prop) K (fun i q _ k => stepU P T all i q k) (fun i q _ j q' _ k k' => fun E H n => Both (stepU P T all i q k E H n) (stepU P T all j q' k' E H n)) s
def okLoad (ops : Array Oper) (L : List Nat) (i : Nat) (listed : Array Bool) : Bool := (List.range ops.size).all fun j => listed.getD j true || j == i || !L.contains j || waits ops ops.size j i
def okU (ops : Array Oper) (L : List Nat) : Tr → Array Bool → Bool
  | .done, listed => (Region.ready .any ops listed).isEmpty
  | .one i q s, listed => (if q ≤ 1 then (Region.ready .any ops listed).contains i && Region.free .any ops listed i && (q == 0 || okLoad ops L i listed) else Region.ready .any ops listed == [i] && (q == 2 || L.contains i)) && okU ops L s (listed.setIfInBounds i true)
  | .two i q s j q' s', listed => decide (2 ≤ q) && decide (2 ≤ q') && (q == 2 || L.contains i) && (q' == 2 || L.contains j) && Region.ready .any ops listed == [i, j] && okU ops L s (listed.setIfInBounds i true) && okU ops L s' (listed.setIfInBounds j true)
def Tr.size : Tr → Nat
  | .done => 0
  | .one _ _ s => s.size + 1
  | .two _ _ s _ _ _ => s.size + 1
def Tr.even : Tr → Bool
  | .done => true
  | .one _ _ s => s.even
  | .two _ _ s _ _ s' => s.size == s'.size && s.even && s'.even
/-- The ways of one operation: it is done, or it is skipped. -/
theorem stepU_open {T : Tab} {all : Array Oper} {i q : Nat} {K : List D → Hp → Nat → Prop} {E : List D} {H : Hp} {n : Nat} {c : Cx} {w : World} {a : Act} (h : stepU P T all.toList i q K E H n) (hE : RepL c w E a.tmps.toList) {G : Prop}
    (go : ∀ o, all[i]? = some o → Region.wanted o (yielded all a.tmps) = true → drawU P T q o E H n (fun d E H n => putK E o.dst d (fun E => K E H n)) → G)
    (skip : ∀ o, all[i]? = some o → Region.wanted o (yielded all a.tmps) = false → putK E o.dst (.tup []) (fun E => K E H n) → G) : G := by
  unfold stepU at h
  have hops : all[i]? = all.toList[i]? := by simp
  rw [← hops] at h
  cases hoi : all[i]? with
  | none => rw [hoi] at h; exact h.elim
  | some o =>
    rw [hoi] at h
    simp only at h
    replace go := go o hoi
    replace skip := skip o hoi
    split at h
    · rename_i hg
      exact go (by simp [Region.wanted, hg]) h
    · rename_i j want hg
      split at h
      · rename_i i' hs
        split at h
        · rename_i t he
          have hy := yielded_of hE hs he
          cases want with
          | true =>
            simp only [cond_true] at h
            replace h := Case.open h
            rcases h with ⟨rfl, h⟩ | ⟨rfl, h⟩
            · exact go (by simp [Region.wanted, hg, hy]) h
            · exact skip (by simp [Region.wanted, hg, hy]) h
          | false =>
            simp only [cond_false] at h
            replace h := Case.open h
            rcases h with ⟨rfl, h⟩ | ⟨rfl, h⟩
            · exact skip (by simp [Region.wanted, hg, hy]) h
            · exact go (by simp [Region.wanted, hg, hy]) h
        · rename_i he
          exact skip (by simp [Region.wanted, hg, yielded_undef hE hs he]) h
        · exact h.elim
      · exact h.elim
/-- One operation that comes up. -/
theorem stepU_up {T : Tab} (hT : TabOk P 0 T) {all : Array Oper} {B : Base} {Q : X → List D → Hp → Nat → Prop} {i q : Nat} {L : List Nat} {K : List D → Hp → Nat → Prop} {G : Act → World → Prop} {E : List D} {H : Hp} {n : Nat} {c : Cx} {w : World} {a : Act}
    (hq : 2 ≤ q) (hl : (q == 2 || L.contains i) = true) (hG : ∀ E H n c w a, K E H n → Con B c w H n → RepL c w E a.tmps.toList → a.defers = [] → G a w)
    (h : stepU P T all.toList i q K E H n) (hC : Con B c w H n) (hE : RepL c w E a.tmps.toList) (hd : a.defers = []) : wpOp P all (Post B Q) i (fun a' w' => (L.contains i = false → Below w.heap.size w w') ∧ G a' w') a w := by
  refine stepU_open h hE (fun o hoi hwa h => ?_) (fun o hoi hwa h => ?_)
  · unfold wpOp
    rw [hoi]
    simp only [hwa, if_true]
    by_cases h2 : q = 2
    · subst h2
      have h : growU P T o E H n (fun d E H n => putK E o.dst d (fun E => K E H n)) := h
      refine .inl (Oper.wp_false (Oper.wp_mono ?_ (growU_sound hT h hC hE hd)))
      rintro a' w' ⟨hb, d, v, E', H', n', c', h2, rfl, h3, h4, h5⟩
      obtain ⟨E2, h6, h7⟩ := repL_put h4 h5 o.dst h2
      exact ⟨fun _ => hb, hG E2 H' n' c' w' _ h6 h3 h7 (by rw [put_defers]; exact hd)⟩
    · have hc : L.contains i = true := by
        have : (q == 2) = false := by simpa using h2
        rw [this] at hl
        simpa using hl
      have h : opD P T o E H n (fun d E H n => putK E o.dst d (fun E => K E H n)) := by
        match q, hq, h2, h with
        | q + 3, _, _, h => exact h
      refine .inl (Oper.wp_false (Oper.wp_mono ?_ (opD_sound hT h B c w a hC hE hd)))
      rintro a' w' ⟨d, v, E', H', n', c', h2, rfl, h3, h4, h5⟩
      obtain ⟨E2, h6, h7⟩ := repL_put h4 h5 o.dst h2
      exact ⟨fun hf => (by rw [hc] at hf; cases hf), hG E2 H' n' c' w' _ h6 h3 h7 (by rw [put_defers]; exact hd)⟩
  · unfold wpOp
    rw [hoi]
    simp only [hwa, Bool.false_eq_true, if_false]
    obtain ⟨E2, h6, h7⟩ := repL_put hE rep_undef o.dst h
    exact ⟨fun _ => Below.refl _ _, hG E2 H n c w _ h6 hC h7 (by rw [put_defers]; exact hd)⟩
/-- One operation that is taken first: of its operands alone, or a load. -/
theorem stepU_first {T : Tab} (hT : TabOk P 0 T) {all : Array Oper} (hno : Region.noSelect all = true) {B : Base} {Q : X → List D → Hp → Nat → Prop} {i q : Nat} {L : List Nat} {K : List D → Hp → Nat → Prop} {f : Nat} {listed : Array Bool} {E : List D} {H : Hp} {n : Nat} {c : Cx} {w : World} {a : Act}
    (hq : q ≤ 1) (hmem : i ∈ Region.ready .any all listed) (hfree : Region.free .any all listed i = true) (hld : (q == 0 || okLoad all L i listed) = true) (hcl : Closed all listed)
    (hG : ∀ E H n c w a, K E H n → Con B c w H n → RepL c w E a.tmps.toList → a.defers = [] → wpAnyB P all (fun j => L.contains j) (Post B Q) f (listed.setIfInBounds i true) a w)
    (h : stepU P T all.toList i q K E H n) (hC : Con B c w H n) (hE : RepL c w E a.tmps.toList) (hd : a.defers = []) : wpAnyB P all (fun j => L.contains j) (Post B Q) (f + 1) listed a w := by
  have first : ∀ (o : Oper) (S : World → Prop) (v : Value) (d : D), all[i]? = some o → YieldsIf P all S o v a → (∀ w w', S w → Below w.heap.size w w' → S w') → S w → ((∀ w, S w) ∨ q = 1) → Rep c w d v →
      putK E o.dst d (fun E => K E H n) → wpAnyB P all (fun j => L.contains j) (Post B Q) (f + 1) listed a w := fun o S v d hoi hy hS hw hor hr hp => by
    obtain ⟨E2, h6, h7⟩ := repL_put hE hr o.dst hp
    refine wpAnyB_first (S := S) (m := all.size) hoi (Region.noSelect_spec hno) (fun c a w h => (post_panic h).elim) hS f listed a w hcl (Region.free_spec hoi hfree) (fun j oj hj hun hne hl => ?_) hmem hy hw (hG E2 H n c w _ h6 hC h7 (by rw [put_defers]; exact hd))
    rcases hor with h8 | rfl
    · exact .inl h8
    · right
      have hld : okLoad all L i listed = true := hld
      unfold okLoad at hld
      simp only [List.all_eq_true, List.mem_range] at hld
      have := hld j (Array.getElem?_eq_some_iff.1 hj).1
      have hl2 : j ∈ L := by simpa using hl
      simpa [hun, hne, hl2] using this
  refine stepU_open h hE (fun o hoi hwa h => ?_) (fun o hoi hwa h => ?_)
  · match q, hq, h, first with
    | 0, _, h, first =>
      obtain ⟨d, v, h1, h2, h3⟩ := pureU_sound (w := w) hT hE h
      exact first o (fun _ => True) _ _ hoi (.inl ⟨hwa, fun w' _ => h2 w'⟩) (fun _ _ _ _ => trivial) trivial (.inl fun _ => trivial) h3 h1
    | 1, _, h, first =>
      obtain ⟨d, v, h1, h2, h3⟩ := memD_sound hT hC hE h
      exact first o (fun w' => Below w.heap.size w w') _ _ hoi (.inl ⟨hwa, h2⟩) (fun w1 w2 hb hb2 => hb.trans (hb2.mono hb.size)) (Below.refl _ _) (.inr rfl) h3 h1
  · exact first o (fun _ => True) _ _ hoi (.inr ⟨hwa, rfl⟩) (fun _ _ _ _ => trivial) trivial (.inl fun _ => trivial) rep_undef h
theorem drawV_sound {T : Tab} (hT : TabOk P 0 T) {all : Array Oper} {L : List Nat} (hno : Region.noSelect all = true) {B : Base} {Q : X → List D → Hp → Nat → Prop} : ∀ (s : Tr) (listed : Array Bool) (E : List D) (H : Hp) (n : Nat) (c : Cx) (w : World) (a : Act),
    okU all L s listed = true → s.even = true → Closed all listed → drawV P T all.toList s (Q .normal) E H n → Con B c w H n → RepL c w E a.tmps.toList → a.defers = [] → wpAnyB P all (fun j => L.contains j) (Post B Q) s.size listed a w
  | .done, listed, E, H, n, c, w, a, ho, hv, hcl, h, hC, hE, hd => by
    unfold okU at ho
    exact ⟨by simpa using ho, .normal, E, H, n, c, rfl, h, hC, hE, hd⟩
  | .one i q s, listed, E, H, n, c, w, a, ho, hv, hcl, h, hC, hE, hd => by
    have ih := fun listed E H n c w a => drawV_sound hT (B := B) (Q := Q) hno (L := L) s listed E H n c w a
    unfold okU at ho
    unfold Tr.even at hv
    have h : stepU P T all.toList i q (drawV P T all.toList s (Q .normal)) E H n := h
    rw [Bool.and_eq_true] at ho
    obtain ⟨ho1, ho2⟩ := ho
    by_cases hq : q ≤ 1
    · rw [if_pos hq, Bool.and_eq_true, Bool.and_eq_true] at ho1
      have hmem : i ∈ Region.ready .any all listed := by simpa using ho1.1.1
      exact stepU_first hT hno hq hmem ho1.1.2 ho1.2 hcl (fun E H n c w a hk hC hE hd => ih _ E H n c w a ho2 hv (hcl.set hmem) hk hC hE hd) h hC hE hd
    · rw [if_neg hq, Bool.and_eq_true] at ho1
      have hr : Region.ready .any all listed = [i] := eq_of_beq ho1.1
      have hmem : i ∈ Region.ready .any all listed := by rw [hr]; simp
      exact wpAnyB_only hr (stepU_up hT (by omega) ho1.2 (fun E H n c w a hk hC hE hd => ih _ E H n c w a ho2 hv (hcl.set hmem) hk hC hE hd) h hC hE hd)
  | .two i q s j q' s', listed, E, H, n, c, w, a, ho, hv, hcl, h, hC, hE, hd => by
    have ih := fun listed E H n c w a => drawV_sound hT (B := B) (Q := Q) hno (L := L) s listed E H n c w a
    have ih' := fun listed E H n c w a => drawV_sound hT (B := B) (Q := Q) hno (L := L) s' listed E H n c w a
    unfold okU at ho
    unfold Tr.even at hv
    have h : Both (stepU P T all.toList i q (drawV P T all.toList s (Q .normal)) E H n) (stepU P T all.toList j q' (drawV P T all.toList s' (Q .normal)) E H n) := h
    obtain ⟨g1, g2⟩ := h.out
    simp only [Bool.and_eq_true] at ho hv
    obtain ⟨⟨⟨⟨⟨⟨q1, q2⟩, l1⟩, l2⟩, ho1⟩, ho2⟩, ho3⟩ := ho
    obtain ⟨⟨hz, hv1⟩, hv2⟩ := hv
    have hz : s.size = s'.size := by simpa using hz
    have hr : Region.ready .any all listed = [i, j] := eq_of_beq ho1
    have hi : i ∈ Region.ready .any all listed := by rw [hr]; simp
    have hj : j ∈ Region.ready .any all listed := by rw [hr]; simp
    refine ⟨fun h0 => (by rw [hr] at h0; cases h0), fun k hk => ?_⟩
    rw [hr] at hk
    have : k = i ∨ k = j := by simpa using hk
    rcases this with rfl | rfl
    · exact stepU_up hT (by simpa using q1) l1 (fun E H n c w a hk hC hE hd => ih _ E H n c w a ho2 hv1 (hcl.set hi) hk hC hE hd) g1 hC hE hd
    · exact stepU_up hT (by simpa using q2) l2 (fun E H n c w a hk hC hE hd => by rw [hz]; exact ih' _ E H n c w a ho3 hv2 (hcl.set hj) hk hC hE hd) g2 hC hE hd
/-- **A region that draws its order**, along a tree of orders. -/
theorem step_draws {T : Tab} (hT : TabOk P 0 T) (hm : P.follows .mixedOrders = true) {id : Nat} {ops : Array Oper} (s : Tr) (L : List Nat) {Q : X → List D → Hp → Nat → Prop} {E : List D} {H : Hp} {n : Nat}
    (hs : (Region.noSelect ops && s.size == ops.size && s.even && okU ops L s (Array.replicate ops.size false)) = true) (h : drawV P T ops.toList s (Q .normal) E H n) : Step P (.region id ops true) Q E H n := by
  refine Step.mk fun B c w a hC hE hd => ?_
  simp only [Bool.and_eq_true] at hs
  obtain ⟨⟨⟨h1, h2⟩, h3⟩, h4⟩ := hs
  obtain ⟨hC2, hk2⟩ := hC.grow (w' := w.drew) (Below.refl _ _).drew
  have h5 := drawV_sound hT (B := B) (Q := Q) (L := L) h1 s (Array.replicate ops.size false) E H n c w.drew a h4 h3 (fun j o hj hl => by
    exfalso
    rcases Nat.lt_or_ge j ops.size with h' | h'
    · simp [h'] at hl
    · simp [Array.getElem?_eq_none, h'] at hl) h hC2 (hE.mono hk2) hd
  rw [eq_of_beq h2] at h5
  exact wp_region_any hm (wpAny_of_B _ _ _ _ h5)
end
end Go.Proofs.Ytdfiegleaknleaa.Aw
