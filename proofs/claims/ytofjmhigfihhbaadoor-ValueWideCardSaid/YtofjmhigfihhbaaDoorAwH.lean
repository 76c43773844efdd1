/- Slices that are made, cut and appended to, on abstract values, and that the machine does just that. -/
import Derived.Test.YtofjmhigfihhbaaDoorAwG
namespace Go.Proofs.YtofjmhigfihhbaaDoor.Aw
open Go Go.RowKit
set_option linter.unusedVariables false
set_option linter.unusedSimpArgs false

/-- Cells as data that no longer turns: named slices among them are frozen. -/
def frzK : Nat → List D → List D → Hp → (List F → List D → Hp → Prop) → Prop
  | _, [], E, H, K => K [] E H
  | 0, _ :: _, _, _, _ => False
  | m + 1, d :: ds, E, H, K => match d with
    | .f x => frzK m ds E H fun xs E H => K (x :: xs) E H
    | .nil => frzK m ds E H fun xs E H => K (.sl [] :: xs) E H
    | .own k _ _ es => frzK m (killL k ds) (killL k E) (killH k H) fun xs E H => K (.sl es :: xs) E H
    | _ => False
def rowsK (size : Nat) : List (Nat × Operand) → Nat → List D → Hp → (List (List F) → List D → Hp → Prop) → Prop
  | [], _, E, H, K => K [] E H
  | (j, x) :: r, i, E, H, K => bif Nat.beq j i then evK E x fun d => cellsK d fun ds => bif Nat.beq ds.length size then
      frzK ds.length ds E H fun xs E H => rowsK size r (i + 1) E H fun rows E H => K (xs :: rows) E H else False else False
def buildSliceD (T : Tab) (t len : Nat) (parts : List (Nat × Operand)) (E : List D) (H : Hp) (n : Nat) (K : KD) : Prop :=
  tiK T t fun ti => match ti.desc with
    | .slice e => tiK T e fun u => bif Nat.beq parts.length len && Nat.ble (len * u.size) 16777216 && Nat.ble 1 u.size then
        rowsK u.size parts 0 E H fun rows E H => K (.own n e u.size rows) E H (n + 1) else False
    | _ => False

theorem RepRows.toR {imm : Nat → Prop} {w : World} {s : Nat} : ∀ {es : List (List F)} {xs : List Value} {b o : Nat}, RepRows imm w s es xs → (∀ j v, xs[j]? = some v → w.cell? ⟨b, o + j, none⟩ = some v) → RepR imm w es b o
  | [], _, _, _, _, _ => by unfold RepR; trivial
  | e :: es, xs, b, o, h, hc => by
    unfold RepRows at h
    obtain ⟨ys, zs, rfl, hl, h1, h2⟩ := h
    have hys : ys.length = e.length := by
      have : ∀ {xs : List F} {vs : List Value}, RepFs imm w xs vs → vs.length = xs.length := by
        intro xs
        induction xs with
        | nil => intro vs h; unfold RepFs at h; subst h; rfl
        | cons x xs ih => intro vs h; unfold RepFs at h; obtain ⟨v, vs', rfl, _, h⟩ := h; simp [ih h]
      exact this h1
    unfold RepR
    refine ⟨h1.toC (fun j v hj => hc j v ?_), h2.toR (fun j v hj => ?_)⟩
    · have : j < ys.length := (List.getElem?_eq_some_iff.1 hj).1
      rw [List.getElem?_append_left this]; exact hj
    · rw [show o + e.length + j = o + (ys.length + j) by omega]
      refine hc _ v ?_
      rw [List.getElem?_append_right (by omega), show ys.length + j - ys.length = j by omega]
      exact hj
theorem OwnOk.toF {imm imm' : Nat → Prop} {w : World} {v : Value} {t s : Nat} {es : List (List F)} (h : OwnOk imm w v t s es) (hk : ImmKeep imm imm' w w) (hb : ∀ b, blk v = some b → imm' b) : RepF imm' w (.sl es) v := by
  obtain ⟨hs, xs, how, hr⟩ := h
  unfold RepF
  rcases how.2 with ⟨rfl, h0⟩ | ⟨g, cap, cur, rfl, _, ⟨fz, _, hh⟩, hc, _, _, htake⟩
  · exact .inl ⟨⟨_, rfl⟩, List.eq_nil_of_length_eq_zero h0⟩
  · refine .inr ⟨g, 0, cap, rfl, hc, hb g rfl, (hr.mono hk).toR (fun j v hj => ?_)⟩
    rw [cell_of_row w _ _ cur t fz hh]
    rw [← htake, List.getElem?_take] at hj
    split at hj
    · simpa [Nat.zero_add] using hj
    · cases hj
section
variable {P : Program} {c : Cx} {w : World} {H : Hp} {n : Nat} {B : Base}
theorem Keep.immSelf {c' : Cx} {k : Option Nat} (h : Keep c c' w w k) : ImmKeep c.imm c'.imm w w := h.imm
theorem ImmKeep.rfl' {i : Nat → Prop} : ImmKeep i i w w := fun b h => ⟨h, rfl⟩
theorem ImmKeep.trans {i j k : Nat → Prop} (h : ImmKeep i j w w) (h' : ImmKeep j k w w) : ImmKeep i k w w := fun b hb => ⟨(h' b (h b hb).1).1, rfl⟩
theorem frzK_sound {ts : List Value} : ∀ (m : Nat) {c : Cx} {H : Hp} (ds : List D) (E : List D) (vs : List Value) (K : List F → List D → Hp → Prop), Con B c w H n → RepL c w E ts → RepL c w ds vs → frzK m ds E H K →
    ∃ xs E' H' c', K xs E' H' ∧ Con B c' w H' n ∧ RepL c' w E' ts ∧ RepFs c'.imm w xs vs ∧ ImmKeep c.imm c'.imm w w
  | m, c, H, [], E, vs, K, hC, hE, hd, h => by
    unfold RepL at hd
    subst hd
    unfold frzK at h
    exact ⟨[], E, H, c, h, hC, hE, by unfold RepFs; rfl, ImmKeep.rfl'⟩
  | 0, c, H, d :: ds, E, vs, K, hC, hE, hd, h => h.elim
  | m + 1, c, H, d :: ds, E, vs, K, hC, hE, hd, h => by
    unfold RepL at hd
    obtain ⟨v, vs', rfl, h1, h2⟩ := hd
    unfold frzK at h
    split at h
    · rename_i x
      obtain ⟨xs, E', H', c', h3, h4, h5, h6, h7⟩ := frzK_sound m ds E vs' _ hC hE h2 h
      unfold Rep at h1
      exact ⟨_, E', H', c', h3, h4, h5, by unfold RepFs; exact ⟨v, vs', rfl, h1.mono h7, h6⟩, h7⟩
    · obtain ⟨xs, E', H', c', h3, h4, h5, h6, h7⟩ := frzK_sound m ds E vs' _ hC hE h2 h
      unfold Rep at h1
      subst h1
      exact ⟨_, E', H', c', h3, h4, h5, by unfold RepFs RepF; exact ⟨_, vs', rfl, .inl ⟨⟨_, rfl⟩, rfl⟩, h6⟩, h7⟩
    · rename_i k t s es
      obtain ⟨hC1, k1⟩ := hC.freeze (k := k)
      unfold Rep at h1
      obtain ⟨hk, rfl, ho⟩ := h1
      have hx : RepF (c.freeze k).imm w (.sl es) (c.τ k) := ho.toF k1.imm (fun b hb => .inr hb)
      obtain ⟨xs, E', H', c', h3, h4, h5, h6, h7⟩ := frzK_sound m (killL k ds) (killL k E) vs' _ hC1 (RepL.kill k1 _ _ hE) (RepL.kill k1 _ _ h2) h
      exact ⟨_, E', H', c', h3, h4, h5, by unfold RepFs; exact ⟨_, vs', rfl, hx.mono h7, h6⟩, k1.imm.trans h7⟩
    · exact h.elim
theorem rowsK_sound {a : Act} (size : Nat) : ∀ (parts : List (Nat × Operand)) (i : Nat) {c : Cx} {H : Hp} (E : List D) (K : List (List F) → List D → Hp → Prop), Con B c w H n → RepL c w E a.tmps.toList → rowsK size parts i E H K →
    ∃ rows E' H' c', K rows E' H' ∧ Con B c' w H' n ∧ RepL c' w E' a.tmps.toList ∧ RepRows c'.imm w size rows (parts.flatMap fun (_, x) => (a.eval x).cells.toList) ∧ rows.length = parts.length ∧ ImmKeep c.imm c'.imm w w ∧
      ∀ (cs : Array Value), (i + parts.length) * size ≤ cs.size → ∃ cs', Instr.fill (fun i => some (i * size, size)) cs (parts.map fun (i, x) => (i, a.eval x)) = some cs' ∧
        cs'.toList = cs.toList.take (i * size) ++ (parts.flatMap fun (_, x) => (a.eval x).cells.toList) ++ cs.toList.drop ((i + parts.length) * size)
  | [], i, c, H, E, K, hC, hE, h => by
    refine ⟨[], E, H, c, h, hC, hE, by unfold RepRows; rfl, rfl, ImmKeep.rfl', fun cs hl => ⟨cs, rfl, by simp⟩⟩
  | (j, x) :: r, i, c, H, E, K, hC, hE, h => by
    unfold rowsK at h
    cases hb : Nat.beq j i with
    | false => simp only [hb, cond_false] at h
    | true =>
      simp only [hb, cond_true, evK_eq] at h
      have e0 := beq_eq hb
      subst e0
      obtain ⟨ds, h, hd, h1⟩ := cellsK_open (rep_ev hE x) h
      cases hb2 : Nat.beq ds.length size with
      | false => simp only [hb2, cond_false] at h
      | true =>
        simp only [hb2, cond_true] at h
        have e1 := beq_eq hb2
        obtain ⟨xs, E1, H1, c1, h2, hC1, hE1, hx, hk1⟩ := frzK_sound _ ds E _ _ hC hE hd h
        obtain ⟨rows, E2, H2, c2, h3, hC2, hE2, hrows, hlen, hk2, hfill⟩ := rowsK_sound size r (j + 1) E1 _ hC1 hE1 h2
        have hsz : (a.eval x).cells.size = size := by rw [← Array.length_toList, hd.length, e1]
        have hxl : xs.length = size := by
          have : ∀ {xs : List F} {vs : List Value}, RepFs c1.imm w xs vs → vs.length = xs.length := by
            intro xs
            induction xs with
            | nil => intro vs h; unfold RepFs at h; subst h; rfl
            | cons x xs ih => intro vs h; unfold RepFs at h; obtain ⟨v, vs', rfl, _, h⟩ := h; simp [ih h]
          rw [← this hx, Array.length_toList, hsz]
        refine ⟨_, E2, H2, c2, h3, hC2, hE2, ?_, by simp [hlen], hk1.trans hk2, fun cs hl => ?_⟩
        · simp only [List.flatMap_cons]
          unfold RepRows
          exact ⟨_, _, rfl, hxl, hx.mono hk2, hrows⟩
        · simp only [List.length_cons] at hl
          have hmul : (j + (r.length + 1)) * size = j * size + size + r.length * size := by rw [Nat.add_mul, Nat.add_mul, Nat.one_mul]; omega
          have hf := foldl_set (a.eval x).cells.toList (j * size) 0 cs (by simp [hsz]; omega)
          simp only [Nat.add_zero] at hf
          have hcs : (((a.eval x).cells.zipIdx.foldl (fun cs (c, k) => cs.setIfInBounds (j * size + k) c) cs)).toList = cs.toList.take (j * size) ++ (a.eval x).cells.toList ++ cs.toList.drop (j * size + size) := by
            rw [← Array.foldl_toList, Array.toList_zipIdx, hf]
            simp [hsz]
          have hsize2 : ((a.eval x).cells.zipIdx.foldl (fun cs (c, k) => cs.setIfInBounds (j * size + k) c) cs).size = cs.size := by
            rw [← Array.length_toList, hcs]
            simp [hsz]
            omega
          obtain ⟨cs', h4, h5⟩ := hfill ((a.eval x).cells.zipIdx.foldl (fun cs (c, k) => cs.setIfInBounds (j * size + k) c) cs) (by rw [hsize2]; rw [show (j + 1 + r.length) * size = (j + (r.length + 1)) * size by congr 1; omega]; exact hl)
          refine ⟨cs', ?_, ?_⟩
          · simp only [List.map_cons, Instr.fill]
            rw [if_neg]
            · exact h4
            · simp [hsz]
              omega
          · rw [h5, hcs]
            simp only [List.flatMap_cons, List.length_cons]
            have hmul2 : (j + 1) * size = j * size + size := by rw [Nat.add_mul, Nat.one_mul]
            have hl1 : (cs.toList.take (j * size) ++ (a.eval x).cells.toList).length = (j + 1) * size := by
              simp [hsz]
              rw [hmul2]
              omega
            rw [List.take_append_of_le_length (by rw [hl1]; exact Nat.le_refl _), List.take_of_length_le (by rw [hl1]; exact Nat.le_refl _)]
            rw [List.drop_append, List.drop_of_length_le (by rw [hl1]; exact Nat.mul_le_mul_right _ (by omega)), hl1, List.nil_append, List.drop_drop]
            rw [show j * size + size + ((j + 1 + r.length) * size - (j + 1) * size) = (j + (r.length + 1)) * size by
              rw [hmul, Nat.add_mul (j + 1) r.length size, hmul2]; omega]
            simp [List.append_assoc]
theorem RepRows.length {imm : Nat → Prop} {s : Nat} : ∀ {es : List (List F)} {xs : List Value}, RepRows imm w s es xs → xs.length = es.length * s
  | [], _, h => by unfold RepRows at h; subst h; simp
  | e :: es, xs, h => by
    unfold RepRows at h
    obtain ⟨ys, zs, rfl, hl, h1, h2⟩ := h
    have hys : ys.length = e.length := by
      have : ∀ {xs : List F} {vs : List Value}, RepFs imm w xs vs → vs.length = xs.length := by
        intro xs
        induction xs with
        | nil => intro vs h; unfold RepFs at h; subst h; rfl
        | cons x xs ih => intro vs h; unfold RepFs at h; obtain ⟨v, vs', rfl, _, h⟩ := h; simp [ih h]
      exact this h1
    simp [hys, hl, RepRows.length h2, Nat.add_mul]
    omega
theorem buildSliceD_sound {T : Tab} (hT : TabOk P 0 T) (hC : Con B c w H n) {E : List D} {a : Act} (hE : RepL c w E a.tmps.toList) {t len : Nat} {parts : Array (Nat × Operand)} {K : KD} (h : buildSliceD T t len parts.toList E H n K) :
    ∃ d v E' H' n' c' w', K d E' H' n' ∧ (Instr.buildSlice t len (parts.map fun (i, x) => (i, a.eval x))).run P w = .ok v w' ∧ Con B c' w' H' n' ∧ RepL c' w' E' a.tmps.toList ∧ Rep c' w' d v ∧ Below w.heap.size w w' := by
  unfold buildSliceD at h
  obtain ⟨ti, L, h⟩ := tiK_open hT h
  split at h
  · rename_i e hd
    obtain ⟨u, L', h⟩ := tiK_open hT h
    have hu : P.underlying t = some (.slice e) := by rw [L.und, hd]
    cases hb : (Nat.beq parts.toList.length len && Nat.ble (len * u.size) 16777216 && Nat.ble 1 u.size) with
    | false => simp only [hb, cond_false] at h
    | true =>
      simp only [hb, cond_true] at h
      simp only [Bool.and_eq_true] at hb
      have e1 : parts.toList.length = len := beq_eq hb.1.1
      have e2 := Nat.le_of_ble_eq_true hb.1.2
      have e3 := Nat.le_of_ble_eq_true hb.2
      obtain ⟨rows, E1, H1, c1, h2, hC1, hE1, hrows, hlen, hk1, hfill⟩ := rowsK_sound u.size parts.toList 0 E _ hC hE h
      have hzr : ∀ (z : Array Value), ((Array.range (len * u.size)).map (z[· % z.size]!)).size = len * u.size := fun z => by simp
      have hne : ¬ (len * u.size > 2 ^ 24) := by omega
      have e4 : (parts.map fun (i, x) => (i, a.eval x)).toList = parts.toList.map fun (i, x) => (i, a.eval x) := by simp
      let zero : Array Value := if len * u.size = 0 then #[] else u.zval.cells
      obtain ⟨cs', h4, h5⟩ := hfill ((Array.range (len * u.size)).map (zero[· % zero.size]!)) (by rw [hzr, e1]; simp)
      have hl5 : cs'.toList = parts.toList.flatMap fun (_, x) => (a.eval x).cells.toList := by
        rw [h5, e1]
        simp
      have hsz : cs'.size = len * u.size := by
        rw [← Array.length_toList, hl5, hrows.length, hlen, e1]
      have hbel : Below w.heap.size w (w.alloc (.cells cs' e)) := (Below.refl _ _).alloc (Nat.le_refl _) _
      obtain ⟨hC2, hk2⟩ := hC1.newTag (v := .slice (some ⟨w.heap.size, 0, none⟩) len len) hbel (fun b hb => by
        have e5 : w.heap.size = b := by simpa [blk, Value.ownBlock] using hb
        subst e5
        exact ⟨Nat.le_refl _, by simp⟩)
      refine ⟨_, .slice (some ⟨w.heap.size, 0, none⟩) len len, E1, H1, n + 1, _, w.alloc (.cells cs' e), h2, ?_, hC2, hE1.mono hk2, ?_, hbel⟩
      · by_cases h0 : len * u.size = 0
        · have hz0 : zero = #[] := by show (if _ then _ else _) = _; rw [if_pos h0]
          rw [hz0] at h4
          simp only [Instr.buildSlice, Sem.run_bind, run_underlying hu, Result.andThen_ok, L'.run_sizeOf w, hne, if_false, if_pos h0, Sem.run_pure, e4, h4]
          rfl
        · have hz0 : zero = u.zval.cells := by show (if _ then _ else _) = _; rw [if_neg h0]
          rw [hz0] at h4
          simp only [Instr.buildSlice, Sem.run_bind, run_underlying hu, Result.andThen_ok, L'.run_sizeOf w, hne, if_false, if_neg h0, L'.run_zeroValue w, Sem.run_pure, e4, h4]
          rfl
      · unfold Rep
        have hnn := hC1.nlen
        subst hnn
        refine ⟨Nat.lt_succ_self _, (c1.newTag_same _).symm, e3, cs'.toList, ?_, ?_⟩
        · rw [c1.newTag_same, hlen, e1]
          refine ownsM_of (World.ownsRow_lit w cs' len (Nat.zero_le _) ?_ hsz)
          have : len * 1 ≤ len * u.size := Nat.mul_le_mul_left _ e3
          unfold maxLen
          omega
        · rw [hl5]
          exact hrows.mono (fun b hb => ⟨hb, hbel.block b (hC1.immB b hb).1⟩)
  · exact h.elim
end
end Go.Proofs.YtofjmhigfihhbaaDoor.Aw
