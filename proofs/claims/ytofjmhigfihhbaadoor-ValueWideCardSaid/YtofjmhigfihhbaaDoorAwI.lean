/- Slices that are cut, converted and appended to, on abstract values, and that the machine does just that. -/
import Derived.Test.YtofjmhigfihhbaaDoorAwH
namespace Go.Proofs.YtofjmhigfihhbaaDoor.Aw
open Go Go.RowKit
set_option linter.unusedVariables false
set_option linter.unusedSimpArgs false

/-- A bound of a slice expression. -/
def boundK (E : List D) (o : Option Operand) (dflt : Int) (K : Int → Prop) : Prop :=
  match o with
  | none => K dflt
  | some x => match ev E x with
    | .f (.v (.int _ i)) => K i
    | _ => False
def sliceD (T : Tab) (t : Nat) (x : D) (lo hi mx : Option Operand) (E : List D) (H : Hp) (n : Nat) (K : KD) : Prop :=
  match mx with
  | some _ => False
  | none => tiK T t fun ti => match ti.desc with
    | .string => (match x with
      | .f (.v (.string s)) => boundK E lo 0 fun l => boundK E hi s.size fun h => Owes (0 ≤ l ∧ l ≤ h ∧ h ≤ s.size) (K (.str (s.extract l.toNat h.toNat)) E H n)
      | _ => False)
    | .slice e => tiK T e fun u => (match x with
      | .f (.sl es) => boundK E lo 0 fun l => boundK E hi es.length fun h => Owes (∀ e ∈ es, e.length = u.size) (Part es l h fun es' => K (.f (.sl es')) E H n)
      | .own k e' s es => (match lo with
        | none => boundK E hi es.length fun h => Part es 0 h fun es' => K (.own k e' s es') (killL k E) (killH k H) n
        | some _ => False)
      | .nil => boundK E lo 0 fun l => boundK E hi 0 fun h => Owes (l = 0 ∧ h = 0) (K .nil E H n)
      | _ => False)
    | _ => False
section
variable {P : Program} {c : Cx} {w : World} {H : Hp} {n : Nat} {B : Base}
theorem boundK_open {E : List D} {a : Act} (hE : RepL c w E a.tmps.toList) {o : Option Operand} {dflt : Int} {K : Int → Prop} (h : boundK E o dflt K) :
    ∃ i : Int, K i ∧ ((o = none ∧ i = dflt) ∨ ∃ x k, o = some x ∧ a.eval x = .int k i) := by
  unfold boundK at h
  cases o with
  | none => exact ⟨_, h, .inl ⟨rfl, rfl⟩⟩
  | some x =>
    have hx := rep_ev hE x
    simp only at h
    split at h
    · rename_i k i e
      rw [e] at hx
      exact ⟨i, h, .inr ⟨x, k, rfl, rep_v hx⟩⟩
    · exact h.elim
theorem RepR.sub {imm : Nat → Prop} {s : Nat} : ∀ {es : List (List F)} {b o : Nat}, RepR imm w es b o → (∀ e ∈ es, e.length = s) → ∀ (l h : Nat), RepR imm w ((es.take h).drop l) b (o + l * s)
  | [], b, o, _, _, l, h => by simp [RepR]
  | e :: es, b, o, hr, hl, l, 0 => by simp [RepR]
  | e :: es, b, o, hr, hl, 0, h + 1 => by
    have hr' := hr
    unfold RepR at hr
    have h1 := RepR.sub hr.2 (fun e he => hl e (List.mem_cons_of_mem _ he)) 0 h
    simp only [Nat.zero_mul, Nat.add_zero, List.drop_zero] at h1
    simp only [List.take_succ_cons, List.drop_zero, Nat.zero_mul, Nat.add_zero]
    unfold RepR
    exact ⟨hr.1, h1⟩
  | e :: es, b, o, hr, hl, l + 1, h + 1 => by
    unfold RepR at hr
    have h1 := RepR.sub hr.2 (fun e he => hl e (List.mem_cons_of_mem _ he)) l h
    rw [hl e (List.mem_cons_self ..)] at h1
    simp only [List.take_succ_cons, List.drop_succ_cons]
    rw [show o + (l + 1) * s = o + s + l * s by rw [Nat.add_mul, Nat.one_mul]; omega]
    exact h1
theorem RepRows.take {imm : Nat → Prop} {s : Nat} : ∀ {es : List (List F)} {xs : List Value} (h : Nat), RepRows imm w s es xs → RepRows imm w s (es.take h) (xs.take (h * s))
  | [], xs, h, hr => by
    unfold RepRows at hr
    subst hr
    simp [RepRows]
  | e :: es, xs, 0, hr => by simp [RepRows]
  | e :: es, xs, h + 1, hr => by
    unfold RepRows at hr
    obtain ⟨ys, zs, rfl, hl, h1, h2⟩ := hr
    have hys : ys.length = e.length := by
      have : ∀ {xs : List F} {vs : List Value}, RepFs imm w xs vs → vs.length = xs.length := by
        intro xs
        induction xs with
        | nil => intro vs h; unfold RepFs at h; subst h; rfl
        | cons x xs ih => intro vs h; unfold RepFs at h; obtain ⟨v, vs', rfl, _, h⟩ := h; simp [ih h]
      exact this h1
    simp only [List.take_succ_cons]
    unfold RepRows
    refine ⟨ys, zs.take (h * s), ?_, hl, h1, RepRows.take h h2⟩
    rw [List.take_append, List.take_of_length_le (by rw [hys, hl, Nat.add_mul, Nat.one_mul]; omega)]
    congr 2
    rw [hys, hl, Nat.add_mul, Nat.one_mul]
    omega
theorem run_bound {x : Value} {k : IntKind} {i : Int} {y : Nat} {code : BoundsCode} (e : x = .int k i) (h : 0 ≤ i ∧ i ≤ y) : (Instr.sliceBound x y code).run P w = .ok i.toNat w := by
  subst e
  simp [Instr.sliceBound, asIntOf, h.1, h.2]
/-- The two bounds. -/
theorem run_bounds {E : List D} {a : Act} {lo hi : Option Operand} {isSlice : Bool} {len cap : Nat} {l h : Int} (h1 : (lo = none ∧ l = 0) ∨ ∃ x k, lo = some x ∧ a.eval x = .int k l) (h2 : (hi = none ∧ h = len) ∨ ∃ x k, hi = some x ∧ a.eval x = .int k h)
    (h3 : 0 ≤ l) (h4 : l ≤ h) (h5 : h ≤ len) (h6 : len ≤ cap) : (Instr.sliceBounds isSlice len cap (lo.map a.eval) (hi.map a.eval) none).run P w = .ok (l.toNat, h.toNat, cap) w := by
  rcases h1 with ⟨rfl, rfl⟩ | ⟨x1, k1, rfl, e1⟩ <;> rcases h2 with ⟨rfl, rfl⟩ | ⟨x2, k2, rfl, e2⟩
  · simp [Instr.sliceBounds]
  · have r2 := fun code => run_bound (P := P) (w := w) (y := cap) (code := code) e2 ⟨by omega, by omega⟩
    simp [Instr.sliceBounds, r2]
  · have r1 := fun code => run_bound (P := P) (w := w) (y := len) (code := code) e1 ⟨by omega, by omega⟩
    simp [Instr.sliceBounds, r1]
  · have r2 := fun code => run_bound (P := P) (w := w) (y := cap) (code := code) e2 ⟨by omega, by omega⟩
    have r1 := fun code => run_bound (P := P) (w := w) (y := h.toNat) (code := code) e1 ⟨by omega, by omega⟩
    simp [Instr.sliceBounds, r2, r1]
theorem sliceD_sound {T : Tab} (hT : TabOk P 0 T) (hC : Con B c w H n) {E : List D} {a : Act} (hE : RepL c w E a.tmps.toList) {t : Nat} {x : D} {v : Value} (hx : Rep c w x v) {lo hi mx : Option Operand} {K : KD} (h : sliceD T t x lo hi mx E H n K) :
    ∃ d u E' H' c', K d E' H' n ∧ (Instr.sliceAt t v (lo.map a.eval) (hi.map a.eval) (mx.map a.eval)).run P w = .ok u w ∧ Con B c' w H' n ∧ RepL c' w E' a.tmps.toList ∧ Rep c' w d u := by
  unfold sliceD at h
  cases mx with
  | some m => exact h.elim
  | none =>
    simp only at h
    replace h := tiK_open hT h; obtain ⟨ti, L, h⟩ := h
    split at h
    · rename_i hd
      have hu : P.underlying t = some .string := by rw [L.und, hd]
      split at h
      · rename_i s
        have e1 := rep_v hx
        subst e1
        obtain ⟨l, h, hl⟩ := boundK_open hE h
        obtain ⟨m, h, hm⟩ := boundK_open hE h
        replace h := Owes.open h; obtain ⟨⟨b1, b2, b3⟩, h⟩ := h
        refine ⟨_, _, E, H, c, h, ?_, hC, hE, rep_of _ rfl⟩
        simp [Instr.sliceAt, run_underlying hu, Instr.slice, run_bounds (P := P) (w := w) (E := E) (isSlice := false) hl hm b1 b2 b3 (Nat.le_refl _)]
      · exact h.elim
    · rename_i e hd
      have hu : P.underlying t = some (.slice e) := by rw [L.und, hd]
      replace h := tiK_open hT h; obtain ⟨u, L', h⟩ := h
      split at h
      · rename_i es
        obtain ⟨l, h, hl⟩ := boundK_open hE h
        obtain ⟨m, h, hm⟩ := boundK_open hE h
        replace h := Owes.open h; obtain ⟨hsz, h⟩ := h
        replace h := Part.open h; obtain ⟨l', m', rfl, rfl, b2, b3, h⟩ := h
        unfold Rep RepF at hx
        rcases hx with ⟨⟨a0, rfl⟩, rfl⟩ | ⟨b, o, cap, rfl, hc, him, hr⟩
        · simp at b3
          subst b3
          have : l' = 0 := by omega
          subst this
          have hb := run_bounds (P := P) (w := w) (E := E) (isSlice := true) (cap := 0) hl hm (by simp) (by simp) (by simp) (Nat.le_refl _)
          simp at hb
          refine ⟨_, .slice a0 0 0, E, H, c, h, ?_, hC, hE, by unfold Rep RepF; exact .inl ⟨⟨_, rfl⟩, by simp⟩⟩
          cases a0 <;> simp [Instr.sliceAt, run_underlying hu, Instr.slice, hb, L'.run_sizeOf]
        · have hb := run_bounds (P := P) (w := w) (E := E) (isSlice := true) (cap := cap) hl hm (by omega) (by omega) (by omega) hc
          refine ⟨_, .slice (some (if cap = l' then ⟨b, o, none⟩ else ⟨b, o + l' * u.size, none⟩)) (m' - l') (cap - l'), E, H, c, h, ?_, hC, hE, ?_⟩
          · simp only [Instr.sliceAt, Sem.run_bind, run_underlying hu, Result.andThen_ok, Instr.slice, Option.map_none, hb, L'.run_sizeOf w, Sem.run_pure, Option.map_some, addr_add, Int.toNat_natCast]
            congr 2
            split <;> rfl
          · unfold Rep RepF
            have hlen : ((es.take m').drop l').length = m' - l' := by simp; omega
            by_cases hcl : cap = l'
            · refine .inr ⟨b, o, cap - l', ?_, by rw [hlen]; omega, him, ?_⟩
              · rw [if_pos hcl, hlen]
              · have : (es.take m').drop l' = [] := List.eq_nil_of_length_eq_zero (by rw [hlen]; omega)
                rw [this]
                unfold RepR
                trivial
            · refine .inr ⟨b, o + l' * u.size, cap - l', ?_, by rw [hlen]; omega, him, hr.sub hsz l' m'⟩
              rw [if_neg hcl, hlen]
      · rename_i k e' s es
        split at h
        · obtain ⟨m, h, hm⟩ := boundK_open hE h
          replace h := Part.open h; obtain ⟨l', m', e0, rfl, b2, b3, h⟩ := h
          have : l' = 0 := by omega
          subst this
          rw [List.drop_zero] at h
          unfold Rep at hx
          obtain ⟨hk, rfl, hs, xs, how, hrow⟩ := hx
          have hkn : k < n := by rw [← hC.nlen]; exact hk
          rcases how.2 with ⟨h1, h0⟩ | ⟨g, cap, cur, e1, _, hh, hcap, hmax, hcur, htake⟩
          · have hes : es = [] := List.eq_nil_of_length_eq_zero h0
            subst hes
            have hm0 : m' = 0 := by simpa using b3
            subst hm0
            obtain ⟨hC1, k1⟩ := hC.retag hkn (w' := w) (v := c.τ k) ⟨rfl, rfl, rfl, Nat.le_refl _, fun _ _ _ => rfl⟩ (fun b hb => by rw [h1] at hb; cases hb)
            refine ⟨_, nilS, _, _, _, h, ?_, hC1, RepL.kill k1 _ _ hE, ?_⟩
            · have hb := run_bounds (P := P) (w := w) (E := E) (isSlice := true) (cap := 0) (.inl ⟨rfl, rfl⟩) hm (by simp) (by simp) (by simp) (Nat.le_refl _)
              rw [h1]
              simp at hb
              simp [Instr.sliceAt, run_underlying hu, Instr.slice, hb, L'.run_sizeOf]
            · unfold Rep
              refine ⟨hk, by rw [c.retag_same, h1], hs, xs, ?_, by rw [List.take_nil]; exact hrow⟩
              rw [c.retag_same]
              simpa using how
          · have hb := run_bounds (P := P) (w := w) (E := E) (isSlice := true) (cap := cap) (.inl ⟨rfl, rfl⟩) hm (by simp) (by simp) (by omega) hcap
            have hblk : blk (c.τ k) = some g := by rw [e1]; rfl
            obtain ⟨hC1, k1⟩ := hC.retag hkn (w' := w) (v := .slice (some ⟨g, 0, none⟩) m' cap) ⟨rfl, rfl, rfl, Nat.le_refl _, fun _ _ _ => rfl⟩
              (fun b hb => by
                have e5 : g = b := by simpa [blk, Value.ownBlock] using hb
                subst e5
                exact ⟨(hC.tags k _ hblk).1, .inl hblk⟩)
            refine ⟨_, .slice (some ⟨g, 0, none⟩) m' cap, _, _, _, h, ?_, hC1, RepL.kill k1 _ _ hE, ?_⟩
            · rw [e1]
              simp at hb
              simp [Instr.sliceAt, run_underlying hu, Instr.slice, hb, L'.run_sizeOf, addr_add]
            · unfold Rep
              have hlen : (es.take m').length = m' := by simp; omega
              refine ⟨hk, (c.retag_same _ _).symm, hs, xs.take (m' * s), ?_, hrow.take m'⟩
              rw [c.retag_same, hlen]
              refine ⟨?_, .inr ⟨g, cap, cur, rfl, Nat.zero_le _, hh, by omega, hmax, hcur, ?_⟩⟩
              · rw [List.length_take, how.1]
                exact Nat.min_eq_left (Nat.mul_le_mul_right _ b3)
              · rw [← htake, List.take_take, Nat.min_eq_left (Nat.mul_le_mul_right _ b3)]
        · exact h.elim
      · replace h := boundK_open hE h; obtain ⟨l, h, hl⟩ := h
        replace h := boundK_open hE h; obtain ⟨m, h, hm⟩ := h
        replace h := Owes.open h; obtain ⟨⟨rfl, rfl⟩, h⟩ := h
        unfold Rep at hx
        subst hx
        have hb := run_bounds (P := P) (w := w) (E := E) (isSlice := true) (cap := 0) hl hm (by simp) (by simp) (by simp) (Nat.le_refl _)
        refine ⟨_, nilS, E, H, c, h, ?_, hC, hE, by unfold Rep; rfl⟩
        simp at hb
        simp [Instr.sliceAt, run_underlying hu, Instr.slice, L'.run_sizeOf w, hb]
      · exact h.elim
    · exact h.elim
end
end Go.Proofs.YtofjmhigfihhbaaDoor.Aw
