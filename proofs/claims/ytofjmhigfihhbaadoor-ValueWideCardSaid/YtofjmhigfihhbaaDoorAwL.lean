/- Equality of structs, the least and the greatest, made slices, on abstract values, and that the machine does just that. -/
import Derived.Test.YtofjmhigfihhbaaDoorAwK
namespace Go.Proofs.YtofjmhigfihhbaaDoor.Aw
open Go Go.RowKit Go.Lib
set_option linter.unusedVariables false
set_option linter.unusedSimpArgs false

def minL (k : IntKind) (up : Bool) : Int → List D → (Int → Prop) → Prop
  | x, [], K => K x
  | x, d :: ds, K => match d with
    | .f (.v (.int j y)) => bif Nat.beq (knd k) (knd j) then (bif up then minL k up (if y > x then y else x) ds K else minL k up (if y < x then y else x) ds K) else False
    | _ => False
def minD (up : Bool) (ds : List D) (K : D → Prop) : Prop :=
  match ds with
  | .f (.v (.int k x)) :: ds => minL k up x ds fun r => K (.int k r)
  | _ => False
def eqFsK (T : Tab) (sz : Nat) (rec : Nat → List D → List D → (Bool → Prop) → Prop) : List Field → List D → List D → (Bool → Prop) → Prop
  | [], _, _, K => K true
  | f :: fs, cs, ds, K => tiK T f.type fun u => bif Nat.ble (f.offset + u.size) sz && Nat.ble 1 u.size then rec f.type (dropL f.offset cs) (dropL f.offset ds) fun b => eqFsK T sz rec fs cs ds fun r => K (b && r) else False
/-- Are the values of a type that begin here one? -/
def eqK (T : Tab) : Nat → Nat → List D → List D → (Bool → Prop) → Prop
  | 0, _, _, _, _ => False
  | m + 1, t, cs, ds, K => tiK T t fun ti => match ti.desc with
    | .int _ => (match cs, ds with
      | .f (.v (.int j a)) :: _, .f (.v (.int k b)) :: _ => bif Nat.beq (knd j) (knd k) then K (a == b) else False
      | _, _ => False)
    | .bool => (match cs, ds with
      | .f (.v (.bool a)) :: _, .f (.v (.bool b)) :: _ => K (a == b)
      | _, _ => False)
    | .string => (match cs, ds with
      | .f (.v (.string a)) :: _, .f (.v (.string b)) :: _ => K (a.toList == b.toList)
      | _, _ => False)
    | .struct fs => bif Nat.ble ti.size cs.length && Nat.ble ti.size ds.length then eqFsK T ti.size (fun t cs ds K => eqK T m t cs ds K) fs.toList cs ds K else False
    | _ => False
def eqD (T : Tab) (op : BinOp) (t : Nat) (x y : D) (K : D → Prop) : Prop :=
  match x, y with
  | .agg cs, .agg ds => tiK T t fun ti => bif Nat.beq cs.length ti.size && Nat.beq ds.length ti.size then (match ti.desc with
    | .struct _ => (match op with
      | .eql => eqK T 9 t cs ds fun b => K (.bool b)
      | .neq => eqK T 9 t cs ds fun b => K (.bool (!b))
      | _ => False)
    | _ => False) else False
  | _, _ => False

section
variable {P : Program} {c : Cx} {w : World} {H : Hp} {n : Nat} {B : Base}
theorem minL_sound {k : IntKind} {up : Bool} : ∀ (ds : List D) (vs : List Value) (x : Int) (K : Int → Prop), RepL c w ds vs → minL k up x ds K →
    ∃ r, K r ∧ ∀ w' : World, (vs.foldlM (m := Sem) (if up then Builtin.max2 else Builtin.min2) (.int k x)).run P w' = .ok (.int k r) w'
  | [], vs, x, K, hr, h => by
    unfold RepL at hr
    subst hr
    exact ⟨x, h, fun _ => rfl⟩
  | d :: ds, vs, x, K, hr, h => by
    unfold RepL at hr
    obtain ⟨v, vs', rfl, h1, h2⟩ := hr
    unfold minL at h
    split at h
    · rename_i j y
      have e1 := rep_v h1
      subst e1
      cases hb : Nat.beq (knd k) (knd j) with
      | false => simp only [hb, cond_false] at h
      | true =>
        simp only [hb, cond_true] at h
        cases up with
        | true =>
          simp only [cond_true] at h
          obtain ⟨r, h3, h4⟩ := minL_sound ds vs' _ K h2 h
          refine ⟨r, h3, fun w' => ?_⟩
          have h4 := h4 w'
          simp only [if_true] at h4 ⊢
          simp only [List.foldlM_cons, Builtin.max2, Sem.run_bind, Sem.run_pure, Result.andThen_ok]
          exact h4
        | false =>
          simp only [cond_false] at h
          obtain ⟨r, h3, h4⟩ := minL_sound ds vs' _ K h2 h
          refine ⟨r, h3, fun w' => ?_⟩
          have h4 := h4 w'
          simp only [Bool.false_eq_true, if_false] at h4 ⊢
          simp only [List.foldlM_cons, Builtin.min2, Sem.run_bind, Sem.run_pure, Result.andThen_ok]
          exact h4
    · exact h.elim
theorem minD_sound {up : Bool} {ds : List D} {vs : List Value} {ts : Array TypeId} {ty : TypeId} (hr : RepL c w ds vs) {K : D → Prop} (h : minD up ds K) :
    ∃ z, z.oneCell' = true ∧ K (.f (.v z)) ∧ ∀ w' : World, ((if up then Builtin.max_ ts ty vs.toArray else Builtin.min_ ts ty vs.toArray)).run P w' = .ok z w' := by
  unfold minD at h
  split at h
  · rename_i k x ds
    unfold RepL at hr
    obtain ⟨v, vs', rfl, h1, h2⟩ := hr
    have e1 := rep_v h1
    subst e1
    obtain ⟨r, h3, h4⟩ := minL_sound (P := P) ds vs' x _ h2 h
    refine ⟨_, rfl, h3, fun w' => ?_⟩
    cases up with
    | true => simpa [Builtin.max_] using h4 w'
    | false => simpa [Builtin.min_] using h4 w'
  · exact h.elim
theorem part_leaf (w : World) {t : Nat} {ti : TI} (L : Lay P t ti) (hg : ti.isAgg = false) {vs : List Value} {o : Nat} {x : Value} (h : vs[o]? = some x) : (part t vs.toArray o).run P w = .ok x w := by
  unfold part
  simp only [Sem.run_bind, L.run_isAgg w, Result.andThen_ok, hg, Bool.false_eq_true, if_false]
  have : vs.toArray[o]? = some x := by simpa using h
  simp [this]
theorem part_agg (w : World) {t : Nat} {ti : TI} (L : Lay P t ti) (hg : ti.isAgg = true) (vs : List Value) (o : Nat) : (part t vs.toArray o).run P w = .ok (.agg ((vs.drop o).take ti.size).toArray) w := by
  unfold part
  simp only [Sem.run_bind, L.run_isAgg w, Result.andThen_ok, hg, if_true, L.run_sizeOf w, Sem.run_pure]
  congr 2
  apply Array.ext'
  rw [Array.toList_extract]
  simp [List.extract_eq_take_drop]
/-- A part of the first cells is that part of all. -/
theorem part_shift (w : World) {t : Nat} {ti : TI} (L : Lay P t ti) {vs : List Value} {o sz : Nat} (h1 : o + ti.size ≤ sz) (h2 : 1 ≤ ti.size) {x : Value} (h : (part t (vs.drop o).toArray 0).run P w = .ok x w) : (part t (vs.take sz).toArray o).run P w = .ok x w := by
  cases hg : ti.isAgg with
  | true =>
    rw [part_agg w L hg] at h ⊢
    rw [← h]
    congr 3
    simp only [List.drop_zero, List.drop_take, List.take_take]
    congr 1
    omega
  | false =>
    have : (vs.drop o)[0]? = some x := by
      unfold part at h
      simp only [Sem.run_bind, L.run_isAgg w, Result.andThen_ok, hg, Bool.false_eq_true, if_false] at h
      cases hv : (vs.drop o)[0]? with
      | none =>
        have : (vs.drop o).toArray[0]? = none := by simpa using hv
        simp [this] at h
      | some z =>
        have : (vs.drop o).toArray[0]? = some z := by simpa using hv
        simp [this] at h
        rw [h]
    refine part_leaf w L hg ?_
    rw [List.getElem?_take, if_pos (by omega)]
    simpa using this
theorem eqK_sound {T : Tab} (hT : TabOk P 0 T) : ∀ (m t : Nat) (cs ds : List D) (vs us : List Value) (K : Bool → Prop) (d : Nat), m ≤ d → RepL c w cs vs → RepL c w ds us → eqK T m t cs ds K →
    ∃ b x y, K b ∧ ∀ w' : World, (part t vs.toArray 0).run P w' = .ok x w' ∧ (part t us.toArray 0).run P w' = .ok y w' ∧ (Op.equalIn d t x y).run P w' = .ok b w'
  | 0, _, _, _, _, _, _, _, _, _, _, h => h.elim
  | m + 1, t, cs, ds, vs, us, K, d, hd, hc, hs, h => by
    unfold eqK at h
    replace h := tiK_open hT h; obtain ⟨ti, L, h⟩ := h
    obtain ⟨d, rfl⟩ : ∃ k, d = k + 1 := ⟨d - 1, by omega⟩
    split at h
    · rename_i k hde
      have hu : P.underlying t = some (.int k) := by rw [L.und, hde]
      have hg : ti.isAgg = false := by unfold TI.isAgg; rw [hde]
      split at h
      · rename_i j a _ k' b _
        cases hb : Nat.beq (knd j) (knd k') with
        | false => simp only [hb, cond_false] at h
        | true =>
          simp only [hb, cond_true] at h
          have := knd_inj hb
          subst this
          unfold RepL at hc hs
          obtain ⟨v, vs', rfl, e1, _⟩ := hc
          obtain ⟨u, us', rfl, e2, _⟩ := hs
          have e1 := rep_v e1
          have e2 := rep_v e2
          subst e1 e2
          exact ⟨_, _, _, h, fun w' => ⟨part_leaf w' L hg rfl, part_leaf w' L hg rfl, run_equalIn_int w' d t _ _ a b hu⟩⟩
      · exact h.elim
    · rename_i hde
      have hu : P.underlying t = some .bool := by rw [L.und, hde]
      have hg : ti.isAgg = false := by unfold TI.isAgg; rw [hde]
      split at h
      · rename_i a _ b _
        unfold RepL at hc hs
        obtain ⟨v, vs', rfl, e1, _⟩ := hc
        obtain ⟨u, us', rfl, e2, _⟩ := hs
        have e1 := rep_v e1
        have e2 := rep_v e2
        subst e1 e2
        exact ⟨_, _, _, h, fun w' => ⟨part_leaf w' L hg rfl, part_leaf w' L hg rfl, run_equalIn_bool' w' d t a b hu⟩⟩
      · exact h.elim
    · rename_i hde
      have hu : P.underlying t = some .string := by rw [L.und, hde]
      have hg : ti.isAgg = false := by unfold TI.isAgg; rw [hde]
      split at h
      · rename_i a _ b _
        unfold RepL at hc hs
        obtain ⟨v, vs', rfl, e1, _⟩ := hc
        obtain ⟨u, us', rfl, e2, _⟩ := hs
        have e1 := rep_v e1
        have e2 := rep_v e2
        subst e1 e2
        exact ⟨_, _, _, h, fun w' => ⟨part_leaf w' L hg rfl, part_leaf w' L hg rfl, run_equalIn_string w' d t a b hu⟩⟩
      · exact h.elim
    · rename_i fs hde
      have hu : P.underlying t = some (.struct fs) := by rw [L.und, hde]
      have hg : ti.isAgg = true := by unfold TI.isAgg; rw [hde]
      have heq := L.eq
      unfold EqFit at heq
      rw [hde] at heq
      simp only at heq
      obtain ⟨hbl, hst, _⟩ := heq
      cases hb : (Nat.ble ti.size cs.length && Nat.ble ti.size ds.length) with
      | false => simp only [hb, cond_false] at h
      | true =>
        simp only [hb, cond_true] at h
        have fields : ∀ (fl : List Field) (K : Bool → Prop), (∀ f ∈ fl, (f.name != "_") = true) → eqFsK T ti.size (fun t cs ds K => eqK T m t cs ds K) fl cs ds K →
            ∃ b, K b ∧ ∀ w' : World, (Op.eqFields d (vs.take ti.size).toArray (us.take ti.size).toArray fl).run P w' = .ok b w' := by
          intro fl
          induction fl with
          | nil => intro K _ h; exact ⟨true, h, fun _ => rfl⟩
          | cons f fl ih =>
            intro K hn h
            unfold eqFsK at h
            replace h := tiK_open hT h; obtain ⟨u, Lu, h⟩ := h
            cases hz : (Nat.ble (f.offset + u.size) ti.size && Nat.ble 1 u.size) with
            | false => simp only [hz, cond_false] at h
            | true =>
              simp only [hz, cond_true] at h
              simp only [Bool.and_eq_true] at hz
              have z1 := Nat.le_of_ble_eq_true hz.1
              have z2 := Nat.le_of_ble_eq_true hz.2
              rw [dropL_eq, dropL_eq] at h
              obtain ⟨b1, x, y, h, hw⟩ := eqK_sound hT m f.type _ _ (vs.drop f.offset) (us.drop f.offset) _ d (by omega) (hc.drop _) (hs.drop _) h
              obtain ⟨b2, h, e2⟩ := ih _ (fun f hf => hn f (List.mem_cons_of_mem _ hf)) h
              refine ⟨_, h, fun w' => ?_⟩
              obtain ⟨x1, y1, e⟩ := hw w'
              have e2 := e2 w'
              have hne : f.name ≠ "_" := by simpa using hn f (List.mem_cons_self ..)
              unfold Op.eqFields
              rw [if_pos hne]
              simp only [Sem.run_bind, part_shift w' Lu z1 z2 x1, part_shift w' Lu z1 z2 y1, e, Result.andThen_ok, Sem.run_ite]
              cases b1
              · simp
              · simpa using e2
        obtain ⟨b, hK, hF⟩ := fields fs.toList K (fun f hf => (Array.all_eq_true_iff_forall_mem.1 hbl) f (by simpa using hf)) h
        refine ⟨b, _, _, hK, fun w' => ⟨part_agg w' L hg vs 0, part_agg w' L hg us 0, ?_⟩⟩
        have hfo : P.fieldsOf t = fs := by unfold Program.fieldsOf; rw [hu]
        rw [run_equalIn_struct w' d t _ _ (by rw [hfo]; exact hu) hst, hfo]
        simpa using hF w'
    · exact h.elim
theorem eqD_sound {T : Tab} (hT : TabOk P 0 T) {op : BinOp} {t : Nat} {x y : D} {ox oy : Operand} {u v : Value} {K : D → Prop} (hx : Rep c w x u) (hy : Rep c w y v) (h : eqD T op t x y K) :
    ∃ z, z.oneCell' = true ∧ K (.f (.v z)) ∧ ∀ w' : World, (do eqGuard op t ox oy u v; binOp op t u v : Sem Value).run P w' = .ok z w' := by
  unfold eqD at h
  split at h
  · rename_i cs ds
    unfold Rep at hx hy
    obtain ⟨vs, rfl, hr⟩ := hx
    obtain ⟨us, rfl, hs⟩ := hy
    replace h := tiK_open hT h; obtain ⟨ti, L, h⟩ := h
    cases hl : (Nat.beq cs.length ti.size && Nat.beq ds.length ti.size) with
    | false => simp only [hl, cond_false] at h
    | true =>
    simp only [hl, cond_true] at h
    simp only [Bool.and_eq_true] at hl
    have l1 : vs.length = ti.size := by rw [hr.length]; exact beq_eq hl.1
    have l2 : us.length = ti.size := by rw [hs.length]; exact beq_eq hl.2
    split at h
    · rename_i fs hde
      have hu : P.underlying t = some (.struct fs) := by rw [L.und, hde]
      have hg : ti.isAgg = true := by unfold TI.isAgg; rw [hde]
      have heq := L.eq
      unfold EqFit at heq
      rw [hde] at heq
      simp only at heq
      have hgd : ∀ w : World, (eqGuard op t ox oy (.agg vs.toArray) (.agg us.toArray)).run P w = .ok () w := fun w => run_eqGuard_agg w op t ox oy _ _ heq.2.2
      have whole : ∀ {w : World} {b : Bool} {x y : Value}, (part t vs.toArray 0).run P w = .ok x w → (part t us.toArray 0).run P w = .ok y w → (Op.equalIn 10000 t x y).run P w = .ok b w → vs.length = ti.size → us.length = ti.size →
          (Op.equalIn 10000 t (.agg vs.toArray) (.agg us.toArray)).run P w = .ok b w := fun h1 h2 h3 l1 l2 => by
        rw [part_agg _ L hg] at h1 h2
        cases h1
        cases h2
        rw [List.drop_zero, List.drop_zero, List.take_of_length_le (by omega), List.take_of_length_le (by omega)] at h3
        exact h3
      split at h
      · obtain ⟨b, x, y, h, hw⟩ := eqK_sound hT 9 t cs ds vs us _ 10000 (by omega) hr hs h
        exact ⟨_, rfl, h, fun w' => by obtain ⟨h1, h2, h3⟩ := hw w'; simp only [Sem.run_bind, hgd, Result.andThen_ok, run_eql_struct, whole h1 h2 h3 l1 l2]⟩
      · obtain ⟨b, x, y, h, hw⟩ := eqK_sound hT 9 t cs ds vs us _ 10000 (by omega) hr hs h
        exact ⟨_, rfl, h, fun w' => by obtain ⟨h1, h2, h3⟩ := hw w'; simp only [Sem.run_bind, hgd, Result.andThen_ok, run_neq_struct, whole h1 h2 h3 l1 l2]⟩
      · exact h.elim
    · exact h.elim
  · exact h.elim
end
end Go.Proofs.YtofjmhigfihhbaaDoor.Aw
