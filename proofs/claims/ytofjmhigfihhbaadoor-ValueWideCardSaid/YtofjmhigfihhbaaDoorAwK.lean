/- Append, equality of structs, the least and the greatest, on abstract values, and that the machine does just that. -/
import Derived.Test.YtofjmhigfihhbaaDoorAwJ
import Derived.Laws.StructEq
namespace Go.Proofs.YtofjmhigfihhbaaDoor.Aw
open Go Go.RowKit Go.Lib
set_option linter.unusedVariables false
set_option linter.unusedSimpArgs false

/-- What is appended. -/
def srcK (T : Tab) (t1 t2 : Nat) (u : TI) (x : D) (K : List (List F) → Prop) : Prop :=
  match x with
  | .f (.sl xs) => bif Nat.beq t1 t2 then Owes (∀ r ∈ xs, r.length = u.size) (K xs) else False
  | .own _ _ s xs => bif Nat.beq t1 t2 && Nat.beq s u.size then K xs else False
  | .nil => bif Nat.beq t1 t2 then K [] else False
  | .f (.v (.string b)) => tiK T t2 fun t2i => (match t2i.desc, u.zval with
    | .string, .int .u8 0 => bif Nat.beq u.size 1 && Nat.beq u.bytes 1 then K (b.data.toList.map byteRow) else False
    | _, _ => False)
  | _ => False
def appendD (T : Tab) (ts : List Nat) (s x : D) (E : List D) (H : Hp) (n : Nat) (K : KD) : Prop :=
  match ts with
  | [t1, t2] => tiK T t1 fun ti => (match ti.desc with
    | .slice e => tiK T e fun u => bif Nat.ble 1 u.size && Nat.ble 1 u.bytes && Nat.beq u.zero.length u.size then srcK T t1 t2 u x fun xs => (match s with
      | .nil => Owes (xs.length * u.bytes ≤ 140737488355328) (K (.own n e u.size xs) E H (n + 1))
      | .own k e' s' es => bif Nat.beq e' e && Nat.beq s' u.size then Owes ((es.length + xs.length) * u.bytes ≤ 140737488355328) (K (.own k e s' (es ++ xs)) (killL k E) (killH k H) n) else False
      | _ => False) else False
    | _ => False)
  | _ => False

section
variable {P : Program} {c : Cx} {w : World} {H : Hp} {n : Nat} {B : Base}
theorem RepR.toRows {imm : Nat → Prop} {s : Nat} : ∀ {es : List (List F)} {b o : Nat}, RepR imm w es b o → (∀ e ∈ es, e.length = s) → ∃ xs, RepRows imm w s es xs ∧ ∀ j v, xs[j]? = some v → w.cell? ⟨b, o + j, none⟩ = some v
  | [], b, o, _, _ => ⟨[], by unfold RepRows; rfl, fun j v h => by simp at h⟩
  | e :: es, b, o, h, hl => by
    unfold RepR at h
    obtain ⟨zs, h1, h2⟩ := RepR.toRows h.2 (fun e he => hl e (List.mem_cons_of_mem _ he))
    have : ∀ (e : List F) (o : Nat), RepC imm w e b o → ∃ ys : List Value, RepFs imm w e ys ∧ ys.length = e.length ∧ ∀ j v, ys[j]? = some v → w.cell? ⟨b, o + j, none⟩ = some v := by
      intro e
      induction e with
      | nil => intro o _; exact ⟨[], by unfold RepFs; rfl, rfl, fun j v h => by simp at h⟩
      | cons x e ih =>
        intro o h
        unfold RepC at h
        obtain ⟨⟨y, h1, h2⟩, h3⟩ := h
        obtain ⟨ys, h4, h5, h6⟩ := ih (o + 1) h3
        refine ⟨y :: ys, by unfold RepFs; exact ⟨y, ys, rfl, h2, h4⟩, by simp [h5], fun j v hj => ?_⟩
        cases j with
        | zero => simp at hj; subst hj; exact h1
        | succ j => rw [show o + (j + 1) = o + 1 + j by omega]; exact h6 j v (by simpa using hj)
    obtain ⟨ys, h3, h4, h5⟩ := this e o h.1
    refine ⟨ys ++ zs, by unfold RepRows; exact ⟨ys, zs, rfl, hl e (List.mem_cons_self ..), h3, h1⟩, fun j v hj => ?_⟩
    rcases Nat.lt_or_ge j ys.length with hlt | hge
    · rw [List.getElem?_append_left hlt] at hj
      exact h5 j v hj
    · rw [List.getElem?_append_right hge] at hj
      have := h2 (j - ys.length) v hj
      rwa [show o + e.length + (j - ys.length) = o + j by omega] at this
theorem RepRows.append {imm : Nat → Prop} {s : Nat} : ∀ {es fs : List (List F)} {xs ys : List Value}, RepRows imm w s es xs → RepRows imm w s fs ys → RepRows imm w s (es ++ fs) (xs ++ ys)
  | [], fs, xs, ys, h, h' => by unfold RepRows at h; subst h; exact h'
  | e :: es, fs, xs, ys, h, h' => by
    unfold RepRows at h
    obtain ⟨us, zs, rfl, hl, h1, h2⟩ := h
    rw [List.append_assoc]
    simp only [List.cons_append]
    unfold RepRows
    exact ⟨us, _, rfl, hl, h1, RepRows.append h2 h'⟩
theorem RepRows.oneCell {imm : Nat → Prop} {s : Nat} : ∀ {es : List (List F)} {xs : List Value}, RepRows imm w s es xs → ∀ v ∈ xs, v.oneCell' = true
  | [], _, h, v, hv => by unfold RepRows at h; subst h; cases hv
  | e :: es, xs, h, v, hv => by
    unfold RepRows at h
    obtain ⟨us, zs, rfl, hl, h1, h2⟩ := h
    rcases List.mem_append.1 hv with hv | hv
    · have : ∀ {e : List F} {us : List Value}, RepFs imm w e us → ∀ v ∈ us, v.oneCell' = true := by
        intro e
        induction e with
        | nil => intro us h v hv; unfold RepFs at h; subst h; cases hv
        | cons x e ih =>
          intro us h v hv
          unfold RepFs at h
          obtain ⟨u, us', rfl, h1, h2⟩ := h
          rcases List.mem_cons.1 hv with rfl | hv
          · exact h1.oneCell
          · exact ih h2 v hv
      exact this h1 v hv
    · exact RepRows.oneCell h2 v hv
/-- The machine's append, wherever the source lies. -/
theorem run_append_any {e t1 t2 ty : Nat} {u : TI} (Le : Lay P e u) (ht : P.underlying t1 = some (.slice e)) (hs1 : 1 ≤ u.size) (hzl : u.zero.length = u.size) (hb1 : 1 ≤ u.bytes)
    {v : Value} {m : Nat} {xs : List Value} (how : ownsM w 0 e u.size v m xs) {T : Tab} (hT : TabOk P 0 T) {x : D} {y : Value} (hx : Rep c w x y) {K : List (List F) → Prop} (h : srcK T t1 t2 u x K) :
    ∃ rows news, K rows ∧ RepRows c.imm w u.size rows news ∧ ((m + rows.length) * u.bytes ≤ 140737488355328 → ∃ v' w', (Builtin.append_ #[t1, t2] ty #[v, y]).run P w = .ok v' w' ∧
      ownsM w' 0 e u.size v' (m + rows.length) (xs ++ news) ∧ w.grownBy w' (blk v) ∧ ∀ b, blk v' = some b → b < w'.heap.size ∧ (blk v = some b ∨ w.heap.size ≤ b)) := by
  obtain ⟨i, hi, hi1, hi2, hi3⟩ := Le.info
  have hzs : u.zval.cells.size = u.size := by rw [Le.zero]; simpa using hzl
  have hbig : ∀ k : Nat, (m + k) * u.bytes ≤ 140737488355328 → m + k ≤ maxLen := fun k hk => by
    have : (m + k) * 1 ≤ (m + k) * u.bytes := Nat.mul_le_mul_left _ hb1
    unfold maxLen
    omega
  have slice : t1 = t2 → ∀ (rows : List (List F)) (news : List Value) (ad : Addr) (cap : Nat), RepRows c.imm w u.size rows news → (∀ j z, news[j]? = some z → w.cell? (ad.add j) = some z) →
      (m + rows.length) * u.bytes ≤ 140737488355328 → ∃ v' w', (Builtin.append_ #[t1, t2] ty #[v, .slice (some ad) rows.length cap]).run P w = .ok v' w' ∧
      ownsM w' 0 e u.size v' (m + rows.length) (xs ++ news) ∧ w.grownBy w' (blk v) ∧ ∀ b, blk v' = some b → b < w'.heap.size ∧ (blk v = some b ∨ w.heap.size ≤ b) := by
    intro e0 rows news ad cap hr hc hb
    subst e0
    obtain ⟨v', w', h1, h2, h3, h4⟩ := run_append_ownM (P := P) w 0 t1 ty e i u.zval u.size u.bytes ht hi hi3 hi1 hi2 hzs (by omega) v m xs how ad rows.length cap news hr.length hc hr.oneCell (hbig _ hb) hb (Nat.zero_le _)
    refine ⟨v', w', h1, h2, h3, fun b hb => ⟨(h2.lt b hb).2, ?_⟩⟩
    rcases h4 with h4 | h4
    · left
      show v.ownBlock = some b
      rw [← h4]; exact hb
    · right
      have hb' : v'.ownBlock = some b := hb
      rw [h4] at hb'
      cases hb'
      exact Nat.le_refl _
  have none : t1 = t2 → ∃ v' w', (Builtin.append_ #[t1, t2] ty #[v, nilS]).run P w = .ok v' w' ∧
      ownsM w' 0 e u.size v' (m + ([] : List (List F)).length) (xs ++ []) ∧ w.grownBy w' (blk v) ∧ ∀ b, blk v' = some b → b < w'.heap.size ∧ (blk v = some b ∨ w.heap.size ≤ b) := by
    intro e0
    subst e0
    exact ⟨v, w, run_append_none_ownM (P := P) w 0 t1 ty e i u.size ht hi v m xs how, by simpa using how, ⟨rfl, rfl, rfl, Nat.le_refl _, fun _ _ _ => rfl⟩, fun b hb => ⟨(how.lt b hb).2, .inl hb⟩⟩
  unfold srcK at h
  split at h
  · rename_i rows
    cases hb : Nat.beq t1 t2 with
    | false => simp only [hb, cond_false] at h
    | true =>
      simp only [hb, cond_true] at h
      have e0 := beq_eq hb
      replace h := Owes.open h
      obtain ⟨hl, h⟩ := h
      unfold Rep RepF at hx
      rcases hx with ⟨⟨a0, rfl⟩, rfl⟩ | ⟨b, o, cap, rfl, hc, him, hr⟩
      · cases a0 with
        | none => exact ⟨[], [], h, by unfold RepRows; rfl, fun _ => none e0⟩
        | some a0 => exact ⟨[], [], h, by unfold RepRows; rfl, fun hb => slice e0 [] [] a0 0 (by unfold RepRows; rfl) (fun j z hz => by simp at hz) hb⟩
      · obtain ⟨news, h1, h2⟩ := hr.toRows hl
        exact ⟨rows, news, h, h1, fun hb => slice e0 rows news ⟨b, o, Option.none⟩ cap h1 (fun j z hz => by rw [addr_add]; exact h2 j z hz) hb⟩
  · rename_i k t s rows
    cases hb : (Nat.beq t1 t2 && Nat.beq s u.size) with
    | false => simp only [hb, cond_false] at h
    | true =>
      simp only [hb, cond_true] at h
      simp only [Bool.and_eq_true] at hb
      have e0 := beq_eq hb.1
      have e1 := beq_eq hb.2
      subst e1
      unfold Rep at hx
      obtain ⟨hk, rfl, hs, news, how2, hrow⟩ := hx
      rcases how2.2 with ⟨h1, h0⟩ | ⟨g, cap, cur, e1, _, ⟨fz, _, hh⟩, _, _, _, htake⟩
      · have : rows = [] := List.eq_nil_of_length_eq_zero h0
        subst this
        have hn : news = [] := by unfold RepRows at hrow; exact hrow
        subst hn
        rw [h1]
        exact ⟨[], [], h, hrow, fun _ => none e0⟩
      · rw [e1]
        refine ⟨rows, news, h, hrow, fun hb => slice e0 rows news ⟨g, 0, Option.none⟩ cap hrow (fun j z hz => ?_) hb⟩
        rw [addr_add, cell_of_row w _ _ cur _ fz hh, Nat.zero_add]
        rw [← htake, List.getElem?_take] at hz
        split at hz
        · simpa using hz
        · cases hz
  · cases hb : Nat.beq t1 t2 with
    | false => simp only [hb, cond_false] at h
    | true =>
      simp only [hb, cond_true] at h
      unfold Rep at hx
      subst hx
      exact ⟨[], [], h, by unfold RepRows; rfl, fun _ => none (beq_eq hb)⟩
  · rename_i b
    replace h := tiK_open hT h; obtain ⟨t2i, L2, h⟩ := h
    split at h
    · rename_i hd hz
      have hu2 : P.underlying t2 = some .string := by rw [L2.und, hd]
      cases hb : (Nat.beq u.size 1 && Nat.beq u.bytes 1) with
      | false => simp only [hb, cond_false] at h
      | true =>
        simp only [hb, cond_true] at h
        simp only [Bool.and_eq_true] at hb
        have e1 := beq_eq hb.1
        have e2 := beq_eq hb.2
        have e3 := rep_v hx
        subst e3
        have hl : (b.data.toList.map byteRow).length = b.size := by simp
        refine ⟨_, strCells b, h, ?_, fun hbd => ?_⟩
        · rw [e1]
          have : ∀ l : List UInt8, RepRows c.imm w 1 (l.map byteRow) (l.map fun b => Value.int .u8 b.toNat) := by
            intro l
            induction l with
            | nil => simp [RepRows]
            | cons x l ih =>
              simp only [List.map_cons]
              unfold RepRows
              refine ⟨[.int .u8 x.toNat], _, rfl, rfl, ?_, ih⟩
              unfold byteRow RepFs RepF
              exact ⟨_, [], rfl, ⟨rfl, rfl⟩, by unfold RepFs; rfl⟩
          exact this _
        · rw [hl, e2, Nat.mul_one] at hbd
          rw [hl, e1]
          rw [e1] at how hi1
          rw [e2] at hi2
          have h63 : m + b.size ≤ maxLen := by unfold maxLen; omega
          have hz' : i.zero = some (.int .u8 0) := by rw [hi3, hz]
          obtain ⟨v', w', h1, h2, h3, h4⟩ := run_append_own_stringM (P := P) w 0 t1 t2 ty e i ht hu2 hi hz' hi1 hi2 v m xs how b h63 hbd (Nat.zero_le _)
          exact ⟨v', w', h1, h2, h3, fun q hq => ⟨(h2.lt q hq).2, h4 q hq⟩⟩
    · exact h.elim
  · exact h.elim
theorem appendD_sound {T : Tab} (hT : TabOk P 0 T) (hC : Con B c w H n) {E : List D} {a : Act} (hE : RepL c w E a.tmps.toList) {ts : List Nat} {ty : Nat} {s x : D} {v y : Value} (hs : Rep c w s v) (hx : Rep c w x y) {K : KD} (h : appendD T ts s x E H n K) :
    ∃ d u E' H' n' c' w', K d E' H' n' ∧ (Builtin.append_ ts.toArray ty #[v, y]).run P w = .ok u w' ∧ Con B c' w' H' n' ∧ RepL c' w' E' a.tmps.toList ∧ Rep c' w' d u := by
  unfold appendD at h
  split at h
  · rename_i t1 t2
    replace h := tiK_open hT h; obtain ⟨ti, L, h⟩ := h
    split at h
    · rename_i e hd
      have ht : P.underlying t1 = some (.slice e) := by rw [L.und, hd]
      replace h := tiK_open hT h; obtain ⟨u, Le, h⟩ := h
      cases hb : (Nat.ble 1 u.size && Nat.ble 1 u.bytes && Nat.beq u.zero.length u.size) with
      | false => simp only [hb, cond_false] at h
      | true =>
        simp only [hb, cond_true] at h
        simp only [Bool.and_eq_true] at hb
        have b1 := Nat.le_of_ble_eq_true hb.1.1
        have b2 := Nat.le_of_ble_eq_true hb.1.2
        have b3 := beq_eq hb.2
        by_cases h0 : s = .nil
        · subst h0
          have hv : v = nilS := by unfold Rep at hs; exact hs
          subst hv
          obtain ⟨rows, news, h, hr, hrun⟩ := run_append_any (ty := ty) Le ht b1 b3 b2 (ownsM_nil w 0 e u.size) hT hx h
          simp only at h
          replace h := Owes.open h
          obtain ⟨hbd, h⟩ := h
          obtain ⟨v', w', h1, h2, h3, h4⟩ := hrun (by rw [Nat.zero_add]; exact hbd)
          rw [Nat.zero_add] at h2
          have hbel : Below w.heap.size w w' := ⟨h3.os, h3.tape, h3.output, h3.size, fun k hk => h3.block k hk (by intro e; cases e)⟩
          obtain ⟨hC', hk⟩ := hC.newTag (v := v') hbel (fun b hb => by
            obtain ⟨a1, a2⟩ := h4 b hb
            rcases a2 with a2 | a2
            · cases a2
            · exact ⟨a2, a1⟩)
          refine ⟨_, v', E, H, n + 1, _, w', h, h1, hC', hE.mono hk, ?_⟩
          unfold Rep
          have hnn := hC.nlen
          subst hnn
          refine ⟨Nat.lt_succ_self _, (c.newTag_same _).symm, b1, news, ?_, hr.mono hk.imm⟩
          rw [c.newTag_same]
          simpa using h2
        · by_cases h1 : ∃ k e' s' es, s = .own k e' s' es
          · obtain ⟨k, e', s', es, rfl⟩ := h1
            have hs0 := hs
            unfold Rep at hs
            obtain ⟨hk, hv, hs1, xs, how, hrow⟩ := hs
            have hq : ∀ rows, (match D.own k e' s' es with
              | .nil => Owes (rows.length * u.bytes ≤ 140737488355328) (K (.own n e u.size rows) E H (n + 1))
              | .own k e' s' es => bif Nat.beq e' e && Nat.beq s' u.size then Owes ((es.length + rows.length) * u.bytes ≤ 140737488355328) (K (.own k e s' (es ++ rows)) (killL k E) (killH k H) n) else False
              | _ => False) → e' = e ∧ s' = u.size ∧ (es.length + rows.length) * u.bytes ≤ 140737488355328 ∧ K (.own k e s' (es ++ rows)) (killL k E) (killH k H) n := fun rows h => by
              simp only at h
              cases hb : (Nat.beq e' e && Nat.beq s' u.size) with
              | false => simp only [hb, cond_false] at h
              | true =>
                simp only [hb, cond_true] at h
                simp only [Bool.and_eq_true] at hb
                replace h := Owes.open h
                exact ⟨beq_eq hb.1, beq_eq hb.2, h.1, h.2⟩
            by_cases he : e' = e ∧ s' = u.size
            · obtain ⟨rfl, rfl⟩ := he
              rw [← hv] at how
              obtain ⟨rows, news, h, hr, hrun⟩ := run_append_any (ty := ty) Le ht b1 b3 b2 how hT hx h
              obtain ⟨_, _, hbd, h⟩ := hq rows h
              obtain ⟨v', w', h1, h2, h3, h4⟩ := hrun hbd
              have hkn : k < n := by rw [← hC.nlen]; exact hk
              rw [hv] at h3
              obtain ⟨hC', k1⟩ := hC.retag (v := v') hkn h3 (fun b hb => by
                have := h4 b hb
                rw [hv] at this
                exact this)
              refine ⟨_, v', _, _, n, _, w', h, h1, hC', RepL.kill k1 _ _ hE, ?_⟩
              unfold Rep
              refine ⟨hk, (c.retag_same _ _).symm, hs1, xs ++ news, ?_, (hrow.mono k1.imm).append (hr.mono k1.imm)⟩
              rw [c.retag_same, List.length_append]
              exact h2
            · exfalso
              have : ∀ {Q : List (List F) → Prop}, srcK T t1 t2 u x Q → ∃ rows, Q rows := by
                intro Q hQ
                obtain ⟨rows, _, h, _⟩ := run_append_any (ty := ty) Le ht b1 b3 b2 (ownsM_nil w 0 e u.size) hT hx hQ
                exact ⟨rows, h⟩
              obtain ⟨rows, h⟩ := this h
              obtain ⟨e1, e2, _⟩ := hq rows h
              exact he ⟨e1, e2⟩
          · exfalso
            obtain ⟨rows, _, h, _⟩ := run_append_any (ty := ty) Le ht b1 b3 b2 (ownsM_nil w 0 e u.size) hT hx h
            split at h
            · exact h0 rfl
            · exact h1 ⟨_, _, _, _, rfl⟩
            · exact h
    · exact h.elim
  · exact h.elim
end
end Go.Proofs.YtofjmhigfihhbaaDoor.Aw
