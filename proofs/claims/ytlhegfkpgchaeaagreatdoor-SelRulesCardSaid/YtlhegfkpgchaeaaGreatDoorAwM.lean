/- What a text makes of a state, reckoned out; and that the machine does just that. -/
import Derived.Test.YtlhegfkpgchaeaaGreatDoorAwJ
import Derived.Laws.StructEq
namespace Go.Proofs.YtlhegfkpgchaeaaGreatDoor.Aw
open Go Go.RowKit Go.Lib
set_option linter.unusedVariables false
set_option linter.unusedSimpArgs false
def srcK (T : Tab) (t1 t2 : Nat) (u : TI) (x : D) (K : List (List F) → Prop) : Prop :=
 match x with
 | .f (.sl xs) => bif Nat.beq t1 t2 then Owes (∀ r ∈ xs, r.length = u.size) (K xs) else False
 | .own _ _ s xs => bif Nat.beq t1 t2 && Nat.beq s u.size then K xs else False
 | .nil => bif Nat.beq t1 t2 then K [] else False
 | .f (.v (.string b)) => tiK T t2 fun t2i => (match t2i.desc, u.zval with
  | .string, .int .u8 0 => bif Nat.beq u.size 1 && Nat.beq u.bytes 1 then K (b.data.toList.map byteRow) else False
  | _, _ => False)
 | _ => False
def appendD (T : Tab) (ts : List Nat) (s x : D) (E : List D) (H : Hp) (n : Nat) (K : KD) : Prop :=
 match ts with
 | [t1, t2] => tiK T t1 fun ti => (match ti.desc with
  | .slice e => tiK T e fun u => bif Nat.ble 1 u.size && Nat.ble 1 u.bytes && Nat.beq u.zero.length u.size then srcK T t1 t2 u x fun xs => (match s with
   | .nil => Owes (xs.length * u.bytes ≤ 140737488355328) (K (.own n e u.size xs) E H (n + 1))
   | .own k e' s' es => bif Nat.beq e' e && Nat.beq s' u.size then Owes ((es.length + xs.length) * u.bytes ≤ 140737488355328) (K (.own k e s' (es ++ xs)) (killL k E) (killH k H) n) else False
   | _ => False) else False
  | _ => False)
 | _ => False
section
variable {P : Program} {c : Cx} {w : World} {H : Hp} {n : Nat} {B : Base}
theorem RepR.toRows {imm : Nat → Prop} {s : Nat} : ∀ {es : List (List F)} {b o : Nat}, RepR imm w es b o → (∀ e ∈ es, e.length = s) → ∃ xs, RepRows imm w s es xs ∧ ∀ j v, xs[j]? = some v → w.cell? ⟨b, o + j, none⟩ = some v
 | [], b, o, _, _ => ⟨[], by unfold RepRows; rfl, fun j v h => by simp at h⟩
 | e :: es, b, o, h, hl => by
  unfold RepR at h
  obtain ⟨zs, h1, h2⟩ := RepR.toRows h.2 (fun e he => hl e (List.mem_cons_of_mem _ he))
  have : ∀ (e : List F) (o : Nat), RepC imm w e b o → ∃ ys : List Value, RepFs imm w e ys ∧ ys.length = e.length ∧ ∀ j v, ys[j]? = some v → w.cell? ⟨b, o + j, none⟩ = some v := by
   intro e
   induction e with
   | nil => intro o _; exact ⟨[], by unfold RepFs; rfl, rfl, fun j v h => by simp at h⟩
   | cons x e ih =>
    intro o h
    unfold RepC at h
    obtain ⟨⟨y, h1, h2⟩, h3⟩ := h
    obtain ⟨ys, h4, h5, h6⟩ := ih (o + 1) h3
    refine ⟨y :: ys, by unfold RepFs; exact ⟨y, ys, rfl, h2, h4⟩, by simp [h5], fun j v hj => ?_⟩
    cases j with
    | zero => simp at hj; subst hj; exact h1
    | succ j => rw [show o + (j + 1) = o + 1 + j by omega]; exact h6 j v (by simpa using hj)
  obtain ⟨ys, h3, h4, h5⟩ := this e o h.1
  refine ⟨ys ++ zs, by unfold RepRows; exact ⟨ys, zs, rfl, hl e (List.mem_cons_self ..), h3, h1⟩, fun j v hj => ?_⟩
  rcases Nat.lt_or_ge j ys.length with hlt | hge
  ·rw [List.getElem?_append_left hlt] at hj
   exact h5 j v hj
  ·rw [List.getElem?_append_right hge] at hj
   have := h2 (j - ys.length) v hj
   rwa [show o + e.length + (j - ys.length) = o + j by omega] at this
theorem RepRows.append {imm : Nat → Prop} {s : Nat} : ∀ {es fs : List (List F)} {xs ys : List Value}, RepRows imm w s es xs → RepRows imm w s fs ys → RepRows imm w s (es ++ fs) (xs ++ ys)
 | [], fs, xs, ys, h, h' => by unfold RepRows at h; subst h; exact h'
 | e :: es, fs, xs, ys, h, h' => by
  unfold RepRows at h
  obtain ⟨us, zs, rfl, hl, h1, h2⟩ := h
  rw [List.append_assoc]
  simp only [List.cons_append]
  unfold RepRows
  exact ⟨us, _, rfl, hl, h1, RepRows.append h2 h'⟩
theorem RepRows.oneCell {imm : Nat → Prop} {s : Nat} : ∀ {es : List (List F)} {xs : List Value}, RepRows imm w s es xs → ∀ v ∈ xs, v.oneCell' = true
 | [], _, h, v, hv => by unfold RepRows at h; subst h; cases hv
 | e :: es, xs, h, v, hv => by
  unfold RepRows at h
  obtain ⟨us, zs, rfl, hl, h1, h2⟩ := h
  rcases List.mem_append.1 hv with hv | hv
  ·have : ∀ {e : List F} {us : List Value}, RepFs imm w e us → ∀ v ∈ us, v.oneCell' = true := by
    intro e
    induction e with
    | nil => intro us h v hv; unfold RepFs at h; subst h; cases hv
    | cons x e ih =>
     intro us h v hv
     unfold RepFs at h
     obtain ⟨u, us', rfl, h1, h2⟩ := h
     rcases List.mem_cons.1 hv with rfl | hv
     ·exact h1.oneCell
     ·exact ih h2 v hv
   exact this h1 v hv
  ·exact RepRows.oneCell h2 v hv
theorem run_append_any {e t1 t2 ty : Nat} {u : TI} (Le : Lay P e u) (ht : P.underlying t1 = some (.slice e)) (hs1 : 1 ≤ u.size) (hzl : u.zero.length = u.size) (hb1 : 1 ≤ u.bytes)
  {v : Value} {m : Nat} {xs : List Value} (how : ownsM w 0 e u.size v m xs) {T : Tab} (hT : TabOk P 0 T) {x : D} {y : Value} (hx : Rep c w x y) {K : List (List F) → Prop} (h : srcK T t1 t2 u x K) :
  ∃ rows news, K rows ∧ RepRows c.imm w u.size rows news ∧ ((m + rows.length) * u.bytes ≤ 140737488355328 → ∃ v' w', (Builtin.append_ #[t1, t2] ty #[v, y]).run P w = .ok v' w' ∧
   ownsM w' 0 e u.size v' (m + rows.length) (xs ++ news) ∧ w.grownBy w' (blk v) ∧ ∀ b, blk v' = some b → b < w'.heap.size ∧ (blk v = some b ∨ w.heap.size ≤ b)) := by
 obtain ⟨i, hi, hi1, hi2, hi3⟩ := Le.info
 have hzs : u.zval.cells.size = u.size := by rw [Le.zero]; simpa using hzl
 have hbig : ∀ k : Nat, (m + k) * u.bytes ≤ 140737488355328 → m + k ≤ maxLen := fun k hk => by
  have : (m + k) * 1 ≤ (m + k) * u.bytes := Nat.mul_le_mul_left _ hb1
  unfold maxLen
  omega
 have slice : t1 = t2 → ∀ (rows : List (List F)) (news : List Value) (ad : Addr) (cap : Nat), RepRows c.imm w u.size rows news → (∀ j z, news[j]? = some z → w.cell? (ad.add j) = some z) →
   (m + rows.length) * u.bytes ≤ 140737488355328 → ∃ v' w', (Builtin.append_ #[t1, t2] ty #[v, .slice (some ad) rows.length cap]).run P w = .ok v' w' ∧
   ownsM w' 0 e u.size v' (m + rows.length) (xs ++ news) ∧ w.grownBy w' (blk v) ∧ ∀ b, blk v' = some b → b < w'.heap.size ∧ (blk v = some b ∨ w.heap.size ≤ b) := by
  intro e0 rows news ad cap hr hc hb
  subst e0
  obtain ⟨v', w', h1, h2, h3, h4⟩ := run_append_ownM (P := P) w 0 t1 ty e i u.zval u.size u.bytes ht hi hi3 hi1 hi2 hzs (by omega) v m xs how ad rows.length cap news hr.length hc hr.oneCell (hbig _ hb) hb (Nat.zero_le _)
  refine ⟨v', w', h1, h2, h3, fun b hb => ⟨(h2.lt b hb).2, ?_⟩⟩
  rcases h4 with h4 | h4
  ·left
   show v.ownBlock = some b
   rw [← h4]; exact hb
  ·right
   have hb' : v'.ownBlock = some b := hb
   rw [h4] at hb'
   cases hb'
   exact Nat.le_refl _
 have none : t1 = t2 → ∃ v' w', (Builtin.append_ #[t1, t2] ty #[v, nilS]).run P w = .ok v' w' ∧
   ownsM w' 0 e u.size v' (m + ([] : List (List F)).length) (xs ++ []) ∧ w.grownBy w' (blk v) ∧ ∀ b, blk v' = some b → b < w'.heap.size ∧ (blk v = some b ∨ w.heap.size ≤ b) := by
  intro e0
  subst e0
  exact ⟨v, w, run_append_none_ownM (P := P) w 0 t1 ty e i u.size ht hi v m xs how, by simpa using how, ⟨rfl, rfl, rfl, Nat.le_refl _, fun _ _ _ => rfl⟩, fun b hb => ⟨(how.lt b hb).2, .inl hb⟩⟩
 unfold srcK at h
 split at h
 ·rename_i rows
  cases hb : Nat.beq t1 t2 with
  | false => simp only [hb, cond_false] at h
  | true =>
   simp only [hb, cond_true] at h
   have e0 := beq_eq hb
   replace h := Owes.open h
   obtain ⟨hl, h⟩ := h
   unfold Rep RepF at hx
   rcases hx with ⟨⟨a0, rfl⟩, rfl⟩ | ⟨b, o, cap, rfl, hc, him, hr⟩
   ·cases a0 with
    | none => exact ⟨[], [], h, by unfold RepRows; rfl, fun _ => none e0⟩
    | some a0 => exact ⟨[], [], h, by unfold RepRows; rfl, fun hb => slice e0 [] [] a0 0 (by unfold RepRows; rfl) (fun j z hz => by simp at hz) hb⟩
   ·obtain ⟨news, h1, h2⟩ := hr.toRows hl
    exact ⟨rows, news, h, h1, fun hb => slice e0 rows news ⟨b, o, Option.none⟩ cap h1 (fun j z hz => by rw [addr_add]; exact h2 j z hz) hb⟩
 ·rename_i k t s rows
  cases hb : (Nat.beq t1 t2 && Nat.beq s u.size) with
  | false => simp only [hb, cond_false] at h
  | true =>
   simp only [hb, cond_true] at h
   simp only [Bool.and_eq_true] at hb
   have e0 := beq_eq hb.1
   have e1 := beq_eq hb.2
   subst e1
   unfold Rep at hx
   obtain ⟨hk, rfl, hs, news, how2, hrow⟩ := hx
   rcases how2.2 with ⟨h1, h0⟩ | ⟨g, cap, cur, e1, _, ⟨fz, _, hh⟩, _, _, _, htake⟩
   ·have : rows = [] := List.eq_nil_of_length_eq_zero h0
    subst this
    have hn : news = [] := by unfold RepRows at hrow; exact hrow
    subst hn
    rw [h1]
    exact ⟨[], [], h, hrow, fun _ => none e0⟩
   ·rw [e1]
    refine ⟨rows, news, h, hrow, fun hb => slice e0 rows news ⟨g, 0, Option.none⟩ cap hrow (fun j z hz => ?_) hb⟩
    rw [addr_add, cell_of_row w _ _ cur _ fz hh, Nat.zero_add]
    rw [← htake, List.getElem?_take] at hz
    split at hz
    ·simpa using hz
    ·cases hz
 ·cases hb : Nat.beq t1 t2 with
  | false => simp only [hb, cond_false] at h
  | true =>
   simp only [hb, cond_true] at h
   unfold Rep at hx
   subst hx
   exact ⟨[], [], h, by unfold RepRows; rfl, fun _ => none (beq_eq hb)⟩
 ·rename_i b
  replace h := tiK_open hT h; obtain ⟨t2i, L2, h⟩ := h
  split at h
  ·rename_i hd hz
   have hu2 : P.underlying t2 = some .string := by rw [L2.und, hd]
   cases hb : (Nat.beq u.size 1 && Nat.beq u.bytes 1) with
   | false => simp only [hb, cond_false] at h
   | true =>
    simp only [hb, cond_true] at h
    simp only [Bool.and_eq_true] at hb
    have e1 := beq_eq hb.1
    have e2 := beq_eq hb.2
    have e3 := rep_v hx
    subst e3
    have hl : (b.data.toList.map byteRow).length = b.size := by simp
    refine ⟨_, strCells b, h, ?_, fun hbd => ?_⟩
    ·rw [e1]
     have : ∀ l : List UInt8, RepRows c.imm w 1 (l.map byteRow) (l.map fun b => Value.int .u8 b.toNat) := by
      intro l
      induction l with
      | nil => simp [RepRows]
      | cons x l ih =>
       simp only [List.map_cons]
       unfold RepRows
       refine ⟨[.int .u8 x.toNat], _, rfl, rfl, ?_, ih⟩
       unfold byteRow RepFs RepF
       exact ⟨_, [], rfl, ⟨rfl, rfl⟩, by unfold RepFs; rfl⟩
     exact this _
    ·rw [hl, e2, Nat.mul_one] at hbd
     rw [hl, e1]
     rw [e1] at how hi1
     rw [e2] at hi2
     have h63 : m + b.size ≤ maxLen := by unfold maxLen; omega
     have hz' : i.zero = some (.int .u8 0) := by rw [hi3, hz]
     obtain ⟨v', w', h1, h2, h3, h4⟩ := run_append_own_stringM (P := P) w 0 t1 t2 ty e i ht hu2 hi hz' hi1 hi2 v m xs how b h63 hbd (Nat.zero_le _)
     exact ⟨v', w', h1, h2, h3, fun q hq => ⟨(h2.lt q hq).2, h4 q hq⟩⟩
  ·exact h.elim
 ·exact h.elim
theorem appendD_sound {T : Tab} (hT : TabOk P 0 T) (hC : Con B c w H n) {E : List D} {a : Act} (hE : RepL c w E a.tmps.toList) {ts : List Nat} {ty : Nat} {s x : D} {v y : Value} (hs : Rep c w s v) (hx : Rep c w x y) {K : KD} (h : appendD T ts s x E H n K) :
  ∃ d u E' H' n' c' w', K d E' H' n' ∧ (Builtin.append_ ts.toArray ty #[v, y]).run P w = .ok u w' ∧ Con B c' w' H' n' ∧ RepL c' w' E' a.tmps.toList ∧ Rep c' w' d u := by
 unfold appendD at h
 split at h
 ·rename_i t1 t2
  replace h := tiK_open hT h; obtain ⟨ti, L, h⟩ := h
  split at h
  ·rename_i e hd
   have ht : P.underlying t1 = some (.slice e) := by rw [L.und, hd]
   replace h := tiK_open hT h; obtain ⟨u, Le, h⟩ := h
   cases hb : (Nat.ble 1 u.size && Nat.ble 1 u.bytes && Nat.beq u.zero.length u.size) with
   | false => simp only [hb, cond_false] at h
   | true =>
    simp only [hb, cond_true] at h
    simp only [Bool.and_eq_true] at hb
    have b1 := Nat.le_of_ble_eq_true hb.1.1
    have b2 := Nat.le_of_ble_eq_true hb.1.2
    have b3 := beq_eq hb.2
    by_cases h0 : s = .nil
    ·subst h0
     have hv : v = nilS := by unfold Rep at hs; exact hs
     subst hv
     obtain ⟨rows, news, h, hr, hrun⟩ := run_append_any (ty := ty) Le ht b1 b3 b2 (ownsM_nil w 0 e u.size) hT hx h
     simp only at h
     replace h := Owes.open h
     obtain ⟨hbd, h⟩ := h
     obtain ⟨v', w', h1, h2, h3, h4⟩ := hrun (by rw [Nat.zero_add]; exact hbd)
     rw [Nat.zero_add] at h2
     have hbel : Below w.heap.size w w' := ⟨h3.os, h3.tape, h3.output, h3.size, fun k hk => h3.block k hk (by intro e; cases e)⟩
     obtain ⟨hC', hk⟩ := hC.newTag (v := v') hbel (fun b hb => by
      obtain ⟨a1, a2⟩ := h4 b hb
      rcases a2 with a2 | a2
      ·cases a2
      ·exact ⟨a2, a1⟩)
     refine ⟨_, v', E, H, n + 1, _, w', h, h1, hC', hE.mono hk, ?_⟩
     unfold Rep
     have hnn := hC.nlen
     subst hnn
     refine ⟨Nat.lt_succ_self _, (c.newTag_same _).symm, b1, news, ?_, hr.mono hk.imm⟩
     rw [c.newTag_same]
     simpa using h2
    ·by_cases h1 : ∃ k e' s' es, s = .own k e' s' es
     ·obtain ⟨k, e', s', es, rfl⟩ := h1
      have hs0 := hs
      unfold Rep at hs
      obtain ⟨hk, hv, hs1, xs, how, hrow⟩ := hs
      have hq : ∀ rows, (match D.own k e' s' es with
       | .nil => Owes (rows.length * u.bytes ≤ 140737488355328) (K (.own n e u.size rows) E H (n + 1))
       | .own k e' s' es => bif Nat.beq e' e && Nat.beq s' u.size then Owes ((es.length + rows.length) * u.bytes ≤ 140737488355328) (K (.own k e s' (es ++ rows)) (killL k E) (killH k H) n) else False
       | _ => False) → e' = e ∧ s' = u.size ∧ (es.length + rows.length) * u.bytes ≤ 140737488355328 ∧ K (.own k e s' (es ++ rows)) (killL k E) (killH k H) n := fun rows h => by
       simp only at h
       cases hb : (Nat.beq e' e && Nat.beq s' u.size) with
       | false => simp only [hb, cond_false] at h
       | true =>
        simp only [hb, cond_true] at h
        simp only [Bool.and_eq_true] at hb
        replace h := Owes.open h
        exact ⟨beq_eq hb.1, beq_eq hb.2, h.1, h.2⟩
      by_cases he : e' = e ∧ s' = u.size
      ·obtain ⟨rfl, rfl⟩ := he
       rw [← hv] at how
       obtain ⟨rows, news, h, hr, hrun⟩ := run_append_any (ty := ty) Le ht b1 b3 b2 how hT hx h
       obtain ⟨_, _, hbd, h⟩ := hq rows h
       obtain ⟨v', w', h1, h2, h3, h4⟩ := hrun hbd
       have hkn : k < n := by rw [← hC.nlen]; exact hk
       rw [hv] at h3
       obtain ⟨hC', k1⟩ := hC.retag (v := v') hkn h3 (fun b hb => by
        have := h4 b hb
        rw [hv] at this
        exact this)
       refine ⟨_, v', _, _, n, _, w', h, h1, hC', RepL.kill k1 _ _ hE, ?_⟩
       unfold Rep
       refine ⟨hk, (c.retag_same _ _).symm, hs1, xs ++ news, ?_, (hrow.mono k1.imm).append (hr.mono k1.imm)⟩
       rw [c.retag_same, List.length_append]
       exact h2
      ·exfalso
       have : ∀ {Q : List (List F) → Prop}, srcK T t1 t2 u x Q → ∃ rows, Q rows := by
        intro Q hQ
        obtain ⟨rows, _, h, _⟩ := run_append_any (ty := ty) Le ht b1 b3 b2 (ownsM_nil w 0 e u.size) hT hx hQ
        exact ⟨rows, h⟩
       obtain ⟨rows, h⟩ := this h
       obtain ⟨e1, e2, _⟩ := hq rows h
       exact he ⟨e1, e2⟩
     ·exfalso
      obtain ⟨rows, _, h, _⟩ := run_append_any (ty := ty) Le ht b1 b3 b2 (ownsM_nil w 0 e u.size) hT hx h
      split at h
      ·exact h0 rfl
      ·exact h1 ⟨_, _, _, _, rfl⟩
      ·exact h
  ·exact h.elim
 ·exact h.elim
end
def minL (k : IntKind) (up : Bool) : Int → List D → (Int → Prop) → Prop
 | x, [], K => K x
 | x, d :: ds, K => match d with
  | .f (.v (.int j y)) => bif Nat.beq (knd k) (knd j) then (bif up then minL k up (if y > x then y else x) ds K else minL k up (if y < x then y else x) ds K) else False
  | _ => False
def minD (up : Bool) (ds : List D) (K : D → Prop) : Prop :=
 match ds with
 | .f (.v (.int k x)) :: ds => minL k up x ds fun r => K (.int k r)
 | _ => False
def eqFsK (T : Tab) (sz : Nat) (rec : Nat → List D → List D → (Bool → Prop) → Prop) : List Field → List D → List D → (Bool → Prop) → Prop
 | [], _, _, K => K true
 | f :: fs, cs, ds, K => tiK T f.type fun u => bif Nat.ble (f.offset + u.size) sz && Nat.ble 1 u.size then rec f.type (dropL f.offset cs) (dropL f.offset ds) fun b => eqFsK T sz rec fs cs ds fun r => K (b && r) else False
def eqK (T : Tab) : Nat → Nat → List D → List D → (Bool → Prop) → Prop
 | 0, _, _, _, _ => False
 | m + 1, t, cs, ds, K => tiK T t fun ti => match ti.desc with
  | .int _ => (match cs, ds with
   | .f (.v (.int j a)) :: _, .f (.v (.int k b)) :: _ => bif Nat.beq (knd j) (knd k) then K (a == b) else False
   | _, _ => False)
  | .bool => (match cs, ds with
   | .f (.v (.bool a)) :: _, .f (.v (.bool b)) :: _ => K (a == b)
   | _, _ => False)
  | .string => (match cs, ds with
   | .f (.v (.string a)) :: _, .f (.v (.string b)) :: _ => K (a.toList == b.toList)
   | _, _ => False)
  | .struct fs => bif Nat.ble ti.size cs.length && Nat.ble ti.size ds.length then eqFsK T ti.size (fun t cs ds K => eqK T m t cs ds K) fs.toList cs ds K else False
  | _ => False
def eqD (T : Tab) (op : BinOp) (t : Nat) (x y : D) (K : D → Prop) : Prop :=
 match x, y with
 | .agg cs, .agg ds => tiK T t fun ti => bif Nat.beq cs.length ti.size && Nat.beq ds.length ti.size then (match ti.desc with
  | .struct _ => (match op with
   | .eql => eqK T 9 t cs ds fun b => K (.bool b)
   | .neq => eqK T 9 t cs ds fun b => K (.bool (!b))
   | _ => False)
  | _ => False) else False
 | _, _ => False
section
variable {P : Program} {c : Cx} {w : World} {H : Hp} {n : Nat} {B : Base}
theorem minL_sound {k : IntKind} {up : Bool} : ∀ (ds : List D) (vs : List Value) (x : Int) (K : Int → Prop), RepL c w ds vs → minL k up x ds K →
  ∃ r, K r ∧ ∀ w' : World, (vs.foldlM (m := Sem) (if up then Builtin.max2 else Builtin.min2) (.int k x)).run P w' = .ok (.int k r) w'
 | [], vs, x, K, hr, h => by
  unfold RepL at hr
  subst hr
  exact ⟨x, h, fun _ => rfl⟩
 | d :: ds, vs, x, K, hr, h => by
  unfold RepL at hr
  obtain ⟨v, vs', rfl, h1, h2⟩ := hr
  unfold minL at h
  split at h
  ·rename_i j y
   have e1 := rep_v h1
   subst e1
   cases hb : Nat.beq (knd k) (knd j) with
   | false => simp only [hb, cond_false] at h
   | true =>
    simp only [hb, cond_true] at h
    cases up with
    | true =>
     simp only [cond_true] at h
     obtain ⟨r, h3, h4⟩ := minL_sound ds vs' _ K h2 h
     refine ⟨r, h3, fun w' => ?_⟩
     have h4 := h4 w'
     simp only [if_true] at h4 ⊢
     simp only [List.foldlM_cons, Builtin.max2, Sem.run_bind, Sem.run_pure, Result.andThen_ok]
     exact h4
    | false =>
     simp only [cond_false] at h
     obtain ⟨r, h3, h4⟩ := minL_sound ds vs' _ K h2 h
     refine ⟨r, h3, fun w' => ?_⟩
     have h4 := h4 w'
     simp only [Bool.false_eq_true, if_false] at h4 ⊢
     simp only [List.foldlM_cons, Builtin.min2, Sem.run_bind, Sem.run_pure, Result.andThen_ok]
     exact h4
  ·exact h.elim
theorem minD_sound {up : Bool} {ds : List D} {vs : List Value} {ts : Array TypeId} {ty : TypeId} (hr : RepL c w ds vs) {K : D → Prop} (h : minD up ds K) :
  ∃ z, z.oneCell' = true ∧ K (.f (.v z)) ∧ ∀ w' : World, ((if up then Builtin.max_ ts ty vs.toArray else Builtin.min_ ts ty vs.toArray)).run P w' = .ok z w' := by
 unfold minD at h
 split at h
 ·rename_i k x ds
  unfold RepL at hr
  obtain ⟨v, vs', rfl, h1, h2⟩ := hr
  have e1 := rep_v h1
  subst e1
  obtain ⟨r, h3, h4⟩ := minL_sound (P := P) ds vs' x _ h2 h
  refine ⟨_, rfl, h3, fun w' => ?_⟩
  cases up with
  | true => simpa [Builtin.max_] using h4 w'
  | false => simpa [Builtin.min_] using h4 w'
 ·exact h.elim
theorem part_leaf (w : World) {t : Nat} {ti : TI} (L : Lay P t ti) (hg : ti.isAgg = false) {vs : List Value} {o : Nat} {x : Value} (h : vs[o]? = some x) : (part t vs.toArray o).run P w = .ok x w := by
 unfold part
 simp only [Sem.run_bind, L.run_isAgg w, Result.andThen_ok, hg, Bool.false_eq_true, if_false]
 have : vs.toArray[o]? = some x := by simpa using h
 simp [this]
theorem part_agg (w : World) {t : Nat} {ti : TI} (L : Lay P t ti) (hg : ti.isAgg = true) (vs : List Value) (o : Nat) : (part t vs.toArray o).run P w = .ok (.agg ((vs.drop o).take ti.size).toArray) w := by
 unfold part
 simp only [Sem.run_bind, L.run_isAgg w, Result.andThen_ok, hg, if_true, L.run_sizeOf w, Sem.run_pure]
 congr 2
 apply Array.ext'
 rw [Array.toList_extract]
 simp [List.extract_eq_take_drop]
theorem part_shift (w : World) {t : Nat} {ti : TI} (L : Lay P t ti) {vs : List Value} {o sz : Nat} (h1 : o + ti.size ≤ sz) (h2 : 1 ≤ ti.size) {x : Value} (h : (part t (vs.drop o).toArray 0).run P w = .ok x w) : (part t (vs.take sz).toArray o).run P w = .ok x w := by
 cases hg : ti.isAgg with
 | true =>
  rw [part_agg w L hg] at h ⊢
  rw [← h]
  congr 3
  simp only [List.drop_zero, List.drop_take, List.take_take]
  congr 1
  omega
 | false =>
  have : (vs.drop o)[0]? = some x := by
   unfold part at h
   simp only [Sem.run_bind, L.run_isAgg w, Result.andThen_ok, hg, Bool.false_eq_true, if_false] at h
   cases hv : (vs.drop o)[0]? with
   | none =>
    have : (vs.drop o).toArray[0]? = none := by simpa using hv
    simp [this] at h
   | some z =>
    have : (vs.drop o).toArray[0]? = some z := by simpa using hv
    simp [this] at h
    rw [h]
  refine part_leaf w L hg ?_
  rw [List.getElem?_take, if_pos (by omega)]
  simpa using this
theorem eqK_sound {T : Tab} (hT : TabOk P 0 T) : ∀ (m t : Nat) (cs ds : List D) (vs us : List Value) (K : Bool → Prop) (d : Nat), m ≤ d → RepL c w cs vs → RepL c w ds us → eqK T m t cs ds K →
  ∃ b x y, K b ∧ ∀ w' : World, (part t vs.toArray 0).run P w' = .ok x w' ∧ (part t us.toArray 0).run P w' = .ok y w' ∧ (Op.equalIn d t x y).run P w' = .ok b w'
 | 0, _, _, _, _, _, _, _, _, _, _, h => h.elim
 | m + 1, t, cs, ds, vs, us, K, d, hd, hc, hs, h => by
  unfold eqK at h
  replace h := tiK_open hT h; obtain ⟨ti, L, h⟩ := h
  obtain ⟨d, rfl⟩ : ∃ k, d = k + 1 := ⟨d - 1, by omega⟩
  split at h
  ·rename_i k hde
   have hu : P.underlying t = some (.int k) := by rw [L.und, hde]
   have hg : ti.isAgg = false := by unfold TI.isAgg; rw [hde]
   split at h
   ·rename_i j a _ k' b _
    cases hb : Nat.beq (knd j) (knd k') with
    | false => simp only [hb, cond_false] at h
    | true =>
     simp only [hb, cond_true] at h
     have := knd_inj hb
     subst this
     unfold RepL at hc hs
     obtain ⟨v, vs', rfl, e1, _⟩ := hc
     obtain ⟨u, us', rfl, e2, _⟩ := hs
     have e1 := rep_v e1
     have e2 := rep_v e2
     subst e1 e2
     exact ⟨_, _, _, h, fun w' => ⟨part_leaf w' L hg rfl, part_leaf w' L hg rfl, run_equalIn_int w' d t _ _ a b hu⟩⟩
   ·exact h.elim
  ·rename_i hde
   have hu : P.underlying t = some .bool := by rw [L.und, hde]
   have hg : ti.isAgg = false := by unfold TI.isAgg; rw [hde]
   split at h
   ·rename_i a _ b _
    unfold RepL at hc hs
    obtain ⟨v, vs', rfl, e1, _⟩ := hc
    obtain ⟨u, us', rfl, e2, _⟩ := hs
    have e1 := rep_v e1
    have e2 := rep_v e2
    subst e1 e2
    exact ⟨_, _, _, h, fun w' => ⟨part_leaf w' L hg rfl, part_leaf w' L hg rfl, run_equalIn_bool' w' d t a b hu⟩⟩
   ·exact h.elim
  ·rename_i hde
   have hu : P.underlying t = some .string := by rw [L.und, hde]
   have hg : ti.isAgg = false := by unfold TI.isAgg; rw [hde]
   split at h
   ·rename_i a _ b _
    unfold RepL at hc hs
    obtain ⟨v, vs', rfl, e1, _⟩ := hc
    obtain ⟨u, us', rfl, e2, _⟩ := hs
    have e1 := rep_v e1
    have e2 := rep_v e2
    subst e1 e2
    exact ⟨_, _, _, h, fun w' => ⟨part_leaf w' L hg rfl, part_leaf w' L hg rfl, run_equalIn_string w' d t a b hu⟩⟩
   ·exact h.elim
  ·rename_i fs hde
   have hu : P.underlying t = some (.struct fs) := by rw [L.und, hde]
   have hg : ti.isAgg = true := by unfold TI.isAgg; rw [hde]
   have heq := L.eq
   unfold EqFit at heq
   rw [hde] at heq
   simp only at heq
   obtain ⟨hbl, hst, _⟩ := heq
   cases hb : (Nat.ble ti.size cs.length && Nat.ble ti.size ds.length) with
   | false => simp only [hb, cond_false] at h
   | true =>
    simp only [hb, cond_true] at h
    have fields : ∀ (fl : List Field) (K : Bool → Prop), (∀ f ∈ fl, (f.name != "_") = true) → eqFsK T ti.size (fun t cs ds K => eqK T m t cs ds K) fl cs ds K →
      ∃ b, K b ∧ ∀ w' : World, (Op.eqFields d (vs.take ti.size).toArray (us.take ti.size).toArray fl).run P w' = .ok b w' := by
     intro fl
     induction fl with
     | nil => intro K _ h; exact ⟨true, h, fun _ => rfl⟩
     | cons f fl ih =>
      intro K hn h
      unfold eqFsK at h
      replace h := tiK_open hT h; obtain ⟨u, Lu, h⟩ := h
      cases hz : (Nat.ble (f.offset + u.size) ti.size && Nat.ble 1 u.size) with
      | false => simp only [hz, cond_false] at h
      | true =>
       simp only [hz, cond_true] at h
       simp only [Bool.and_eq_true] at hz
       have z1 := Nat.le_of_ble_eq_true hz.1
       have z2 := Nat.le_of_ble_eq_true hz.2
       rw [dropL_eq, dropL_eq] at h
       obtain ⟨b1, x, y, h, hw⟩ := eqK_sound hT m f.type _ _ (vs.drop f.offset) (us.drop f.offset) _ d (by omega) (hc.drop _) (hs.drop _) h
       obtain ⟨b2, h, e2⟩ := ih _ (fun f hf => hn f (List.mem_cons_of_mem _ hf)) h
       refine ⟨_, h, fun w' => ?_⟩
       obtain ⟨x1, y1, e⟩ := hw w'
       have e2 := e2 w'
       have hne : f.name ≠ "_" := by simpa using hn f (List.mem_cons_self ..)
       unfold Op.eqFields
       rw [if_pos hne]
       simp only [Sem.run_bind, part_shift w' Lu z1 z2 x1, part_shift w' Lu z1 z2 y1, e, Result.andThen_ok, Sem.run_ite]
       cases b1
       ·simp
       ·simpa using e2
    obtain ⟨b, hK, hF⟩ := fields fs.toList K (fun f hf => (Array.all_eq_true_iff_forall_mem.1 hbl) f (by simpa using hf)) h
    refine ⟨b, _, _, hK, fun w' => ⟨part_agg w' L hg vs 0, part_agg w' L hg us 0, ?_⟩⟩
    have hfo : P.fieldsOf t = fs := by unfold Program.fieldsOf; rw [hu]
    rw [run_equalIn_struct w' d t _ _ (by rw [hfo]; exact hu) hst, hfo]
    simpa using hF w'
  ·exact h.elim
theorem eqD_sound {T : Tab} (hT : TabOk P 0 T) {op : BinOp} {t : Nat} {x y : D} {ox oy : Operand} {u v : Value} {K : D → Prop} (hx : Rep c w x u) (hy : Rep c w y v) (h : eqD T op t x y K) :
  ∃ z, z.oneCell' = true ∧ K (.f (.v z)) ∧ ∀ w' : World, (do eqGuard op t ox oy u v; binOp op t u v : Sem Value).run P w' = .ok z w' := by
 unfold eqD at h
 split at h
 ·rename_i cs ds
  unfold Rep at hx hy
  obtain ⟨vs, rfl, hr⟩ := hx
  obtain ⟨us, rfl, hs⟩ := hy
  replace h := tiK_open hT h; obtain ⟨ti, L, h⟩ := h
  cases hl : (Nat.beq cs.length ti.size && Nat.beq ds.length ti.size) with
  | false => simp only [hl, cond_false] at h
  | true =>
  simp only [hl, cond_true] at h
  simp only [Bool.and_eq_true] at hl
  have l1 : vs.length = ti.size := by rw [hr.length]; exact beq_eq hl.1
  have l2 : us.length = ti.size := by rw [hs.length]; exact beq_eq hl.2
  split at h
  ·rename_i fs hde
   have hu : P.underlying t = some (.struct fs) := by rw [L.und, hde]
   have hg : ti.isAgg = true := by unfold TI.isAgg; rw [hde]
   have heq := L.eq
   unfold EqFit at heq
   rw [hde] at heq
   simp only at heq
   have hgd : ∀ w : World, (eqGuard op t ox oy (.agg vs.toArray) (.agg us.toArray)).run P w = .ok () w := fun w => run_eqGuard_agg w op t ox oy _ _ heq.2.2
   have whole : ∀ {w : World} {b : Bool} {x y : Value}, (part t vs.toArray 0).run P w = .ok x w → (part t us.toArray 0).run P w = .ok y w → (Op.equalIn 10000 t x y).run P w = .ok b w → vs.length = ti.size → us.length = ti.size →
     (Op.equalIn 10000 t (.agg vs.toArray) (.agg us.toArray)).run P w = .ok b w := fun h1 h2 h3 l1 l2 => by
    rw [part_agg _ L hg] at h1 h2
    cases h1
    cases h2
    rw [List.drop_zero, List.drop_zero, List.take_of_length_le (by omega), List.take_of_length_le (by omega)] at h3
    exact h3
   split at h
   ·obtain ⟨b, x, y, h, hw⟩ := eqK_sound hT 9 t cs ds vs us _ 10000 (by omega) hr hs h
    exact ⟨_, rfl, h, fun w' => by obtain ⟨h1, h2, h3⟩ := hw w'; simp only [Sem.run_bind, hgd, Result.andThen_ok, run_eql_struct, whole h1 h2 h3 l1 l2]⟩
   ·obtain ⟨b, x, y, h, hw⟩ := eqK_sound hT 9 t cs ds vs us _ 10000 (by omega) hr hs h
    exact ⟨_, rfl, h, fun w' => by obtain ⟨h1, h2, h3⟩ := hw w'; simp only [Sem.run_bind, hgd, Result.andThen_ok, run_neq_struct, whole h1 h2 h3 l1 l2]⟩
   ·exact h.elim
  ·exact h.elim
 ·exact h.elim
end
def evs (E : List D) : List Operand → (List D → Prop) → Prop
  | [], K => K []
  | x :: xs, K => evK E x fun d => evs E xs fun l => K (d :: l)
theorem evs_eq (E : List D) : ∀ (l : List Operand) (K : List D → Prop), evs E l K = K (l.map (ev E))
  | [], _ => rfl
  | x :: l, K => by unfold evs; rw [evK_eq, evs_eq E l]; rfl
def appK (l : List D) (cap : List D) (K : List D → Prop) : Prop := match cap with
  | [] => K l
  | cap => K (l ++ cap)
theorem appK_eq (l cap : List D) (K : List D → Prop) : appK l cap K = K (l ++ cap) := by unfold appK; split <;> simp
structure OpStep (P : Program) (o : Oper) (E : List D) (H : Hp) (n : Nat) (K : KD) : Prop where of ::
  out : OpSem P o E H n K
theorem OpStep.open {P : Program} {o : Oper} {E : List D} {H : Hp} {n : Nat} {K : KD} (h : OpStep P o E H n K) : OpSem P o E H n K := h.out
theorem OpStep.mk {P : Program} {o : Oper} {E : List D} {H : Hp} {n : Nat} {K : KD} (h : OpSem P o E H n K) : OpStep P o E H n K := ⟨h⟩
structure Call (P : Program) (g : FuncId) (args : List D) (E : List D) (H : Hp) (n : Nat) (K : KD) : Prop where of ::
  out : CallStep P g args E H n K
theorem Call.open {P : Program} {g : FuncId} {args E : List D} {H : Hp} {n : Nat} {K : KD} (h : Call P g args E H n K) : CallStep P g args E H n K := h.out
theorem Call.mk {P : Program} {g : FuncId} {args E : List D} {H : Hp} {n : Nat} {K : KD} (h : CallStep P g args E H n K) : Call P g args E H n K := ⟨h⟩
structure Step (P : Program) (k : Code) (Q : X → List D → Hp → Nat → Prop) (E : List D) (H : Hp) (n : Nat) : Prop where of ::
  out : CSem P k Q E H n
theorem Step.open {P : Program} {k : Code} {Q : X → List D → Hp → Nat → Prop} {E : List D} {H : Hp} {n : Nat} (h : Step P k Q E H n) : CSem P k Q E H n := h.out
theorem Step.mk {P : Program} {k : Code} {Q : X → List D → Hp → Nat → Prop} {E : List D} {H : Hp} {n : Nat} (h : CSem P k Q E H n) : Step P k Q E H n := ⟨h⟩
def opD (P : Program) (T : Tab) (o : Oper) (E : List D) (H : Hp) (n : Nat) (K : KD) : Prop :=
  match o.op with
  | .move x => evK E x fun d => K d E H n
  | .assign x => evK E x fun d => K d E H n
  | .pick c a b => match ev E c with
    | .f (.v (.bool t)) => Case t (evK E a fun d => K d E H n) (evK E b fun d => K d E H n)
    | _ => False
  | .alloc t => tiK T t fun ti => numK H.length fun h => pushHK H (some (ofCs ti.zero)) fun H' => K (.ptr h 0) E H' n
  | .box t x => evK E x fun d => cellsK d fun cs => numK H.length fun h => pushHK H (some cs) fun H' => K (.ptr h 0) E H' n
  | .build t parts => buildD T t parts.toList E fun d => K d E H n
  | .buildSlice t len parts => buildSliceD T t len parts.toList E H n fun d E H n => numK n fun n => K d E H n
  | .load t a => loadD T t (ev E a) H fun d => K d E H n
  | .store t a x => evK E x fun d => storeD T t (ev E a) d E H n K
  | .nilCheck x => match ev E x with
    | .ptr k o => K (.ptr k o) E H n
    | .ip cs => K (.ip cs) E H n
    | .optr k t s es i o => K (.optr k t s es i o) E H n
    | .fn g cap => K (.fn g cap) E H n
    | _ => False
  | .binOp op t x y _ => match ev E x with
    | .agg cs => eqD T op t (.agg cs) (ev E y) fun d => K d E H n
    | .f (.v (.bool b)) => tiK T t fun ti => (match ti.desc with
      | .bool => boolD op (.f (.v (.bool b))) (ev E y) fun d => K d E H n
      | _ => False)
    | .f (.v (.pointer _)) => OpStep P o E H n K
    | .f (.sl _) => OpStep P o E H n K
    | .f (.v .nilIface) => OpStep P o E H n K
    | .f (.v (.iface _ _)) => OpStep P o E H n K
    | .nil => OpStep P o E H n K
    | .own _ _ _ _ => OpStep P o E H n K
    | .optr _ _ _ _ _ _ => OpStep P o E H n K
    | .ptr _ _ => OpStep P o E H n K
    | .ip _ => OpStep P o E H n K
    | .fn _ _ => OpStep P o E H n K
    | dx => binD op dx (ev E y) fun d => K d E H n
  | .unOp op _ x => unD op (ev E x) fun d => K d E H n
  | .convert s t x => match ev E x with
    | .ptr _ _ => OpStep P o E H n K
    | .ip _ => OpStep P o E H n K
    | .f (.v (.pointer _)) => OpStep P o E H n K
    | dx => convertD T s t dx E H n K
  | .makeFunc fn first cap => match fn, first.toList with
    | .func g, [] => evs E cap.toList fun l => K (.fn g l) E H n
    | _, _ => False
  | .slice t x lo hi mx => sliceD T t (ev E x) lo hi mx E H n K
  | .fieldAddr t x f => fieldAddrD T t (ev E x) f fun d => K d E H n
  | .field t x f => fieldD T t (ev E x) f fun d => K d E H n
  | .indexAddr t x i => indexAddrD T t (ev E x) (ev E i) fun d => K d E H n
  | .index t x i => indexD T t (ev E x) (ev E i) fun d => K d E H n
  | .extract x i => match ev E x with
    | .tup ds => (match ds[i]? with
      | some d => force d fun d => K d E H n
      | none => False)
    | _ => False
  | .call c => (match c.callee with
    | .builtin .len => (match c.args.toList, c.argTypes.toList with
      | [x], [t] => lenD T t (ev E x) fun d => K d E H n
      | _, _ => False)
    | .builtin .append => (match c.args.toList with
      | [s, x] => appendD T c.argTypes.toList (ev E s) (ev E x) E H n fun d E H n => numK n fun n => K d E H n
      | _ => False)
    | .builtin .min => evs E c.args.toList fun l => minD false l fun d => K d E H n
    | .builtin .max => evs E c.args.toList fun l => minD true l fun d => K d E H n
    | .value f => (match ev E f with
      | .fn g cap => evs E c.args.toList fun l => appK l cap fun l => Call P g l E H n K
      | _ => OpStep P o E H n K)
    | _ => OpStep P o E H n K)
  | _ => OpStep P o E H n K
section
variable {P : Program}
theorem opSem_value {o : Oper} {E : List D} {H : Hp} {n : Nat} {K : KD}
    (h : ∀ (B : Base) (c : Cx) (w : World) (a : Act), Con B c w H n → RepL c w E a.tmps.toList → a.defers = [] →
      ∃ d v E' H' n' c' w', K d E' H' n' ∧ (execOp a.eval o).run P w = .ok (.value v) w' ∧ Con B c' w' H' n' ∧ RepL c' w' E' a.tmps.toList ∧ Rep c' w' d v) : OpSem P o E H n K :=
  fun B c w a hC hE hd => by
    obtain ⟨d, v, E', H', n', c', w', h1, h2, h3, h4, h5⟩ := h B c w a hC hE hd
    unfold Oper.wp
    rw [h2]
    exact ⟨d, v, E', H', n', c', h1, rfl, h3, h4, h5⟩
theorem opSem_pure {o : Oper} {E : List D} {H : Hp} {n : Nat} {K : KD}
    (h : ∀ (B : Base) (c : Cx) (w : World) (a : Act), Con B c w H n → RepL c w E a.tmps.toList → a.defers = [] →
      ∃ d v, K d E H n ∧ (execOp a.eval o).run P w = .ok (.value v) w ∧ Rep c w d v) : OpSem P o E H n K :=
  opSem_value fun B c w a hC hE hd => by
    obtain ⟨d, v, h1, h2, h3⟩ := h B c w a hC hE hd
    exact ⟨d, v, E, H, n, c, w, h1, h2, hC, hE, h3⟩
theorem repL_evs {c : Cx} {w : World} {E : List D} {a : Act} (hE : RepL c w E a.tmps.toList) : ∀ (l : List Operand), RepL c w (l.map (ev E)) (l.map a.eval)
  | [] => repL_nil
  | x :: l => repL_cons (rep_ev hE x) (repL_evs hE l)
theorem opD_sound {T : Tab} (hT : TabOk P 0 T) {o : Oper} {E : List D} {H : Hp} {n : Nat} {K : KD} (h : opD P T o E H n K) : OpSem P o E H n K := by
  unfold opD at h
  split at h
  · rename_i x ho
    rw [evK_eq] at h
    exact opSem_pure fun B c w a hC hE hd => ⟨_, _, h, by simp [execOp, ho], rep_ev hE x⟩
  · rename_i x ho
    rw [evK_eq] at h
    exact opSem_pure fun B c w a hC hE hd => ⟨_, _, h, by simp [execOp, ho], rep_ev hE x⟩
  · rename_i q x y ho
    split at h
    · rename_i t et
      simp only [evK_eq] at h
      refine opSem_pure fun B c w a hC hE hd => ?_
      have hq := rep_ev hE q
      rw [et] at hq
      have hq := rep_v hq
      replace h := Case.open h
      rcases h with ⟨rfl, h⟩ | ⟨rfl, h⟩
      · exact ⟨_, _, h, by simp [execOp, ho, hq, asBool], rep_ev hE x⟩
      · exact ⟨_, _, h, by simp [execOp, ho, hq, asBool], rep_ev hE y⟩
    · exact h.elim
  · rename_i t ho
    replace h := tiK_open hT h; obtain ⟨ti, L, h⟩ := h
    rw [numK_eq, pushHK_eq] at h
    refine opSem_value fun B c w a hC hE hd => ?_
    obtain ⟨hC', hk⟩ := hC.push (C := ti.zval.cells) (T := t) (cs := ofCs ti.zero) (by rw [L.zero]; exact repL_ofCs _)
    refine ⟨_, .pointer (some ⟨w.heap.size, 0, none⟩), E, _, n, _, _, h, ?_, hC', hE.mono hk, ?_⟩
    · simp [execOp, ho, Instr.alloc, L.run_zeroValue w, newVar, newRow]
    · unfold Rep
      rw [← hC.hlen]
      refine ⟨Nat.lt_succ_self _, ?_⟩
      show _ = Value.pointer (some ⟨if c.h = c.h then _ else _, _, _⟩)
      rw [if_pos rfl]
  · rename_i t x ho
    rw [evK_eq] at h
    refine opSem_value fun B c w a hC hE hd => ?_
    obtain ⟨cs, h, hr, _⟩ := cellsK_open (rep_ev hE x) h
    rw [numK_eq, pushHK_eq] at h
    obtain ⟨hC', hk⟩ := hC.push (C := (a.eval x).cells) (T := t) (cs := cs) hr
    refine ⟨_, .pointer (some ⟨w.heap.size, 0, none⟩), E, _, n, _, _, h, ?_, hC', hE.mono hk, ?_⟩
    · simp [execOp, ho, Instr.box, newVar, newRow]
    · unfold Rep
      rw [← hC.hlen]
      refine ⟨Nat.lt_succ_self _, ?_⟩
      show _ = Value.pointer (some ⟨if c.h = c.h then _ else _, _, _⟩)
      rw [if_pos rfl]
  · rename_i t parts ho
    refine opSem_pure fun B c w a hC hE hd => ?_
    obtain ⟨d, v, h1, h2, h3⟩ := buildD_sound (w := w) hT hE h
    exact ⟨d, v, h1, by simp [execOp, ho, h2], h3⟩
  · rename_i t len parts ho
    refine opSem_value fun B c w a hC hE hd => ?_
    obtain ⟨d, v, E', H', n', c', w', h1, h2, h3, h4, h5, _⟩ := buildSliceD_sound hT hC hE h
    rw [numK_eq] at h1
    exact ⟨d, v, E', H', n', c', w', h1, by simp [execOp, ho, h2], h3, h4, h5⟩
  · rename_i t x ho
    refine opSem_pure fun B c w a hC hE hd => ?_
    obtain ⟨d, v, h1, h2, h3⟩ := loadD_sound hT hC (rep_ev hE x) h
    exact ⟨d, v, h1, by simp [execOp, ho, h2 w (Below.refl _ _)], h3⟩
  · rename_i t x y ho
    intro B c w a hC hE hd
    rw [evK_eq] at h
    obtain ⟨E', H', c', w', h1, h2, h3, h4⟩ := storeD_sound hT hC hE (rep_ev hE x) (rep_ev hE y) h
    unfold Oper.wp
    have : (execOp a.eval o).run P w = .ok .skip w' := by simp [execOp, ho, h2]
    rw [this]
    exact ⟨_, undef, E', H', n, c', h1, rfl, h3, h4, by unfold Rep; trivial⟩
  · rename_i x ho
    refine opSem_pure fun B c w a hC hE hd => ?_
    have hx := rep_ev hE x
    split at h
    · rename_i k q e
      rw [e] at hx
      have hx' := hx
      unfold Rep at hx
      obtain ⟨_, hv⟩ := hx
      exact ⟨_, a.eval x, h, by simp [execOp, ho, hv], hx'⟩
    · rename_i cs e
      rw [e] at hx
      have hx' := hx
      unfold Rep at hx
      obtain ⟨b, q, hv, _⟩ := hx
      exact ⟨_, a.eval x, h, by simp [execOp, ho, hv], hx'⟩
    · rename_i k t s es i q e
      rw [e] at hx
      have hx' := hx
      unfold Rep at hx
      obtain ⟨_, _, _, b, oo, m, cap, _, hv⟩ := hx
      exact ⟨_, a.eval x, h, by simp [execOp, ho, hv], hx'⟩
    · rename_i g cap e
      rw [e] at hx
      have hx' := hx
      unfold Rep at hx
      obtain ⟨vs, hv, _⟩ := hx
      exact ⟨_, a.eval x, h, by simp [execOp, ho, hv], hx'⟩
    · exact h.elim
  · rename_i op t x y yt ho
    split at h
    · rename_i cs e
      refine opSem_pure fun B c w a hC hE hd => ?_
      have hx := rep_ev hE x
      have hy := rep_ev hE y
      rw [e] at hx
      obtain ⟨z, hz, h1, h2⟩ := eqD_sound (P := P) (w := w) (ox := x) (oy := y) hT hx hy h
      refine ⟨_, z, h1, ?_, rep_of _ hz⟩
      have : (execOp a.eval o) = (do pure (Next.value (← (do eqGuard op t x y (a.eval x) (a.eval y); binOp op t (a.eval x) (a.eval y)))) : Sem Next) := by simp [execOp, ho]
      rw [this, Sem.run_bind, h2]
      rfl
    · rename_i b e
      replace h := tiK_open hT h; obtain ⟨ti, L, h⟩ := h
      refine opSem_pure fun B c w a hC hE hd => ?_
      have hx := rep_ev hE x
      have hy := rep_ev hE y
      rw [e] at hx
      split at h
      · rename_i hde
        obtain ⟨z, hz, h1, h2⟩ := boolD_sound (P := P) (w := w) (t := t) (ox := x) (oy := y) (by rw [L.und, hde]) hx hy h
        refine ⟨_, z, h1, ?_, rep_of _ hz⟩
        have : (execOp a.eval o) = (do pure (Next.value (← (do eqGuard op t x y (a.eval x) (a.eval y); binOp op t (a.eval x) (a.eval y)))) : Sem Next) := by simp [execOp, ho]
        rw [this, Sem.run_bind, h2]
        rfl
      · exact h.elim
    iterate 10
      · exact h.open
    · refine opSem_pure fun B c w a hC hE hd => ?_
      have hx := rep_ev hE x
      have hy := rep_ev hE y
      obtain ⟨z, hz, h1, h2⟩ := binD_sound (P := P) (w := w) (t := t) (ox := x) (oy := y) hx hy h
      refine ⟨_, z, h1, ?_, rep_of _ hz⟩
      have : (execOp a.eval o) = (do pure (Next.value (← (do eqGuard op t x y (a.eval x) (a.eval y); binOp op t (a.eval x) (a.eval y)))) : Sem Next) := by simp [execOp, ho]
      rw [this, Sem.run_bind, h2]
      rfl
  · rename_i op t x ho
    refine opSem_pure fun B c w a hC hE hd => ?_
    obtain ⟨z, hz, h1, h2⟩ := unD_sound (P := P) (w := w) (rep_ev hE x) h
    exact ⟨_, z, h1, by simp [execOp, ho, h2], rep_of _ hz⟩
  · rename_i s t x ho
    split at h
    iterate 3
      · exact h.open
    refine opSem_value fun B c w a hC hE hd => ?_
    obtain ⟨d, u, E', H', n', c', w', h1, h2, h3, h4, h5⟩ := convertD_sound hT hC hE (rep_ev hE x) h
    exact ⟨d, u, E', H', n', c', w', h1, by simp [execOp, ho, h2], h3, h4, h5⟩
  · rename_i fn first cap ho
    split at h
    · rename_i g ef
      rw [evs_eq] at h
      refine opSem_pure fun B c w a hC hE hd => ⟨_, .func (.func g) #[] (cap.map a.eval), h, ?_, ?_⟩
      · have : first = #[] := by apply Array.ext'; simpa using ef
        simp [execOp, ho, Instr.makeFunc, this]
      · unfold Rep
        refine ⟨cap.toList.map a.eval, ?_, repL_evs hE _⟩
        have : cap.map a.eval = (cap.toList.map a.eval).toArray := by apply Array.ext'; simp
        rw [this]
    · exact h.elim
  · rename_i t x lo hi mx ho
    refine opSem_value fun B c w a hC hE hd => ?_
    obtain ⟨d, u, E', H', c', h1, h2, h3, h4, h5⟩ := sliceD_sound hT hC hE (rep_ev hE x) h
    exact ⟨d, u, E', H', n, c', w, h1, by simp [execOp, ho, h2], h3, h4, h5⟩
  · rename_i t x f ho
    refine opSem_pure fun B c w a hC hE hd => ?_
    obtain ⟨d, u, h1, h2, h3⟩ := fieldAddrD_sound (w := w) hT (rep_ev hE x) h
    exact ⟨d, u, h1, by simp [execOp, ho, h2], h3⟩
  · rename_i t x f ho
    refine opSem_pure fun B c w a hC hE hd => ?_
    obtain ⟨d, u, h1, h2, h3⟩ := fieldD_sound (w := w) hT (rep_ev hE x) h
    exact ⟨d, u, h1, by simp [execOp, ho, h2], h3⟩
  · rename_i t x i ho
    refine opSem_pure fun B c w a hC hE hd => ?_
    obtain ⟨d, u, h1, h2, h3⟩ := indexAddrD_sound (w := w) hT (rep_ev hE x) (rep_ev hE i) h
    exact ⟨d, u, h1, by simp [execOp, ho, h2], h3⟩
  · rename_i t x i ho
    refine opSem_pure fun B c w a hC hE hd => ?_
    obtain ⟨d, u, h1, h2, h3⟩ := indexD_sound (w := w) hT (rep_ev hE x) (rep_ev hE i) h
    exact ⟨d, u, h1, by simp [execOp, ho, h2], h3⟩
  · rename_i x i ho
    split at h
    · rename_i ds e
      cases hi : ds[i]? with
      | none => simp only [hi] at h
      | some d =>
        simp only [hi, force_eq] at h
        refine opSem_pure fun B c w a hC hE hd => ?_
        have hx := rep_ev hE x
        rw [e] at hx
        unfold Rep at hx
        obtain ⟨vs, hv, hr⟩ := hx
        obtain ⟨v, h1, h2⟩ := hr.get? i d hi
        have : vs.toArray[i]? = some v := by simpa using h1
        exact ⟨d, v, h, by simp [execOp, ho, hv, Instr.extract, this], h2⟩
    · exact h.elim
  · rename_i q ho
    obtain ⟨callee, args, argTypes⟩ := q
    split at h
    · rename_i e
      simp only at e
      subst e
      split at h
      · rename_i x t e1 e2
        refine opSem_pure fun B c w a hC hE hd => ?_
        obtain ⟨z, hz, h1, h2⟩ := lenD_sound (w := w) (ty := o.type) hT (rep_ev hE x) h
        have a1 : args = #[x] := by apply Array.ext'; simpa using e1
        have a2 : argTypes = #[t] := by apply Array.ext'; simpa using e2
        subst a1 a2
        exact ⟨_, z, h1, by simp [execOp, ho, resolve, invoke, builtin, h2], rep_of _ hz⟩
      · exact h.elim
    · rename_i e
      simp only at e
      subst e
      split at h
      · rename_i s x e1
        refine opSem_value fun B c w a hC hE hd => ?_
        obtain ⟨d, u, E', H', n', c', w', h1, h2, h3, h4, h5⟩ := appendD_sound (ty := o.type) hT hC hE (rep_ev hE s) (rep_ev hE x) h
        have a1 : args = #[s, x] := by apply Array.ext'; simpa using e1
        subst a1
        rw [numK_eq] at h1
        refine ⟨d, u, E', H', n', c', w', h1, ?_, h3, h4, h5⟩
        simp only [Array.toArray_toList] at h2
        simp [execOp, ho, resolve, invoke, builtin, h2]
      · exact h.elim
    · rename_i e
      simp only at e
      subst e
      rw [evs_eq] at h
      refine opSem_pure fun B c w a hC hE hd => ?_
      obtain ⟨z, hz, h1, h2⟩ := minD_sound (P := P) (up := false) (ts := argTypes) (ty := o.type) (repL_evs hE args.toList) h
      refine ⟨_, z, h1, ?_, rep_of _ hz⟩
      have a1 : (args.toList.map a.eval).toArray = args.map a.eval := by apply Array.ext'; simp
      rw [a1] at h2
      simp only [Bool.false_eq_true, if_false] at h2
      simp [execOp, ho, resolve, invoke, builtin, h2]
    · rename_i e
      simp only at e
      subst e
      rw [evs_eq] at h
      refine opSem_pure fun B c w a hC hE hd => ?_
      obtain ⟨z, hz, h1, h2⟩ := minD_sound (P := P) (up := true) (ts := argTypes) (ty := o.type) (repL_evs hE args.toList) h
      refine ⟨_, z, h1, ?_, rep_of _ hz⟩
      have a1 : (args.toList.map a.eval).toArray = args.map a.eval := by apply Array.ext'; simp
      rw [a1] at h2
      simp only [if_true] at h2
      simp [execOp, ho, resolve, invoke, builtin, h2]
    · rename_i f e
      simp only at e
      subst e
      split at h
      · rename_i g cap ef
        rw [evs_eq, appK_eq] at h
        replace h := h.open
        obtain ⟨⟨fn, hf, hnm, hbd⟩, h⟩ := h
        intro B c w a hC hE hd
        have hx := rep_ev hE f
        rw [ef] at hx
        unfold Rep at hx
        obtain ⟨vs, hv, hr⟩ := hx
        have hcall := h B c w a.tmps.toList (args.toList.map a.eval ++ vs) hC hE ((repL_evs hE _).append hr)
        have hrun : (execOp a.eval o).run P w = .ok (.enter g (args.toList.map a.eval ++ vs).toArray) w := by
          have a1 : (args.toList.map a.eval ++ vs).toArray = args.map a.eval ++ vs.toArray := by apply Array.ext'; simp
          rw [a1]
          simp [execOp, ho, resolve, hv, Deferred.ofValue, invoke, callFunc, hf]
          have hn2 : fn.name ≠ "runtime.NumGoroutine" := by simpa using hnm
          have hb2 : ¬ fn.body = none := fun e => by rw [e] at hbd; cases hbd
          simp [hn2, hb2]
        unfold Oper.wp
        rw [hrun]
        refine hcall.mono fun e w' he => ?_
        obtain ⟨d, v, E', H', n', c', h1, rfl, h2, h3, h4⟩ := he
        exact ⟨d, v, E', H', n', c', h1, rfl, h2, h3, h4⟩
      · exact h.open
    · exact h.open
  · exact h.open
end
def slotOf (ops : List Oper) (j : Nat) : Option Nat := match ops[j]? with
  | some o => o.dst
  | none => none
def stepD (P : Program) (T : Tab) (all : List Oper) (o : Oper) (k : List D → Hp → Nat → Prop) (E : List D) (H : Hp) (n : Nat) : Prop :=
  match o.guard with
    | none => opD P T o E H n (fun d E H n => putK E o.dst d (fun E => k E H n))
    | some (j, want) =>
      match slotOf all j with
      | some i => match E.getD i .junk with
        | .f (.v (.bool t)) =>
          bif want then Case t (opD P T o E H n (fun d E H n => putK E o.dst d (fun E => k E H n))) (putK E o.dst (.tup []) (fun E => k E H n))
          else Case t (putK E o.dst (.tup []) (fun E => k E H n)) (opD P T o E H n (fun d E H n => putK E o.dst d (fun E => k E H n)))
        | .tup [] => putK E o.dst (.tup []) (fun E => k E H n)
        | _ => False
      | none => False
noncomputable def opsD (P : Program) (T : Tab) (all : List Oper) (l : List Oper) (E : List D) (H : Hp) (n : Nat) (K : List D → Hp → Nat → Prop) : Prop :=
  List.rec (motive := fun _ => List D → Hp → Nat → Prop) K (fun o _ k => stepD P T all o k) l E H n
theorem opsD_cons {P : Program} {T : Tab} {all : List Oper} {o : Oper} {rest : List Oper} {E : List D} {H : Hp} {n : Nat} {K : List D → Hp → Nat → Prop} : opsD P T all (o :: rest) E H n K = stepD P T all o (fun E H n => opsD P T all rest E H n K) E H n := rfl
noncomputable def awp (P : Program) (T : Tab) : Code → (X → List D → Hp → Nat → Prop) → List D → Hp → Nat → Prop
  | .skip, Q, E, H, n => Q .normal E H n
  | .region id ops d, Q, E, H, n => bif d then Step P (.region id ops true) Q E H n else opsD P T ops.toList ops.toList E H n (Q .normal)
  | .seq a b, Q, E, H, n => awp P T a (fun e E H n => match e with
      | .normal => awp P T b Q E H n
      | e => Q e E H n) E H n
  | .cond c x y, Q, E, H, n => match ev E c with
      | .f (.v (.bool t)) => Case t (awp P T x Q E H n) (awp P T y Q E H n)
      | _ => False
  | .block id c, Q, E, H, n => awp P T c (fun e E H n => match e with
      | .exit j => bif Nat.beq j id then Q .normal E H n else Q (.exit j) E H n
      | e => Q e E H n) E H n
  | .exit id, Q, E, H, n => Q (.exit id) E H n
  | .ret, Q, E, H, n => Q .ret E H n
  | k, Q, E, H, n => Step P k Q E H n
section
variable {P : Program}
theorem CSem.mono {k : Code} {Q Q' : X → List D → Hp → Nat → Prop} {E : List D} {H : Hp} {n : Nat} (h : CSem P k Q E H n) (hq : ∀ x E H n, Q x E H n → Q' x E H n) : CSem P k Q' E H n :=
  fun B c w a hC hE hd => wp_mono (h B c w a hC hE hd) fun e a' w' ⟨x, E', H', n', c', h1, h2, h3⟩ => ⟨x, E', H', n', c', h1, hq _ _ _ _ h2, h3⟩
theorem Oper.wp_false {o : Oper} {a : Act} {w : World} {K : Act → World → Prop} {Q : Exit → Act → World → Prop} (h : o.wp P a w K (fun _ _ _ => False)) : o.wp P a w K Q := by
  unfold Oper.wp at *
  generalize (execOp a.eval o).run P w = r at *
  cases r with
  | ok n w' =>
    cases n <;> simp only [Oper.upon] at h ⊢ <;>
      first
        | exact h
        | exact Calls.mono h (fun e w'' he => by
            cases e
            · exact he
            · exact he.elim
            · obtain ⟨_, _, h⟩ := he; exact h.elim)
  | halt x w' => cases x <;> simp only [Oper.upon] at h ⊢
theorem put_defers {a : Act} {dst : Option Nat} {v : Value} : (a.put dst v).defers = a.defers := by cases dst <;> rfl
theorem yielded_of {ops : Array Oper} {E : List D} {c : Cx} {w : World} {a : Act} (hE : RepL c w E a.tmps.toList) {i j : Nat} {t : Bool} (hs : slotOf ops.toList j = some i) (he : E.getD i .junk = .f (.v (.bool t))) : yielded ops a.tmps j = some t := by
  unfold slotOf at hs
  unfold yielded
  have hops : ops[j]? = ops.toList[j]? := by simp
  rw [hops]
  cases ho : ops.toList[j]? with
  | none => rw [ho] at hs; cases hs
  | some o =>
    rw [ho] at hs
    simp only at hs
    simp only [Option.bind_some, hs]
    have := hE.get? i (.f (.v (.bool t))) (by
      rw [List.getD_eq_getElem?_getD] at he
      cases hh : E[i]? with
      | none => rw [hh] at he; cases he
      | some d => rw [hh] at he; simp at he; rw [he])
    obtain ⟨v, h1, h2⟩ := this
    have h2 := rep_v h2
    subst h2
    have : a.tmps[i]? = some (.bool t) := by simpa using h1
    rw [this]
theorem rep_undef {c : Cx} {w : World} : Rep c w (.tup []) undef := by
  unfold Rep
  exact ⟨[], rfl, repL_nil⟩
theorem yielded_undef {ops : Array Oper} {E : List D} {c : Cx} {w : World} {a : Act} (hE : RepL c w E a.tmps.toList) {i j : Nat} (hs : slotOf ops.toList j = some i) (he : E.getD i .junk = .tup []) : yielded ops a.tmps j = none := by
  unfold slotOf at hs
  unfold yielded
  have hops : ops[j]? = ops.toList[j]? := by simp
  rw [hops]
  cases ho : ops.toList[j]? with
  | none => rw [ho] at hs; cases hs
  | some o =>
    rw [ho] at hs
    simp only at hs
    simp only [Option.bind_some, hs]
    have := hE.get? i (.tup []) (by
      rw [List.getD_eq_getElem?_getD] at he
      cases hh : E[i]? with
      | none => rw [hh] at he; cases he
      | some d => rw [hh] at he; simp at he; rw [he])
    obtain ⟨v, h1, h2⟩ := this
    unfold Rep at h2
    obtain ⟨vs, rfl, _⟩ := h2
    have : a.tmps[i]? = some (.tuple vs.toArray) := by simpa using h1
    rw [this]
theorem opsD_sound {T : Tab} (hT : TabOk P 0 T) {all : Array Oper} {B : Base} {Q : X → List D → Hp → Nat → Prop} {K : List D → Hp → Nat → Prop} (hK : ∀ E H n, K E H n → Q .normal E H n) : ∀ (l : List Oper) (E : List D) (H : Hp) (n : Nat) (c : Cx) (w : World) (a : Act),
    opsD P T all.toList l E H n K → Con B c w H n → RepL c w E a.tmps.toList → a.defers = [] → wpList P all (Post B Q) l a w
  | [], E, H, n, c, w, a, h, hC, hE, hd => wpList_nil ⟨.normal, E, H, n, c, rfl, hK _ _ _ h, hC, hE, hd⟩
  | o :: rest, E, H, n, c, w, a, h, hC, hE, hd => by
    have go : opD P T o E H n (fun d E H n => putK E o.dst d (fun E => opsD P T all.toList rest E H n K)) → o.wp P a w (wpList P all (Post B Q) rest) (Post B Q) := fun h => by
      have h1 := opD_sound hT h B c w a hC hE hd
      refine Oper.wp_false (Oper.wp_mono ?_ h1)
      rintro a' w' ⟨d, v, E', H', n', c', h2, rfl, h3, h4, h5⟩
      obtain ⟨E2, h6, h7⟩ := repL_put h4 h5 o.dst h2
      exact opsD_sound hT hK rest E2 H' n' c' w' _ h6 h3 h7 (by rw [put_defers]; exact hd)
    have skip : putK E o.dst (.tup []) (fun E => opsD P T all.toList rest E H n K) → wpList P all (Post B Q) rest (a.put o.dst undef) w := fun h => by
      obtain ⟨E2, h6, h7⟩ := repL_put hE rep_undef o.dst h
      exact opsD_sound hT hK rest E2 H n c w _ h6 hC h7 (by rw [put_defers]; exact hd)
    rw [opsD_cons] at h
    unfold stepD at h
    unfold wpList
    split at h
    · rename_i hg
      rw [if_pos (by simp [Region.wanted, hg])]
      exact .inl (go h)
    · rename_i j want hg
      split at h
      · rename_i i hs
        split at h
        · rename_i t he
          have hy := yielded_of hE hs he
          cases want with
          | true =>
            simp only [cond_true] at h
            replace h := Case.open h
            rcases h with ⟨rfl, h⟩ | ⟨rfl, h⟩
            · rw [if_pos (by simp [Region.wanted, hg, hy])]
              exact .inl (go h)
            · rw [if_neg (by simp [Region.wanted, hg, hy])]
              exact skip h
          | false =>
            simp only [cond_false] at h
            replace h := Case.open h
            rcases h with ⟨rfl, h⟩ | ⟨rfl, h⟩
            · rw [if_neg (by simp [Region.wanted, hg, hy])]
              exact skip h
            · rw [if_pos (by simp [Region.wanted, hg, hy])]
              exact .inl (go h)
        · rename_i he
          have hy := yielded_undef hE hs he
          rw [if_neg (by simp [Region.wanted, hg, hy])]
          exact skip h
        · exact h.elim
      · exact h.elim
theorem awp_sound {T : Tab} (hT : TabOk P 0 T) : ∀ (k : Code) {Q : X → List D → Hp → Nat → Prop} {E : List D} {H : Hp} {n : Nat}, awp P T k Q E H n → CSem P k Q E H n := by
  intro k
  induction k with
  | skip => intro Q E H n h B c w a hC hE hd; exact wp_skip ⟨.normal, E, H, n, c, rfl, h, hC, hE, hd⟩
  | region id ops d =>
    intro Q E H n h
    unfold awp at h
    cases d with
    | true => exact h.open
    | false =>
      intro B c w a hC hE hd
      exact wp_region_list (opsD_sound hT (fun _ _ _ h => h) _ E H n c w a h hC hE hd)
  | seq x y ihx ihy =>
    intro Q E H n h B c w a hC hE hd
    unfold awp at h
    refine wp_seq (wp_mono (ihx h B c w a hC hE hd) ?_)
    rintro e a' w' ⟨x', E', H', n', c', rfl, h1, h2, h3, h4⟩
    cases x' with
    | normal => exact ihy h1 B c' w' a' h2 h3 h4
    | exit id => exact ⟨.exit id, E', H', n', c', rfl, h1, h2, h3, h4⟩
    | ret => exact ⟨.ret, E', H', n', c', rfl, h1, h2, h3, h4⟩
  | cond q x y ihx ihy =>
    intro Q E H n h B c w a hC hE hd
    unfold awp at h
    split at h
    · rename_i t et
      have hq := rep_ev hE q
      rw [et] at hq
      have hq := rep_v hq
      replace h := Case.open h
      rcases h with ⟨rfl, h⟩ | ⟨rfl, h⟩
      · exact wp_cond_true hq (ihx h B c w a hC hE hd)
      · exact wp_cond_false hq (ihy h B c w a hC hE hd)
    · exact h.elim
  | block id k ih =>
    intro Q E H n h B c w a hC hE hd
    unfold awp at h
    refine wp_block (wp_mono (ih h B c w a hC hE hd) ?_)
    rintro e a' w' ⟨x', E', H', n', c', rfl, h1, h2, h3, h4⟩
    cases x' with
    | normal => exact ⟨.normal, E', H', n', c', rfl, h1, h2, h3, h4⟩
    | exit j =>
      simp only at h1
      show (if j = id then _ else _)
      cases hb : Nat.beq j id with
      | true =>
        rw [hb] at h1
        rw [if_pos (beq_eq hb)]
        exact ⟨.normal, E', H', n', c', rfl, h1, h2, h3, h4⟩
      | false =>
        rw [hb] at h1
        rw [if_neg (fun e => by subst e; have : Nat.beq j j = true := by simp
                                rw [this] at hb; cases hb)]
        exact ⟨.exit j, E', H', n', c', rfl, h1, h2, h3, h4⟩
    | ret => exact ⟨.ret, E', H', n', c', rfl, h1, h2, h3, h4⟩
  | exit id => intro Q E H n h B c w a hC hE hd; exact wp_exit ⟨.exit id, E, H, n, c, rfl, h, hC, hE, hd⟩
  | ret => intro Q E H n h B c w a hC hE hd; exact wp_ret ⟨.ret, E, H, n, c, rfl, h, hC, hE, hd⟩
  | _ => intro Q E H n h; exact Step.open h
end
end Go.Proofs.YtlhegfkpgchaeaaGreatDoor.Aw
