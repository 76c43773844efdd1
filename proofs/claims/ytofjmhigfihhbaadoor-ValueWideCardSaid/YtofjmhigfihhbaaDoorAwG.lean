/- Operations that write, build or append, on abstract values, and that the machine does just that. -/
import Derived.Test.YtofjmhigfihhbaaDoorAwF
import Derived.Maps.AppendAt
import Derived.Lib.AppendStr
import Derived.Laws.OwnMore
namespace Go.Proofs.YtofjmhigfihhbaaDoor.Aw
open Go Go.RowKit
set_option linter.unusedVariables false
set_option linter.unusedSimpArgs false

theorem RepF.oneCell {imm : Nat → Prop} {w : World} {x : F} {v : Value} (h : RepF imm w x v) : v.oneCell' = true := by
  cases x with
  | v x => unfold RepF at h; obtain ⟨rfl, h⟩ := h; exact h
  | sl es => unfold RepF at h; rcases h with ⟨⟨_, rfl⟩, _⟩ | ⟨b, o, cap, rfl, _⟩ <;> rfl
theorem OwnOk.oneCell {imm : Nat → Prop} {w : World} {v : Value} {t s : Nat} {es : List (List F)} (h : OwnOk imm w v t s es) : v.oneCell' = true := by
  obtain ⟨_, xs, how, _⟩ := h
  rcases how.2 with ⟨rfl, _⟩ | ⟨g, cap, cur, rfl, _⟩ <;> rfl
section
variable {P : Program} {c : Cx} {w : World} {H : Hp} {n : Nat} {B : Base}
theorem Rep.oneCell {d : D} {v : Value} (h : Rep c w d v) (ho : okD d = true) : v.oneCell' = true := by
  cases d with
  | junk => cases ho
  | agg cs => cases ho
  | tup cs => cases ho
  | f x => unfold Rep at h; exact h.oneCell
  | nil => unfold Rep at h; subst h; rfl
  | own k t s es => unfold Rep at h; obtain ⟨_, rfl, h⟩ := h; exact h.oneCell
  | optr k t s es i o => unfold Rep at h; obtain ⟨_, _, _, b, oo, m, cap, _, rfl⟩ := h; rfl
  | ptr k o => unfold Rep at h; obtain ⟨_, rfl⟩ := h; rfl
  | ip cs => unfold Rep at h; obtain ⟨b, o, rfl, _⟩ := h; rfl
  | fn g cs => unfold Rep at h; obtain ⟨vs, rfl, _⟩ := h; rfl
  | yl ps x y cs => unfold Rep at h; obtain ⟨l, fn, df, vs, rfl, _⟩ := h; rfl
theorem okL_mem : ∀ {ds : List D} {vs : List Value}, okL ds = true → RepL c w ds vs → ∀ v ∈ vs, v.oneCell' = true
  | [], vs, _, h, v, hv => by unfold RepL at h; subst h; cases hv
  | d :: ds, vs, ho, h, v, hv => by
    unfold RepL at h
    obtain ⟨u, us, rfl, h1, h2⟩ := h
    unfold okL at ho
    simp only [Bool.and_eq_true] at ho
    rcases List.mem_cons.1 hv with rfl | hv
    · exact h1.oneCell ho.1
    · exact okL_mem ho.2 h2 v hv
theorem cells_of_oneCell {v : Value} (h : v.oneCell' = true) : v.cells = #[v] := by cases v <;> first | rfl | cases h
/-- The cells of a value that can be stored. -/
theorem cellsK_open {d : D} {v : Value} (h : Rep c w d v) {K : List D → Prop} (hk : cellsK d K) : ∃ cs, K cs ∧ RepL c w cs v.cells.toList ∧ ∀ u ∈ v.cells.toList, u.oneCell' = true := by
  by_cases ha : ∃ cs, d = .agg cs
  · obtain ⟨cs, rfl⟩ := ha
    unfold cellsK at hk
    cases ho : okL cs with
    | false => simp only [ho, cond_false] at hk
    | true =>
      simp only [ho, cond_true] at hk
      unfold Rep at h
      obtain ⟨vs, rfl, hr⟩ := h
      exact ⟨cs, hk, hr, okL_mem ho hr⟩
  · have hk' : (bif okD d then K [d] else False) := by
      unfold cellsK at hk
      split at hk
      · exact absurd ⟨_, rfl⟩ ha
      · exact hk
    cases ho : okD d with
    | false => simp only [ho, cond_false] at hk'
    | true =>
      simp only [ho, cond_true] at hk'
      have h1 := h.oneCell ho
      rw [cells_of_oneCell h1]
      exact ⟨[d], hk', repL_cons h repL_nil, fun u hu => by simp at hu; subst hu; exact h1⟩

def storeD (T : Tab) (t : Nat) (p x : D) (E : List D) (H : Hp) (n : Nat) (K : KD) : Prop :=
  match p with
  | .ptr k o => match H.getD k none with
    | some cs => tiK T t fun ti => cellsK x fun ds => bif Nat.beq ds.length ti.size then overK cs o ds (fun cs' => setHK H k (some cs') (fun H' => K .junk E H' n)) else False
    | none => False
  | .optr k t' s es i o => Elem es i fun r => tiK T t fun ti => cellsK x fun ds => bif Nat.beq ds.length ti.size && Nat.ble 1 ti.size then fsK ds fun xs => Owes (r.length = s) (overK r o xs fun r' => K .junk (updL k t' s (es.set i r') E) (updH k t' s (es.set i r') H) n) else False
  | _ => False
theorem getD_some {H : Hp} {k : Nat} {cs : Cells} (hg : H.getD k none = some cs) : H[k]? = some (some cs) := by
  rw [List.getD_eq_getElem?_getD] at hg
  cases hh : H[k]? with
  | none => rw [hh] at hg; cases hg
  | some x => rw [hh] at hg; simp at hg; rw [hg]
theorem RepL.over {cs ds : List D} {vs us : List Value} (h : RepL c w cs vs) (h' : RepL c w ds us) (o : Nat) : RepL c w (cs.take o ++ ds ++ cs.drop (o + ds.length)) (vs.take o ++ us ++ vs.drop (o + us.length)) := by
  rw [h'.length]
  exact ((h.take o).append h').append (h.drop _)
theorem beq_eq {a b : Nat} (h : Nat.beq a b = true) : a = b := Nat.eq_of_beq_eq_true h
theorem fsK_open : ∀ (ds : List D) (K : List F → Prop), fsK ds K → ∃ xs : List F, ds = xs.map .f ∧ K xs
  | [], K, h => ⟨[], rfl, h⟩
  | d :: ds, K, h => by
    unfold fsK at h
    split at h
    · replace h := fsK_open ds _ h
      obtain ⟨xs, rfl, h⟩ := h
      exact ⟨_ :: xs, rfl, h⟩
    · exact h.elim
theorem repL_fs : ∀ {xs : List F} {vs : List Value}, RepL c w (xs.map .f) vs → RepFs c.imm w xs vs
  | [], vs, h => by unfold RepFs; simpa [RepL] using h
  | x :: xs, vs, h => by
    rw [List.map_cons] at h
    unfold RepL at h
    obtain ⟨v, vs', rfl, h1, h2⟩ := h
    unfold RepFs
    exact ⟨v, vs', rfl, by unfold Rep at h1; exact h1, repL_fs h2⟩
theorem RepFs.length {imm : Nat → Prop} : ∀ {xs : List F} {vs : List Value}, RepFs imm w xs vs → vs.length = xs.length
  | [], vs, h => by unfold RepFs at h; subst h; rfl
  | x :: xs, vs, h => by
    unfold RepFs at h
    obtain ⟨v, vs', rfl, _, h2⟩ := h
    simp [h2.length]
theorem RepFs.app {imm : Nat → Prop} : ∀ {xs ys : List F} {vs us : List Value}, RepFs imm w xs vs → RepFs imm w ys us → RepFs imm w (xs ++ ys) (vs ++ us)
  | [], ys, vs, us, h, h' => by unfold RepFs at h; subst h; exact h'
  | x :: xs, ys, vs, us, h, h' => by
    unfold RepFs at h
    obtain ⟨v, vs', rfl, h1, h2⟩ := h
    rw [List.cons_append, List.cons_append]
    unfold RepFs
    exact ⟨v, _, rfl, h1, h2.app h'⟩
theorem RepFs.takeN {imm : Nat → Prop} : ∀ {xs : List F} {vs : List Value} (o : Nat), RepFs imm w xs vs → RepFs imm w (xs.take o) (vs.take o)
  | [], vs, o, h => by unfold RepFs at h; subst h; simp [RepFs]
  | x :: xs, vs, 0, h => by simp [RepFs]
  | x :: xs, vs, o + 1, h => by
    unfold RepFs at h
    obtain ⟨v, vs', rfl, h1, h2⟩ := h
    rw [List.take_succ_cons, List.take_succ_cons]
    unfold RepFs
    exact ⟨v, _, rfl, h1, h2.takeN o⟩
theorem RepFs.dropN {imm : Nat → Prop} : ∀ {xs : List F} {vs : List Value} (o : Nat), RepFs imm w xs vs → RepFs imm w (xs.drop o) (vs.drop o)
  | [], vs, o, h => by unfold RepFs at h; subst h; simp [RepFs]
  | x :: xs, vs, 0, h => by simpa using h
  | x :: xs, vs, o + 1, h => by
    unfold RepFs at h
    obtain ⟨v, vs', rfl, h1, h2⟩ := h
    rw [List.drop_succ_cons, List.drop_succ_cons]
    exact h2.dropN o
theorem take_over {α : Type} (l us : List α) (p m : Nat) (h : p + us.length ≤ m) (hm : m ≤ l.length) : (l.take p ++ us ++ l.drop (p + us.length)).take m = (l.take m).take p ++ us ++ (l.take m).drop (p + us.length) := by
  have hp : (l.take p).length = p := by rw [List.length_take]; omega
  rw [List.take_append, List.take_of_length_le (by rw [List.length_append, hp]; omega), List.length_append, hp, List.take_take, Nat.min_eq_left (by omega), List.drop_take]
/-- Cells of one row are written over. -/
theorem RepRows.over {imm : Nat → Prop} {s : Nat} : ∀ (es : List (List F)) (xs : List Value) (i : Nat) (r : List F) (o : Nat) {fs : List F} {us : List Value}, RepRows imm w s es xs → es[i]? = some r → o + us.length ≤ s → RepFs imm w fs us →
    RepRows imm w s (es.set i (r.take o ++ fs ++ r.drop (o + fs.length))) (xs.take (i * s + o) ++ us ++ xs.drop (i * s + o + us.length))
  | [], xs, i, r, o, fs, us, h, hi, _, _ => by simp at hi
  | e :: es, xs, 0, r, o, fs, us, h, hi, ho, hf => by
    simp at hi
    subst hi
    unfold RepRows at h
    obtain ⟨ys, zs, rfl, hl, h1, h2⟩ := h
    have hyl := h1.length
    have hfl := hf.length
    rw [List.set_cons_zero]
    unfold RepRows
    refine ⟨ys.take o ++ us ++ ys.drop (o + us.length), zs, ?_, ?_, ?_, h2⟩
    · rw [Nat.zero_mul, Nat.zero_add, List.take_append_of_le_length (by omega), List.drop_append_of_le_length (by omega)]
      simp
    · simp only [List.length_append, List.length_take, List.length_drop]
      omega
    · rw [hfl]
      exact ((h1.takeN o).app hf).app (h1.dropN _)
  | e :: es, xs, i + 1, r, o, fs, us, h, hi, ho, hf => by
    unfold RepRows at h
    obtain ⟨ys, zs, rfl, hl, h1, h2⟩ := h
    have hyl := h1.length
    rw [List.set_cons_succ]
    unfold RepRows
    refine ⟨ys, _, ?_, hl, h1, RepRows.over es zs i r o h2 (by simpa using hi) ho hf⟩
    rw [show (i + 1) * s + o = ys.length + (i * s + o) by rw [Nat.add_mul]; omega, show ys.length + (i * s + o) + us.length = ys.length + (i * s + o + us.length) by omega, List.take_append, List.drop_append]
    rw [List.take_of_length_le (show ys.length ≤ ys.length + (i * s + o) by omega), List.drop_of_length_le (show ys.length ≤ ys.length + (i * s + o + us.length) by omega), Nat.add_sub_cancel_left, Nat.add_sub_cancel_left]
    simp
theorem storeD_sound {T : Tab} (hT : TabOk P 0 T) (hC : Con B c w H n) {E : List D} {ts : List Value} (hE : RepL c w E ts) {t : Nat} {p x : D} {u v : Value} (hp : Rep c w p u) (hx : Rep c w x v) {K : KD} (h : storeD T t p x E H n K) :
    ∃ E' H' c' w', K .junk E' H' n ∧ (Instr.storeAt t u v).run P w = .ok () w' ∧ Con B c' w' H' n ∧ RepL c' w' E' ts := by
  unfold storeD at h
  split at h
  · rename_i k o
    unfold Rep at hp
    obtain ⟨hk, rfl⟩ := hp
    cases hg : H.getD k none with
    | none => simp only [hg] at h
    | some cs =>
      simp only [hg] at h
      obtain ⟨ti, L, h⟩ := tiK_open hT h
      obtain ⟨ds, h, hr, h1⟩ := cellsK_open hx h
      cases hb : Nat.beq ds.length ti.size with
      | false => simp only [hb, cond_false] at h
      | true =>
        simp only [hb, cond_true] at h
        have hl := beq_eq hb
        obtain ⟨h2, h3⟩ := overK_open _ _ _ _ h
        rw [setHK_eq] at h3
        have hg' := getD_some hg
        obtain ⟨C, U, e, hrC⟩ := hC.objs k cs hg'
        have hsz : v.cells.size = ti.size := by rw [← Array.length_toList, hr.length, hl]
        have hCl : C.toList.length = cs.length := hrC.length
        have hfit : o + 0 + v.cells.toList.length ≤ C.size ∨ ds = [] := by
          rcases h2 with rfl | h2
          · exact .inr rfl
          · left
            rw [hr.length, ← Array.length_toList, hCl]
            omega
        rcases hfit with hfit | rfl
        · have hst := run_storeCells_at P (c.φ k) o U v.cells.toList 0 C w e hfit h1
          simp only [Nat.add_zero] at hst
          have hrep : RepL c w (if ds = [] then cs else cs.take o ++ ds ++ cs.drop (o + ds.length)) (C.toList.take o ++ v.cells.toList ++ C.toList.drop (o + v.cells.toList.length)) := by
            have := hrC.over hr o
            split
            · rename_i e0
              subst e0
              have hv0 : v.cells.toList = [] := List.eq_nil_of_length_eq_zero (by rw [hr.length]; rfl)
              rw [hv0]
              simpa using hrC
            · exact this
          obtain ⟨hC', hk'⟩ := hC.write hg' (C' := (C.toList.take o ++ v.cells.toList ++ C.toList.drop (o + v.cells.toList.length)).toArray) hrep
          refine ⟨_, _, _, _, h3, ?_, hC', hE.mono hk'⟩
          simp [Instr.storeAt, Instr.sureAddr, storeVar, L.run_sizeOf w, hsz, hst]
        · have hv0 : v.cells.toList = [] := List.eq_nil_of_length_eq_zero (by rw [hr.length]; rfl)
          refine ⟨_, _, _, w, h3, ?_, ?_, hE⟩
          · simp [Instr.storeAt, Instr.sureAddr, storeVar, L.run_sizeOf w, hsz, hv0, storeCells]
          · have : H.set k (some (if ([] : List D) = [] then cs else List.take o cs ++ [] ++ List.drop (o + ([] : List D).length) cs)) = H := by
              simp only [if_true]
              apply List.ext_getElem?
              intro j
              by_cases hj : j = k
              · subst hj
                rw [List.getElem?_set_self (List.getElem?_eq_some_iff.1 hg').1, hg']
              · rw [List.getElem?_set_ne (by omega)]
            rw [this]
            exact hC
  · rename_i k e s es i o
    replace h := Elem.open h
    obtain ⟨m, r, e0, hg, h⟩ := h
    have e0 : i = m := by omega
    subst e0
    obtain ⟨ti, L, h⟩ := tiK_open hT h
    obtain ⟨ds, h, hr, h1⟩ := cellsK_open hx h
    cases hb : (Nat.beq ds.length ti.size && Nat.ble 1 ti.size) with
    | false => simp only [hb, cond_false] at h
    | true =>
      simp only [hb, cond_true] at h
      simp only [Bool.and_eq_true] at hb
      have hl := beq_eq hb.1
      have hl1 := Nat.le_of_ble_eq_true hb.2
      replace h := fsK_open ds _ h
      obtain ⟨xs, rfl, h⟩ := h
      obtain ⟨hrl, h⟩ := Owes.open h
      obtain ⟨h2, h3⟩ := overK_open _ _ _ _ h
      unfold Rep at hp
      obtain ⟨hkn, ⟨hs, ys, ho, hrow⟩, hi, b, oo, m2, cap, hτ, rfl⟩ := hp
      rcases ho.2 with ⟨h0, _⟩ | ⟨g, cap', cur, e1, hb0, ⟨fz, hfz, hh⟩, hc, hm, hsz, htake⟩
      · rw [hτ] at h0; cases h0
      · rw [hτ] at e1
        cases e1
        have hus := repL_fs hr
        have hul : v.cells.toList.length = xs.length := by rw [hr.length]; simp
        have hsz2 : v.cells.size = ti.size := by rw [← Array.length_toList, hr.length, hl]
        have hin : (i + 1) * s ≤ es.length * s := Nat.mul_le_mul_right _ hi
        have hin2 : es.length * s ≤ cap * s := Nat.mul_le_mul_right _ hc
        rw [Nat.add_mul, Nat.one_mul] at hin
        have hxl : xs.length = ti.size := by rw [← hl]; simp
        have hox : o + xs.length ≤ s := by
          rcases h2 with rfl | h2
          · simp at hxl; omega
          · omega
        have hst := run_storeCells_atM P b (i * s + o) e fz v.cells.toList 0 cur w hh hfz (by rw [hul]; omega) h1
        simp only [Nat.add_zero] at hst
        have hE2 : (if xs = [] then r else r.take o ++ xs ++ r.drop (o + xs.length)) = r.take o ++ xs ++ r.drop (o + xs.length) := by
          split
          · rename_i e0; subst e0; simp
          · rfl
        rw [hE2] at h3
        let w' := w.setRow b (cur.toList.take (i * s + o) ++ v.cells.toList ++ cur.toList.drop (i * s + o + v.cells.toList.length)).toArray
        have hsz3 : (cur.toList.take (i * s + o) ++ v.cells.toList ++ cur.toList.drop (i * s + o + v.cells.toList.length)).toArray.size = cur.size := by
          simp only [List.size_toArray, List.length_append, List.length_take, List.length_drop, Array.length_toList]
          omega
        have hkn' : k < n := by rw [← hC.nlen]; exact hkn
        have hgr : w.grownBy w' (blk (c.τ k)) := ⟨rfl, rfl, rfl, by show _ ≤ (w.setRow _ _).heap.size; rw [setRow_size]; exact Nat.le_refl _, fun j hj hn => setRow_other w b j _ (fun e2 => hn (by rw [hτ, e2]; rfl))⟩
        obtain ⟨c', hC', hk', hτ', hO'⟩ := hC.upd (w' := w') (t := e) (s := s) (es := es.set i (r.take o ++ xs ++ r.drop (o + xs.length))) hkn' hgr (setRow_size _ _ _) (fun himm => by
          refine ⟨hs, ys.take (i * s + o) ++ v.cells.toList ++ ys.drop (i * s + o + v.cells.toList.length), ⟨?_, .inr ⟨b, cap, _, ?_, Nat.zero_le _, ⟨fz, hfz.same hsz3, setRow_heap w b cur _ e _ hh⟩, by simpa using hc, hm, ?_, ?_⟩⟩, ?_⟩
          · rw [List.length_set]
            have := ho.1
            simp only [List.length_append, List.length_take, List.length_drop]
            omega
          · rw [hτ, List.length_set]
          · rw [hsz3, hsz]
          · rw [List.length_set]
            simp only [← htake]
            exact take_over cur.toList v.cells.toList (i * s + o) (es.length * s) (by rw [hul]; omega) (by simp; omega)
          · exact (RepRows.over es ys i r o hrow hg (by rw [hul]; omega) hus).mono (fun b hb => ⟨hb, himm b hb⟩))
        refine ⟨_, _, c', w', h3, ?_, hC', RepL.upd hk' hτ' hO' _ _ hE⟩
        rw [show (⟨b, 0 + i * s + o, none⟩ : Addr) = ⟨b, i * s + o, none⟩ by rw [Nat.zero_add]]
        simp [Instr.storeAt, Instr.sureAddr, storeVar, L.run_sizeOf w, hsz2, hst, w']
  · exact h.elim

/-! Structs and arrays. -/
def placesK (T : Tab) : List Field → (List (Nat × Nat) → Prop) → Prop
  | [], K => K []
  | f :: fs, K => tiK T f.type fun u => placesK T fs fun ps => K ((f.offset, u.size) :: ps)
def partsK (E : List D) (place : Nat → Option (Nat × Nat)) : List (Nat × Operand) → List D → (List D → Prop) → Prop
  | [], cs, K => K cs
  | (i, x) :: r, cs, K => evK E x fun d => cellsK d fun ds => match place i with
    | some (off, size) => bif Nat.beq ds.length size && Nat.ble (off + ds.length) cs.length then overK cs off ds (fun cs' => partsK E place r cs' K) else False
    | none => False
def buildD (T : Tab) (t : Nat) (parts : List (Nat × Operand)) (E : List D) (K : D → Prop) : Prop :=
  tiK T t fun ti => match ti.desc with
    | .struct fs => placesK T fs.toList fun ps => partsK E (fun i => ps[i]?) parts (ofCs ti.zero) fun cs => K (.agg cs)
    | .array _ e => tiK T e fun u => partsK E (fun i => some (i * u.size, u.size)) parts (ofCs ti.zero) fun cs => K (.agg cs)
    | _ => False
theorem foldl_set (ys : List Value) : ∀ (off j : Nat) (cs : Array Value), off + j + ys.length ≤ cs.size →
    ((ys.zipIdx j).foldl (fun (cs : Array Value) (x : Value × Nat) => cs.setIfInBounds (off + x.2) x.1) cs).toList = cs.toList.take (off + j) ++ ys ++ cs.toList.drop (off + j + ys.length) := by
  induction ys with
  | nil => intro off j cs h; simp
  | cons y ys ih =>
    intro off j cs h
    simp only [List.zipIdx_cons, List.foldl_cons]
    rw [ih off (j + 1) _ (by simp at h ⊢; omega)]
    simp only [List.length_cons] at h
    have hlt : off + j < cs.toList.length := by simp; omega
    simp only [Array.toList_setIfInBounds]
    apply List.ext_getElem?
    intro m
    simp only [List.getElem?_append, List.getElem?_take, List.getElem?_drop, List.getElem?_set, List.length_append, List.length_take, List.length_set, List.length_cons, List.getElem?_cons]
    grind
theorem fill_sound {place : Nat → Option (Nat × Nat)} {E : List D} {a : Act} (hE : RepL c w E a.tmps.toList) : ∀ (parts : List (Nat × Operand)) (cs : List D) (vs : Array Value) (K : List D → Prop), RepL c w cs vs.toList → partsK E place parts cs K →
    ∃ cs' vs', K cs' ∧ Instr.fill place vs (parts.map fun (i, x) => (i, a.eval x)) = some vs' ∧ RepL c w cs' vs'.toList
  | [], cs, vs, K, hr, h => ⟨cs, vs, h, rfl, hr⟩
  | (i, x) :: r, cs, vs, K, hr, h => by
    unfold partsK at h
    rw [evK_eq] at h
    obtain ⟨ds, h, hd, h1⟩ := cellsK_open (rep_ev hE x) h
    cases hp : place i with
    | none => simp only [hp] at h
    | some q =>
      obtain ⟨off, size⟩ := q
      simp only [hp] at h
      cases hb : (Nat.beq ds.length size && Nat.ble (off + ds.length) cs.length) with
      | false => simp only [hb, cond_false] at h
      | true =>
        simp only [hb, cond_true] at h
        simp only [Bool.and_eq_true] at hb
        have e1 := beq_eq hb.1
        have e2 := Nat.le_of_ble_eq_true hb.2
        obtain ⟨_, h3⟩ := overK_open _ _ _ _ h
        have hsz : (a.eval x).cells.size = ds.length := by rw [← Array.length_toList, hd.length]
        have hvs : vs.size = cs.length := by rw [← Array.length_toList, hr.length]
        have hf := foldl_set (a.eval x).cells.toList off 0 vs (by rw [hd.length, hvs]; omega)
        simp only [Nat.add_zero] at hf
        have hrep : RepL c w (if ds = [] then cs else cs.take off ++ ds ++ cs.drop (off + ds.length)) (((a.eval x).cells.zipIdx.foldl (fun cs (c, j) => cs.setIfInBounds (off + j) c) vs)).toList := by
          rw [← Array.foldl_toList, Array.toList_zipIdx, hf]
          have := hr.over hd off
          split
          · rename_i e0
            subst e0
            have hv0 : (a.eval x).cells.toList = [] := List.eq_nil_of_length_eq_zero (by rw [hd.length]; rfl)
            rw [hv0]
            simpa using hr
          · exact this
        obtain ⟨cs', vs', h4, h5, h6⟩ := fill_sound hE r _ _ K hrep h3
        refine ⟨cs', vs', h4, ?_, h6⟩
        simp only [List.map_cons, Instr.fill, hp]
        rw [if_neg]
        · exact h5
        · simp [hsz, e1, hvs]
          omega
theorem placesK_open {T : Tab} (hT : TabOk P 0 T) : ∀ (fs : List Field) (K : List (Nat × Nat) → Prop), placesK T fs K →
    ∃ ps, K ps ∧ (fs.mapM (m := Sem) fun f => do pure (f.offset, ← sizeOf f.type)).run P w = .ok ps w
  | [], K, h => ⟨[], h, rfl⟩
  | f :: fs, K, h => by
    unfold placesK at h
    obtain ⟨u, L, h⟩ := tiK_open hT h
    obtain ⟨ps, h1, h2⟩ := placesK_open hT fs _ h
    refine ⟨_, h1, ?_⟩
    simp at h2
    simp [List.mapM_cons, L.run_sizeOf w, h2]
theorem buildD_sound {T : Tab} (hT : TabOk P 0 T) {E : List D} {a : Act} (hE : RepL c w E a.tmps.toList) {t : Nat} {parts : Array (Nat × Operand)} {K : D → Prop} (h : buildD T t parts.toList E K) :
    ∃ d v, K d ∧ (Instr.build t (parts.map fun (i, x) => (i, a.eval x))).run P w = .ok v w ∧ Rep c w d v := by
  unfold buildD at h
  obtain ⟨ti, L, h⟩ := tiK_open hT h
  have hz : RepL c w (ofCs ti.zero) ti.zval.cells.toList := by rw [L.zero]; exact repL_ofCs _
  split at h
  · rename_i fs hd
    have hu : P.underlying t = some (.struct fs) := by rw [L.und, hd]
    obtain ⟨ps, h1, h2⟩ := placesK_open (w := w) hT _ _ h
    obtain ⟨cs', vs', h3, h4, h5⟩ := fill_sound hE _ _ _ _ hz h1
    refine ⟨_, .agg vs', h3, ?_, by unfold Rep; exact ⟨vs'.toList, by simp, h5⟩⟩
    have h2' : (fs.mapM (m := Sem) fun f => do pure (f.offset, ← sizeOf f.type)).run P w = .ok ps.toArray w := by
      rw [Array.mapM_eq_mapM_toList]
      simp at h2
      simp [h2]
    simp only [Instr.build, Sem.run_bind, L.run_zeroValue w, run_underlying hu, Result.andThen_ok, h2']
    have e1 : (parts.map fun (i, x) => (i, a.eval x)).toList = parts.toList.map fun (i, x) => (i, a.eval x) := by simp
    have e2 : (fun i : Nat => (ps.toArray)[i]?) = fun i : Nat => ps[i]? := by funext i; simp
    rw [e1, e2, h4]
    rfl
  · rename_i m e hd
    have hu : P.underlying t = some (.array m e) := by rw [L.und, hd]
    obtain ⟨u, L', h⟩ := tiK_open hT h
    obtain ⟨cs', vs', h3, h4, h5⟩ := fill_sound hE _ _ _ _ hz h
    refine ⟨_, .agg vs', h3, ?_, by unfold Rep; exact ⟨vs'.toList, by simp, h5⟩⟩
    simp only [Instr.build, Sem.run_bind, L.run_zeroValue w, run_underlying hu, Result.andThen_ok, L'.run_sizeOf w]
    have e1 : (parts.map fun (i, x) => (i, a.eval x)).toList = parts.toList.map fun (i, x) => (i, a.eval x) := by simp
    rw [e1, h4]
    rfl
  · exact h.elim
end
end Go.Proofs.YtofjmhigfihhbaaDoor.Aw
