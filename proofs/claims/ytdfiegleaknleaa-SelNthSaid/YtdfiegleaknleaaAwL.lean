/- Conversions and append on abstract values, and that the machine does just that. -/
/- Append, equality of structs, the least and the greatest, on abstract values, and that the machine does just that. -/
/- Equality of structs, the least and the greatest, made slices, on abstract values, and that the machine does just that. -/
import Derived.Test.YtdfiegleaknleaaAwI
import Derived.Lib.ConvBytes
import Derived.Laws.IdiomStrings
import Derived.Laws.BytesArg
import Derived.Laws.StructEq
namespace Go.Proofs.Ytdfiegleaknleaa.Aw
open Go Go.RowKit
set_option linter.unusedVariables false
set_option linter.unusedSimpArgs false

def convertD (T : Tab) (s t : Nat) (x : D) (E : List D) (H : Hp) (n : Nat) (K : KD) : Prop :=
  tiK T s fun si => tiK T t fun ti => match ti.desc with
    | .int k => (match x with
      | .f (.v (.int _ a)) => Num k a fun r => K (.int k r) E H n
      | _ => False)
    | .string => (match x with
      | .f (.v (.string b)) => K (.str b) E H n
      | .f (.sl es) => (match si.desc with
        | .slice e => tiK T e fun u => (match u.desc with
          | .int .u8 => AsBytes es fun b => K (.str b) E H n
          | _ => False)
        | _ => False)
      | .own _ _ s es => (match si.desc with
        | .slice e => tiK T e fun u => (match u.desc with
          | .int .u8 => Owes (s = 1) (AsBytes es fun b => K (.str b) E H n)
          | _ => False)
        | _ => False)
      | .nil => (match si.desc with
        | .slice e => tiK T e fun u => (match u.desc with
          | .int .u8 => K (.str ⟨#[]⟩) E H n
          | _ => False)
        | _ => False)
      | _ => False)
    | .slice e => (match x with
      | .f (.v (.string b)) => tiK T e fun u => (match u.desc with
        | .int .u8 => Way (K (.f (.sl (b.data.toList.map byteRow))) E H n) (Owes (b.size ≤ 140737488355328) (K (.own n e 1 (b.data.toList.map byteRow)) E H (n + 1)))
        | _ => False)
      | .own k t' sz es => tiK T e fun u => (match u.desc with
        | .int .u8 => Owes (s = t ∧ sz = 1 ∧ es ≠ []) (Way (K (.f (.sl es)) (killL k (killL k E)) (killH k (killH k H)) n) (K (.own k t' sz es) (killL k E) (killH k H) n))
        | _ => False)
      | _ => False)
    | _ => False

section
variable {P : Program} {c : Cx} {w : World} {H : Hp} {n : Nat} {B : Base}
def Cx.newImm (c : Cx) (lo hi : Nat) : Cx := ⟨c.φ, c.τ, fun b => c.imm b ∨ (lo ≤ b ∧ b < hi), c.h, c.n⟩
/-- New blocks that no longer turn. -/
theorem Con.newImm {w' : World} (h : Con B c w H n) (hb : Below w.heap.size w w') : Con B (c.newImm w.heap.size w'.heap.size) w' H n ∧ Keep c (c.newImm w.heap.size w'.heap.size) w w' none := by
  obtain ⟨h1, k1⟩ := h.grow hb
  have hkeep : Keep c (c.newImm w.heap.size w'.heap.size) w w' none := ⟨fun b hi => ⟨.inl hi, (k1.imm b hi).2⟩, Nat.le_refl _, Nat.le_refl _, fun _ _ => rfl, k1.τ⟩
  have hkeep2 : Keep c (c.newImm w.heap.size w'.heap.size) w' w' none := ⟨fun b hi => ⟨.inl hi, rfl⟩, Nat.le_refl _, Nat.le_refl _, fun _ _ => rfl, fun _ _ _ => ⟨rfl, fun _ _ => rfl⟩⟩
  refine ⟨⟨h1.os, h1.tape, h1.output, h1.size, h1.old, fun b hb => .inl (h1.imm0 b hb), fun b hi => ?_, h1.hlen, h1.nlen, h1.hh, h1.phi, fun j cs hj => ?_, fun j cs hj => ⟨(h1.objM j cs hj).1, fun hi => ?_⟩, h1.inj, fun j b hj => ?_, h1.tagInj, h1.high, h.glob.keep hkeep.imm⟩, hkeep⟩
  · rcases hi with hi | ⟨h2, h3⟩
    · exact h1.immB b hi
    · exact ⟨h3, .inr (.inr (Nat.le_trans h.size h2))⟩
  · obtain ⟨C, T, e, hr⟩ := h1.objs j cs hj
    exact ⟨C, T, e, hr.mono hkeep2⟩
  · rcases hi with hi | ⟨h2, h3⟩
    · exact (h1.objM j cs hj).2 hi
    · have := h.objLt hj
      have h2' : w.heap.size ≤ c.φ j := h2
      omega
  · obtain ⟨a1, a2, a3, a4⟩ := h1.tags j b hj
    refine ⟨a1, fun hi => ?_, a3, a4⟩
    rcases hi with hi | ⟨h2, h3⟩
    · exact a2 hi
    · have := (h.tags j b hj).1
      omega
theorem repC_byteRow {imm : Nat → Prop} {b o : Nat} {x : UInt8} (h : w.cell? ⟨b, o, none⟩ = some (.int .u8 x.toNat)) : RepC imm w (byteRow x) b o := by
  unfold byteRow RepC
  exact ⟨⟨_, h, by unfold RepF; exact ⟨rfl, rfl⟩⟩, by unfold RepC; trivial⟩
theorem repR_bytes {imm : Nat → Prop} : ∀ (l : List UInt8) (b o : Nat), (∀ j x, l[j]? = some x → w.cell? ⟨b, o + j, none⟩ = some (.int .u8 x.toNat)) → RepR imm w (l.map byteRow) b o
  | [], _, _, _ => by simp [RepR]
  | x :: l, b, o, h => by
    simp only [List.map_cons]
    unfold RepR
    refine ⟨repC_byteRow (h 0 x rfl), ?_⟩
    have : (byteRow x).length = 1 := rfl
    rw [this]
    exact repR_bytes l b (o + 1) (fun j y hy => by rw [show o + 1 + j = o + (j + 1) by omega]; exact h (j + 1) y (by simpa using hy))
/-- The bytes of a string, in a block that no longer turns. -/
theorem run_strBytes (hC : Con B c w H n) (e : TypeId) (b : ByteArray) :
    ∃ v c' w', (Conv.stringToBytes e b).run P w = .ok v w' ∧ Con B c' w' H n ∧ Keep c c' w w' none ∧ Rep c' w' (.f (.sl (b.data.toList.map byteRow))) v := by
  let cap := grownCap w b.size 0 e
  have hcap : b.size ≤ cap := grownCap_ge w b.size 0 e
  let elems : Array Value := b.data.map fun x => .int .u8 x.toNat
  let row : Array Value := elems ++ Array.replicate (cap - b.size) (.int .u8 0)
  have hrow : row.size = cap := by
    show (elems ++ _).size = _
    have : elems.size = b.size := by simp [elems]
    rw [Array.size_append, this, Array.size_replicate]
    omega
  let w1 := w.drew.alloc (.cells row e)
  let w' := w1.freeze ⟨w.heap.size, row.size, none⟩ 1
  have hb1 : Below w.heap.size w w1 := ((Below.refl _ _).drew).alloc (Nat.le_refl _) _
  have hblk : w'.heap[w.heap.size]? = some (.cells row e (row.size, row.size + 1)) := by
    show (w1.freeze _ 1).heap[w.heap.size]? = _
    unfold World.freeze
    rw [if_neg (by omega)]
    simp only [Array.getElem?_modify, if_true]
    have : w1.heap[w.heap.size]? = some (.cells row e (0, 0)) := heap_alloc_last w.drew _
    rw [this]
    rfl
  have hoth : ∀ k, k ≠ w.heap.size → w'.heap[k]? = w1.heap[k]? := fun k hk => by
    show (w1.freeze _ 1).heap[k]? = _
    unfold World.freeze
    rw [if_neg (by omega)]
    simp only [Array.getElem?_modify]
    rw [if_neg (by omega)]
  have hsz : w'.heap.size = w1.heap.size := by
    show (w1.freeze _ 1).heap.size = _
    unfold World.freeze
    rw [if_neg (by omega)]
    simp
  have hos : w'.os = w1.os ∧ w'.tape = w1.tape ∧ w'.output = w1.output := by
    show (w1.freeze _ 1).os = _ ∧ (w1.freeze _ 1).tape = _ ∧ (w1.freeze _ 1).output = _
    unfold World.freeze
    rw [if_neg (by omega)]
    exact ⟨rfl, rfl, rfl⟩
  have hbel : Below w.heap.size w w' := ⟨hos.1.trans hb1.os, hos.2.1.trans hb1.tape, hos.2.2.trans hb1.output, by rw [hsz]; exact hb1.size, fun k hk => by rw [hoth k (by omega)]; exact hb1.block k hk⟩
  obtain ⟨hC', hk⟩ := hC.newImm hbel
  refine ⟨.slice (some ⟨w.heap.size, 0, none⟩) b.size cap, _, w', ?_, hC', hk, ?_⟩
  · have hsh : w1.shape? w.heap.size = some (e, row.size) := by
      unfold World.shape?
      have : w1.heap[w.heap.size]? = some (.cells row e (0, 0)) := heap_alloc_last w.drew _
      rw [this]
    have hcc : (choose (.appendCap b.size 0 e)).run P w = .ok cap w.drew := by
      simp [Question.forced]
      rfl
    simp only [Conv.stringToBytes, Sem.run_bind, hcc, Result.andThen_ok, newRow, run_newObj, Sem.run_pure, markStringish, run_shape]
    show (((match w1.shape? w.heap.size with
      | some (_, n) => freeze { block := w.heap.size, off := n } 1
      | _ => pure () : Sem Unit)).run P w1).andThen _ = _
    rw [hsh]
    rfl
  · unfold Rep RepF
    have hl : (b.data.toList.map byteRow).length = b.size := by simp
    refine .inr ⟨w.heap.size, 0, cap, by rw [hl], by rw [hl]; exact hcap, .inr ⟨Nat.le_refl _, by rw [hsz]; simp [w1]⟩, repR_bytes _ _ _ (fun j x hx => ?_)⟩
    rw [cell_of_row w' _ _ row e _ hblk]
    show (elems ++ _)[0 + j]? = _
    have hj : j < b.data.size := by
      have := (List.getElem?_eq_some_iff.1 hx).1
      simpa using this
    rw [Nat.zero_add, Array.getElem?_append_left (by simpa [elems] using hj)]
    have hx' : b.data[j]? = some x := by simpa using hx
    simp [elems, hx']
theorem repR_bytes_cell {imm : Nat → Prop} : ∀ (l : List UInt8) (b o : Nat), RepR imm w (l.map byteRow) b o → ∀ j (hj : j < l.length), w.cell? ⟨b, o + j, none⟩ = some (.int .u8 (l[j].toNat : Int))
  | [], _, _, _, j, hj => by simp at hj
  | x :: l, b, o, h, j, hj => by
    simp only [List.map_cons] at h
    unfold RepR at h
    cases j with
    | zero =>
      have := h.1
      unfold byteRow RepC at this
      obtain ⟨⟨y, h1, h2⟩, _⟩ := this
      have := repF_v h2
      subst this
      exact h1
    | succ j =>
      have := repR_bytes_cell l b (o + 1) h.2 j (by simpa using hj)
      rw [show o + (j + 1) = o + 1 + j by omega]
      simpa using this
theorem repRows_bytes {imm : Nat → Prop} {w : World} : ∀ (l : List UInt8) (xs : List Value), RepRows imm w 1 (l.map byteRow) xs → xs = l.map fun x => Value.int .u8 x.toNat
  | [], xs, h => by unfold RepRows at h; exact h
  | x :: l, xs, h => by
    simp only [List.map_cons] at h
    unfold RepRows at h
    obtain ⟨ys, zs, rfl, _, h1, h2⟩ := h
    unfold byteRow RepFs at h1
    obtain ⟨v, vs', rfl, h3, h4⟩ := h1
    unfold RepFs at h4
    subst h4
    have := repF_v h3
    subst this
    rw [repRows_bytes l zs h2]
    rfl
theorem toArray_data (b : ByteArray) : (⟨b.data.toList.toArray⟩ : ByteArray) = b := by
  cases b; simp
theorem freeze_mark (fz : Nat × Nat) (sz : Nat) (h : Marked fz sz) : Marked (if fz.1 == fz.2 then (sz, sz + 1) else (min fz.1 sz, max fz.2 (sz + 1))) sz := by
  rcases h with rfl | h
  · exact .inr (Nat.le_refl _)
  · split
    · exact .inr (Nat.le_refl _)
    · exact .inr (by dsimp only; omega)
/-- The mark of a converted own slice. -/
theorem mark_run {v : Value} {t : Nat} {es : List (List F)} {xs : List Value} (how : ownsM w 0 t 1 v es.length xs) {e : TypeId} (hue : P.underlying e = some (.int .u8)) {st : TypeId} (hus : P.underlying st = some (.slice e)) (hne : es ≠ []) :
    ∃ w', (convert st st v).run P w = .ok v w' ∧ w.grownBy w' (blk v) ∧ w'.heap.size = w.heap.size ∧ ownsM w' 0 t 1 v es.length xs := by
  rcases how.2 with ⟨h1, h0⟩ | ⟨g, cap, cur, hτ, hb0, ⟨fz, hfz, hh⟩, hc, hm, hsz, htake⟩
  · exact absurd (List.eq_nil_of_length_eq_zero h0) hne
  let w' := w.freeze ⟨g, cur.size, none⟩ 1
  have hblk : w'.heap[g]? = some (.cells cur t (if fz.1 == fz.2 then (cur.size, cur.size + 1) else (min fz.1 cur.size, max fz.2 (cur.size + 1)))) := by
    show (w.freeze _ 1).heap[g]? = _
    unfold World.freeze
    rw [if_neg (by omega)]
    simp only [Array.getElem?_modify, if_true]
    rw [hh]
    rfl
  have hoth : ∀ j, j ≠ g → w'.heap[j]? = w.heap[j]? := fun j hj => by
    show (w.freeze _ 1).heap[j]? = _
    unfold World.freeze
    rw [if_neg (by omega)]
    simp only [Array.getElem?_modify]
    rw [if_neg (by omega)]
  have hsz' : w'.heap.size = w.heap.size := by
    show (w.freeze _ 1).heap.size = _
    unfold World.freeze
    rw [if_neg (by omega)]
    simp
  have hos : w'.os = w.os ∧ w'.tape = w.tape ∧ w'.output = w.output := by
    show (w.freeze _ 1).os = _ ∧ (w.freeze _ 1).tape = _ ∧ (w.freeze _ 1).output = _
    unfold World.freeze
    rw [if_neg (by omega)]
    exact ⟨rfl, rfl, rfl⟩
  have hb : blk v = some g := by rw [hτ]; rfl
  have hg : w.grownBy w' (blk v) := ⟨hos.1, hos.2.1, hos.2.2, by rw [hsz']; exact Nat.le_refl _, fun j hj hn => hoth j (fun e => hn (by rw [hb, e]))⟩
  refine ⟨w', ?_, hg, hsz', how.1, .inr ⟨g, cap, cur, hτ, hb0, ⟨_, freeze_mark fz _ hfz, hblk⟩, hc, hm, hsz, htake⟩⟩
  have hsh : w.shape? g = some (t, cur.size) := by
    unfold World.shape?
    rw [hh]
  rw [hτ]
  simp only [convert, Sem.run_bind, run_underlying hus, run_underlying hue, Result.andThen_ok, beq_self_eq_true, markStringish, run_shape]
  show ((((match w.shape? g with
    | some (_, n) => freeze { block := g, off := n } 1
    | _ => pure () : Sem Unit)).run P w).andThen _) = _
  rw [hsh]
  rfl
theorem mark_own (hC : Con B c w H n) {k t s : Nat} {es : List (List F)} (hk : k < n) (hO : OwnOk c.imm w (c.τ k) t s es) {e : TypeId} (hue : P.underlying e = some (.int .u8)) {st : TypeId} (hus : P.underlying st = some (.slice e)) (hne : es ≠ []) (hs : s = 1) :
    ∃ w', (convert st st (c.τ k)).run P w = .ok (c.τ k) w' ∧
      (∃ c', Con B c' w' (killH k H) n ∧ (∀ E vs, RepL c w E vs → RepL c' w' (killL k E) vs) ∧ Rep c' w' (.own k t s es) (c.τ k)) ∧
      ∃ c', Con B c' w' (killH k (killH k H)) n ∧ (∀ E vs, RepL c w E vs → RepL c' w' (killL k (killL k E)) vs) ∧ Rep c' w' (.f (.sl es)) (c.τ k) := by
  subst hs
  obtain ⟨hs, xs, how, hr⟩ := hO
  obtain ⟨w', hrun, hg, hsz', how'⟩ := mark_run (P := P) how hue hus hne
  obtain ⟨hC1, hk1⟩ := hC.retag hk hg (v := c.τ k) (fun b hb' => ⟨by rw [hsz']; exact (how.lt b hb').2, .inl hb'⟩)
  have hO' : OwnOk (c.retag k (c.τ k)).imm w' ((c.retag k (c.τ k)).τ k) t 1 es := ⟨hs, xs, by rw [Cx.retag_same]; exact how', hr.mono hk1.imm⟩
  refine ⟨w', hrun, ⟨_, hC1, fun E vs hE => RepL.kill hk1 _ _ hE, ?_⟩, ?_⟩
  · unfold Rep
    exact ⟨by rw [hC1.nlen]; exact hk, by rw [Cx.retag_same], hO'⟩
  · obtain ⟨hC2, hk2⟩ := hC1.freeze (k := k)
    refine ⟨_, hC2, fun E vs hE => RepL.kill hk2 _ _ (RepL.kill hk1 _ _ hE), ?_⟩
    unfold Rep
    have := hO'.toF (imm' := ((c.retag k (c.τ k)).freeze k).imm) hk2.imm (fun b hb => .inr hb)
    rw [Cx.retag_same] at this
    exact this
/-- The bytes of a string, in a row of one's own. -/
theorem run_strBytesO (hC : Con B c w H n) (e : TypeId) (b : ByteArray) {v : Value} {w' : World} (hrun : (Conv.stringToBytes e b).run P w = .ok v w') (hbig : b.size ≤ 140737488355328) :
    ∃ c', Con B c' w' H (n + 1) ∧ Keep c c' w w' none ∧ Rep c' w' (.own n e 1 (b.data.toList.map byteRow)) v := by
  let cap := grownCap w b.size 0 e
  have hcap : b.size ≤ cap := grownCap_ge w b.size 0 e
  have hcm : cap ≤ maxLen := grownCap_le_maxLen w b.size 0 e (by unfold maxLen; omega)
  let elems : Array Value := b.data.map fun x => .int .u8 x.toNat
  let row : Array Value := elems ++ Array.replicate (cap - b.size) (.int .u8 0)
  have hel : elems.size = b.size := by simp [elems]
  have hrow : row.size = cap := by
    show (elems ++ _).size = _
    rw [Array.size_append, hel, Array.size_replicate]
    omega
  let w1 := w.drew.alloc (.cells row e)
  let w2 := w1.freeze ⟨w.heap.size, row.size, none⟩ 1
  have hb1 : Below w.heap.size w w1 := ((Below.refl _ _).drew).alloc (Nat.le_refl _) _
  have hblk : w2.heap[w.heap.size]? = some (.cells row e (row.size, row.size + 1)) := by
    show (w1.freeze _ 1).heap[w.heap.size]? = _
    unfold World.freeze
    rw [if_neg (by omega)]
    simp only [Array.getElem?_modify, if_true]
    have : w1.heap[w.heap.size]? = some (.cells row e (0, 0)) := heap_alloc_last w.drew _
    rw [this]
    rfl
  have hoth : ∀ k, k ≠ w.heap.size → w2.heap[k]? = w1.heap[k]? := fun k hk => by
    show (w1.freeze _ 1).heap[k]? = _
    unfold World.freeze
    rw [if_neg (by omega)]
    simp only [Array.getElem?_modify]
    rw [if_neg (by omega)]
  have hsz : w2.heap.size = w1.heap.size := by
    show (w1.freeze _ 1).heap.size = _
    unfold World.freeze
    rw [if_neg (by omega)]
    simp
  have hos : w2.os = w1.os ∧ w2.tape = w1.tape ∧ w2.output = w1.output := by
    show (w1.freeze _ 1).os = _ ∧ (w1.freeze _ 1).tape = _ ∧ (w1.freeze _ 1).output = _
    unfold World.freeze
    rw [if_neg (by omega)]
    exact ⟨rfl, rfl, rfl⟩
  have hbel : Below w.heap.size w w2 := ⟨hos.1.trans hb1.os, hos.2.1.trans hb1.tape, hos.2.2.trans hb1.output, by rw [hsz]; exact hb1.size, fun k hk => by rw [hoth k (by omega)]; exact hb1.block k hk⟩
  have hrun2 : (Conv.stringToBytes e b).run P w = .ok (.slice (some ⟨w.heap.size, 0, none⟩) b.size cap) w2 := by
    have hsh : w1.shape? w.heap.size = some (e, row.size) := by
      unfold World.shape?
      have : w1.heap[w.heap.size]? = some (.cells row e (0, 0)) := heap_alloc_last w.drew _
      rw [this]
    have hcc : (choose (.appendCap b.size 0 e)).run P w = .ok cap w.drew := by
      simp [Question.forced]
      rfl
    simp only [Conv.stringToBytes, Sem.run_bind, hcc, Result.andThen_ok, newRow, run_newObj, Sem.run_pure, markStringish, run_shape]
    show (((match w1.shape? w.heap.size with
      | some (_, n) => freeze { block := w.heap.size, off := n } 1
      | _ => pure () : Sem Unit)).run P w1).andThen _ = _
    rw [hsh]
    rfl
  rw [hrun] at hrun2
  simp only [Result.ok.injEq] at hrun2
  obtain ⟨hv0, hw0⟩ := hrun2
  rw [hv0, hw0]
  obtain ⟨hC', hk⟩ := hC.newTag (v := .slice (some ⟨w.heap.size, 0, none⟩) b.size cap) hbel (fun q hq => by
    have e0 : w.heap.size = q := by simpa [blk, Value.ownBlock] using hq
    subst e0
    exact ⟨Nat.le_refl _, (Array.getElem?_eq_some_iff.1 hblk).1⟩)
  refine ⟨_, hC', hk, ?_⟩
  have hnn := hC.nlen
  subst hnn
  unfold Rep
  refine ⟨Nat.lt_succ_self _, (c.newTag_same _).symm, Nat.zero_lt_one, b.data.toList.map (fun x => Value.int .u8 x.toNat), ?_, ?_⟩
  · rw [c.newTag_same, List.length_map]
    refine ⟨by simp, .inr ⟨w.heap.size, cap, row, rfl, Nat.zero_le _, ⟨_, .inr (Nat.le_refl _), hblk⟩, hcap, hcm, by rw [hrow, Nat.mul_one], ?_⟩⟩
    show (elems ++ Array.replicate (cap - b.size) (Value.int .u8 0)).toList.take _ = _
    rw [Array.toList_append, List.take_append_of_le_length (by simp [elems]), List.take_of_length_le (by simp [elems])]
    simp [elems]
  · have : ∀ l : List UInt8, RepRows (c.newTag (.slice (some ⟨w.heap.size, 0, none⟩) b.size cap)).imm w2 1 (l.map byteRow) (l.map fun b => Value.int .u8 b.toNat) := by
      intro l
      induction l with
      | nil => simp [RepRows]
      | cons x l ih =>
        simp only [List.map_cons]
        unfold RepRows
        refine ⟨[.int .u8 x.toNat], _, rfl, rfl, ?_, ih⟩
        unfold byteRow RepFs RepF
        exact ⟨_, [], rfl, ⟨rfl, rfl⟩, by unfold RepFs; rfl⟩
    exact this _
theorem convertD_sound {T : Tab} (hT : TabOk P 0 T) (hC : Con B c w H n) {E : List D} {a : Act} (hE : RepL c w E a.tmps.toList) {s t : Nat} {x : D} {v : Value} (hx : Rep c w x v) {K : KD} (h : convertD T s t x E H n K) :
    ∃ d u E' H' n' c' w', K d E' H' n' ∧ (convert s t v).run P w = .ok u w' ∧ Con B c' w' H' n' ∧ RepL c' w' E' a.tmps.toList ∧ Rep c' w' d u := by
  unfold convertD at h
  replace h := tiK_open hT h; obtain ⟨si, Ls, h⟩ := h
  replace h := tiK_open hT h; obtain ⟨ti, Lt, h⟩ := h
  split at h
  · rename_i k hd
    have hu : P.underlying t = some (.int k) := by rw [Lt.und, hd]
    split at h
    · have e1 := rep_v hx
      subst e1
      exact ⟨_, _, _, _, _, c, w, Num.open h, by simp [convert, Ls.run_underlying w, run_underlying hu, Conv.intToInt], hC, hE, rep_of _ rfl⟩
    · exact h.elim
  · rename_i hd
    have hu : P.underlying t = some .string := by rw [Lt.und, hd]
    split at h
    · have e1 := rep_v hx
      subst e1
      refine ⟨_, _, _, _, _, c, w, h, ?_, hC, hE, rep_of _ rfl⟩
      cases hsd : si.desc <;> simp [convert, Ls.run_underlying w, hsd, run_underlying hu]
    · rename_i es
      split at h
      · rename_i e hsd
        have hus : P.underlying s = some (.slice e) := by rw [Ls.und, hsd]
        replace h := tiK_open hT h; obtain ⟨u, Lu, h⟩ := h
        split at h
        · rename_i hud
          have hue : P.underlying e = some (.int .u8) := by rw [Lu.und, hud]
          replace h := AsBytes.open h
          obtain ⟨bs, rfl, h⟩ := h
          unfold Rep RepF at hx
          rcases hx with ⟨⟨a0, rfl⟩, hes⟩ | ⟨b, o, cap, rfl, hc, him, hr⟩
          · have : bs = [] := by simpa using hes
            subst this
            cases a0 with
            | none => exact ⟨_, _, _, _, _, c, w, h, run_convert_bytes_nil w s e hus hue 0 0 t hu, hC, hE, rep_of _ rfl⟩
            | some a0 => exact ⟨_, _, _, _, _, c, w, h, run_convert_bytes_back w s t e a0 0 [] hus hue hu (fun j hj => absurd hj (Nat.not_lt_zero _)), hC, hE, rep_of _ rfl⟩
          · refine ⟨_, _, _, _, _, c, w, h, ?_, hC, hE, rep_of _ rfl⟩
            rw [List.length_map]
            exact run_convert_bytes_back w s t e ⟨b, o, none⟩ cap bs hus hue hu (fun j hj => by rw [addr_add]; exact repR_bytes_cell bs b o hr j hj)
        · exact h.elim
      · exact h.elim
    · rename_i k t' sz es
      split at h
      · rename_i e hsd
        have hus : P.underlying s = some (.slice e) := by rw [Ls.und, hsd]
        replace h := tiK_open hT h; obtain ⟨u, Lu, h⟩ := h
        split at h
        · rename_i hud
          have hue : P.underlying e = some (.int .u8) := by rw [Lu.und, hud]
          replace h := Owes.open h
          obtain ⟨rfl, h⟩ := h
          replace h := AsBytes.open h
          obtain ⟨bs, rfl, h⟩ := h
          unfold Rep at hx
          obtain ⟨hk, rfl, hs, xs, how, hrow⟩ := hx
          have hxs := repRows_bytes bs xs hrow
          rcases how.2 with ⟨h1, h0⟩ | ⟨g, cap, cur, e1, _, ⟨fz, _, hh⟩, _, _, _, htake⟩
          · have : bs = [] := List.eq_nil_of_length_eq_zero (by simpa using h0)
            subst this
            exact ⟨_, _, _, _, _, c, w, h, by rw [h1]; exact run_convert_bytes_nil w s e hus hue 0 0 t hu, hC, hE, rep_of _ rfl⟩
          · refine ⟨_, _, _, _, _, c, w, h, ?_, hC, hE, rep_of _ rfl⟩
            rw [e1, List.length_map]
            refine run_convert_bytes_back w s t e ⟨g, 0, none⟩ cap bs hus hue hu (fun j hj => ?_)
            rw [addr_add, cell_of_row w _ _ cur _ fz hh, Nat.zero_add]
            have : (xs[j]?) = some (.int .u8 (bs[j].toNat : Int)) := by rw [hxs]; simp [hj]
            rw [← htake, List.getElem?_take] at this
            split at this
            · simpa using this
            · cases this
        · exact h.elim
      · exact h.elim
    · split at h
      · rename_i e hsd
        have hus : P.underlying s = some (.slice e) := by rw [Ls.und, hsd]
        replace h := tiK_open hT h; obtain ⟨u, Lu, h⟩ := h
        split at h
        · rename_i hud
          have hue : P.underlying e = some (.int .u8) := by rw [Lu.und, hud]
          unfold Rep at hx
          subst hx
          exact ⟨_, _, _, _, _, c, w, h, run_convert_bytes_nil w s e hus hue 0 0 t hu, hC, hE, rep_of _ rfl⟩
        · exact h.elim
      · exact h.elim
    · exact h.elim
  · rename_i e hd
    have hu : P.underlying t = some (.slice e) := by rw [Lt.und, hd]
    split at h
    · rename_i b
      replace h := tiK_open hT h; obtain ⟨u, Lu, h⟩ := h
      split at h
      · rename_i hud
        have hue : P.underlying e = some (.int .u8) := by rw [Lu.und, hud]
        have e1 := rep_v hx
        subst e1
        obtain ⟨v, c', w', hr, hC', hk, hv⟩ := run_strBytes (P := P) hC e b
        have hrun : (convert s t (.string b)).run P w = .ok v w' := by
          cases hsd : si.desc <;> simp [convert, Ls.run_underlying w, hsd, run_underlying hu, run_underlying hue, hr]
        rcases Way.open h with h | h
        · exact ⟨_, v, _, _, _, c', w', h, hrun, hC', hE.mono hk, hv⟩
        · replace h := Owes.open h
          obtain ⟨hbig, h⟩ := h
          obtain ⟨c2, hC2, hk2, hv2⟩ := run_strBytesO (P := P) hC e b hr hbig
          exact ⟨_, v, _, _, _, c2, w', h, hrun, hC2, hE.mono hk2, hv2⟩
      · exact h.elim
    · rename_i k t' sz es
      replace h := tiK_open hT h; obtain ⟨u, Lu, h⟩ := h
      split at h
      · rename_i hud
        have hue : P.underlying e = some (.int .u8) := by rw [Lu.und, hud]
        replace h := Owes.open h
        obtain ⟨⟨rfl, rfl, hne⟩, h⟩ := h
        unfold Rep at hx
        obtain ⟨hk, rfl, hO⟩ := hx
        obtain ⟨w', h1, ⟨c1, g2, g3, g4⟩, ⟨c', h2, h3, h4⟩⟩ := mark_own (P := P) hC (by rw [← hC.nlen]; exact hk) hO hue hu hne rfl
        rcases Way.open h with h | h
        · exact ⟨_, _, _, _, _, c', w', h, h1, h2, h3 _ _ hE, h4⟩
        · exact ⟨_, _, _, _, _, c1, w', h, h1, g2, g3 _ _ hE, g4⟩
      · exact h.elim
    · exact h.elim
  · exact h.elim
end
end Go.Proofs.Ytdfiegleaknleaa.Aw

namespace Go.Proofs.Ytdfiegleaknleaa.Aw
open Go Go.RowKit Go.Lib
set_option linter.unusedVariables false
set_option linter.unusedSimpArgs false

/-- What is appended. -/
def srcK (T : Tab) (t1 t2 : Nat) (u : TI) (x : D) (K : List (List F) → Prop) : Prop :=
  match x with
  | .f (.sl xs) => bif Nat.beq t1 t2 then Owes (∀ r ∈ xs, r.length = u.size) (K xs) else False
  | .own _ _ s xs => bif Nat.beq t1 t2 && Nat.beq s u.size then K xs else False
  | .nil => bif Nat.beq t1 t2 then K [] else False
  | .f (.v (.string b)) => tiK T t2 fun t2i => (match t2i.desc, u.zval with
    | .string, .int .u8 0 => bif Nat.beq u.size 1 && Nat.beq u.bytes 1 then K (b.data.toList.map byteRow) else False
    | _, _ => False)
  | _ => False
def appendD (T : Tab) (ts : List Nat) (s x : D) (E : List D) (H : Hp) (n : Nat) (K : KD) : Prop :=
  match ts with
  | [t1, t2] => tiK T t1 fun ti => (match ti.desc with
    | .slice e => tiK T e fun u => bif Nat.ble 1 u.size && Nat.ble 1 u.bytes && Nat.beq u.zero.length u.size then srcK T t1 t2 u x fun xs => (match s with
      | .nil => Owes (xs.length * u.bytes ≤ 140737488355328) (K (.own n e u.size xs) E H (n + 1))
      | .own k e' s' es => bif Nat.beq e' e && Nat.beq s' u.size then Owes ((es.length + xs.length) * u.bytes ≤ 140737488355328) (K (.own k e s' (es ++ xs)) (killL k E) (killH k H) n) else False
      | _ => False) else False
    | _ => False)
  | _ => False

section
variable {P : Program} {c : Cx} {w : World} {H : Hp} {n : Nat} {B : Base}
theorem RepR.toRows {imm : Nat → Prop} {s : Nat} : ∀ {es : List (List F)} {b o : Nat}, RepR imm w es b o → (∀ e ∈ es, e.length = s) → ∃ xs, RepRows imm w s es xs ∧ ∀ j v, xs[j]? = some v → w.cell? ⟨b, o + j, none⟩ = some v
  | [], b, o, _, _ => ⟨[], by unfold RepRows; rfl, fun j v h => by simp at h⟩
  | e :: es, b, o, h, hl => by
    unfold RepR at h
    obtain ⟨zs, h1, h2⟩ := RepR.toRows h.2 (fun e he => hl e (List.mem_cons_of_mem _ he))
    have : ∀ (e : List F) (o : Nat), RepC imm w e b o → ∃ ys : List Value, RepFs imm w e ys ∧ ys.length = e.length ∧ ∀ j v, ys[j]? = some v → w.cell? ⟨b, o + j, none⟩ = some v := by
      intro e
      induction e with
      | nil => intro o _; exact ⟨[], by unfold RepFs; rfl, rfl, fun j v h => by simp at h⟩
      | cons x e ih =>
        intro o h
        unfold RepC at h
        obtain ⟨⟨y, h1, h2⟩, h3⟩ := h
        obtain ⟨ys, h4, h5, h6⟩ := ih (o + 1) h3
        refine ⟨y :: ys, by unfold RepFs; exact ⟨y, ys, rfl, h2, h4⟩, by simp [h5], fun j v hj => ?_⟩
        cases j with
        | zero => simp at hj; subst hj; exact h1
        | succ j => rw [show o + (j + 1) = o + 1 + j by omega]; exact h6 j v (by simpa using hj)
    obtain ⟨ys, h3, h4, h5⟩ := this e o h.1
    refine ⟨ys ++ zs, by unfold RepRows; exact ⟨ys, zs, rfl, hl e (List.mem_cons_self ..), h3, h1⟩, fun j v hj => ?_⟩
    rcases Nat.lt_or_ge j ys.length with hlt | hge
    · rw [List.getElem?_append_left hlt] at hj
      exact h5 j v hj
    · rw [List.getElem?_append_right hge] at hj
      have := h2 (j - ys.length) v hj
      rwa [show o + e.length + (j - ys.length) = o + j by omega] at this
theorem RepRows.append {imm : Nat → Prop} {s : Nat} : ∀ {es fs : List (List F)} {xs ys : List Value}, RepRows imm w s es xs → RepRows imm w s fs ys → RepRows imm w s (es ++ fs) (xs ++ ys)
  | [], fs, xs, ys, h, h' => by unfold RepRows at h; subst h; exact h'
  | e :: es, fs, xs, ys, h, h' => by
    unfold RepRows at h
    obtain ⟨us, zs, rfl, hl, h1, h2⟩ := h
    rw [List.append_assoc]
    simp only [List.cons_append]
    unfold RepRows
    exact ⟨us, _, rfl, hl, h1, RepRows.append h2 h'⟩
theorem RepRows.oneCell {imm : Nat → Prop} {s : Nat} : ∀ {es : List (List F)} {xs : List Value}, RepRows imm w s es xs → ∀ v ∈ xs, v.oneCell' = true
  | [], _, h, v, hv => by unfold RepRows at h; subst h; cases hv
  | e :: es, xs, h, v, hv => by
    unfold RepRows at h
    obtain ⟨us, zs, rfl, hl, h1, h2⟩ := h
    rcases List.mem_append.1 hv with hv | hv
    · have : ∀ {e : List F} {us : List Value}, RepFs imm w e us → ∀ v ∈ us, v.oneCell' = true := by
        intro e
        induction e with
        | nil => intro us h v hv; unfold RepFs at h; subst h; cases hv
        | cons x e ih =>
          intro us h v hv
          unfold RepFs at h
          obtain ⟨u, us', rfl, h1, h2⟩ := h
          rcases List.mem_cons.1 hv with rfl | hv
          · exact h1.oneCell
          · exact ih h2 v hv
      exact this h1 v hv
    · exact RepRows.oneCell h2 v hv
/-- The machine's append, wherever the source lies. -/
theorem run_append_any {e t1 t2 ty : Nat} {u : TI} (Le : Lay P e u) (ht : P.underlying t1 = some (.slice e)) (hs1 : 1 ≤ u.size) (hzl : u.zero.length = u.size) (hb1 : 1 ≤ u.bytes)
    {v : Value} {m : Nat} {xs : List Value} (how : ownsM w 0 e u.size v m xs) {T : Tab} (hT : TabOk P 0 T) {x : D} {y : Value} (hx : Rep c w x y) {K : List (List F) → Prop} (h : srcK T t1 t2 u x K) :
    ∃ rows news, K rows ∧ RepRows c.imm w u.size rows news ∧ ((m + rows.length) * u.bytes ≤ 140737488355328 → ∃ v' w', (Builtin.append_ #[t1, t2] ty #[v, y]).run P w = .ok v' w' ∧
      ownsM w' 0 e u.size v' (m + rows.length) (xs ++ news) ∧ w.grownBy w' (blk v) ∧ ∀ b, blk v' = some b → b < w'.heap.size ∧ (blk v = some b ∨ w.heap.size ≤ b)) := by
  obtain ⟨i, hi, hi1, hi2, hi3⟩ := Le.info
  have hzs : u.zval.cells.size = u.size := by rw [Le.zero]; simpa using hzl
  have hbig : ∀ k : Nat, (m + k) * u.bytes ≤ 140737488355328 → m + k ≤ maxLen := fun k hk => by
    have : (m + k) * 1 ≤ (m + k) * u.bytes := Nat.mul_le_mul_left _ hb1
    unfold maxLen
    omega
  have slice : t1 = t2 → ∀ (rows : List (List F)) (news : List Value) (ad : Addr) (cap : Nat), RepRows c.imm w u.size rows news → (∀ j z, news[j]? = some z → w.cell? (ad.add j) = some z) →
      (m + rows.length) * u.bytes ≤ 140737488355328 → ∃ v' w', (Builtin.append_ #[t1, t2] ty #[v, .slice (some ad) rows.length cap]).run P w = .ok v' w' ∧
      ownsM w' 0 e u.size v' (m + rows.length) (xs ++ news) ∧ w.grownBy w' (blk v) ∧ ∀ b, blk v' = some b → b < w'.heap.size ∧ (blk v = some b ∨ w.heap.size ≤ b) := by
    intro e0 rows news ad cap hr hc hb
    subst e0
    obtain ⟨v', w', h1, h2, h3, h4⟩ := run_append_ownM (P := P) w 0 t1 ty e i u.zval u.size u.bytes ht hi hi3 hi1 hi2 hzs (by omega) v m xs how ad rows.length cap news hr.length hc hr.oneCell (hbig _ hb) hb (Nat.zero_le _)
    refine ⟨v', w', h1, h2, h3, fun b hb => ⟨(h2.lt b hb).2, ?_⟩⟩
    rcases h4 with h4 | h4
    · left
      show v.ownBlock = some b
      rw [← h4]; exact hb
    · right
      have hb' : v'.ownBlock = some b := hb
      rw [h4] at hb'
      cases hb'
      exact Nat.le_refl _
  have none : t1 = t2 → ∃ v' w', (Builtin.append_ #[t1, t2] ty #[v, nilS]).run P w = .ok v' w' ∧
      ownsM w' 0 e u.size v' (m + ([] : List (List F)).length) (xs ++ []) ∧ w.grownBy w' (blk v) ∧ ∀ b, blk v' = some b → b < w'.heap.size ∧ (blk v = some b ∨ w.heap.size ≤ b) := by
    intro e0
    subst e0
    exact ⟨v, w, run_append_none_ownM (P := P) w 0 t1 ty e i u.size ht hi v m xs how, by simpa using how, ⟨rfl, rfl, rfl, Nat.le_refl _, fun _ _ _ => rfl⟩, fun b hb => ⟨(how.lt b hb).2, .inl hb⟩⟩
  unfold srcK at h
  split at h
  · rename_i rows
    cases hb : Nat.beq t1 t2 with
    | false => simp only [hb, cond_false] at h
    | true =>
      simp only [hb, cond_true] at h
      have e0 := beq_eq hb
      replace h := Owes.open h
      obtain ⟨hl, h⟩ := h
      unfold Rep RepF at hx
      rcases hx with ⟨⟨a0, rfl⟩, rfl⟩ | ⟨b, o, cap, rfl, hc, him, hr⟩
      · cases a0 with
        | none => exact ⟨[], [], h, by unfold RepRows; rfl, fun _ => none e0⟩
        | some a0 => exact ⟨[], [], h, by unfold RepRows; rfl, fun hb => slice e0 [] [] a0 0 (by unfold RepRows; rfl) (fun j z hz => by simp at hz) hb⟩
      · obtain ⟨news, h1, h2⟩ := hr.toRows hl
        exact ⟨rows, news, h, h1, fun hb => slice e0 rows news ⟨b, o, Option.none⟩ cap h1 (fun j z hz => by rw [addr_add]; exact h2 j z hz) hb⟩
  · rename_i k t s rows
    cases hb : (Nat.beq t1 t2 && Nat.beq s u.size) with
    | false => simp only [hb, cond_false] at h
    | true =>
      simp only [hb, cond_true] at h
      simp only [Bool.and_eq_true] at hb
      have e0 := beq_eq hb.1
      have e1 := beq_eq hb.2
      subst e1
      unfold Rep at hx
      obtain ⟨hk, rfl, hs, news, how2, hrow⟩ := hx
      rcases how2.2 with ⟨h1, h0⟩ | ⟨g, cap, cur, e1, _, ⟨fz, _, hh⟩, _, _, _, htake⟩
      · have : rows = [] := List.eq_nil_of_length_eq_zero h0
        subst this
        have hn : news = [] := by unfold RepRows at hrow; exact hrow
        subst hn
        rw [h1]
        exact ⟨[], [], h, hrow, fun _ => none e0⟩
      · rw [e1]
        refine ⟨rows, news, h, hrow, fun hb => slice e0 rows news ⟨g, 0, Option.none⟩ cap hrow (fun j z hz => ?_) hb⟩
        rw [addr_add, cell_of_row w _ _ cur _ fz hh, Nat.zero_add]
        rw [← htake, List.getElem?_take] at hz
        split at hz
        · simpa using hz
        · cases hz
  · cases hb : Nat.beq t1 t2 with
    | false => simp only [hb, cond_false] at h
    | true =>
      simp only [hb, cond_true] at h
      unfold Rep at hx
      subst hx
      exact ⟨[], [], h, by unfold RepRows; rfl, fun _ => none (beq_eq hb)⟩
  · rename_i b
    replace h := tiK_open hT h; obtain ⟨t2i, L2, h⟩ := h
    split at h
    · rename_i hd hz
      have hu2 : P.underlying t2 = some .string := by rw [L2.und, hd]
      cases hb : (Nat.beq u.size 1 && Nat.beq u.bytes 1) with
      | false => simp only [hb, cond_false] at h
      | true =>
        simp only [hb, cond_true] at h
        simp only [Bool.and_eq_true] at hb
        have e1 := beq_eq hb.1
        have e2 := beq_eq hb.2
        have e3 := rep_v hx
        subst e3
        have hl : (b.data.toList.map byteRow).length = b.size := by simp
        refine ⟨_, strCells b, h, ?_, fun hbd => ?_⟩
        · rw [e1]
          have : ∀ l : List UInt8, RepRows c.imm w 1 (l.map byteRow) (l.map fun b => Value.int .u8 b.toNat) := by
            intro l
            induction l with
            | nil => simp [RepRows]
            | cons x l ih =>
              simp only [List.map_cons]
              unfold RepRows
              refine ⟨[.int .u8 x.toNat], _, rfl, rfl, ?_, ih⟩
              unfold byteRow RepFs RepF
              exact ⟨_, [], rfl, ⟨rfl, rfl⟩, by unfold RepFs; rfl⟩
          exact this _
        · rw [hl, e2, Nat.mul_one] at hbd
          rw [hl, e1]
          rw [e1] at how hi1
          rw [e2] at hi2
          have h63 : m + b.size ≤ maxLen := by unfold maxLen; omega
          have hz' : i.zero = some (.int .u8 0) := by rw [hi3, hz]
          obtain ⟨v', w', h1, h2, h3, h4⟩ := run_append_own_stringM (P := P) w 0 t1 t2 ty e i ht hu2 hi hz' hi1 hi2 v m xs how b h63 hbd (Nat.zero_le _)
          exact ⟨v', w', h1, h2, h3, fun q hq => ⟨(h2.lt q hq).2, h4 q hq⟩⟩
    · exact h.elim
  · exact h.elim
theorem appendD_sound {T : Tab} (hT : TabOk P 0 T) (hC : Con B c w H n) {E : List D} {a : Act} (hE : RepL c w E a.tmps.toList) {ts : List Nat} {ty : Nat} {s x : D} {v y : Value} (hs : Rep c w s v) (hx : Rep c w x y) {K : KD} (h : appendD T ts s x E H n K) :
    ∃ d u E' H' n' c' w', K d E' H' n' ∧ (Builtin.append_ ts.toArray ty #[v, y]).run P w = .ok u w' ∧ Con B c' w' H' n' ∧ RepL c' w' E' a.tmps.toList ∧ Rep c' w' d u := by
  unfold appendD at h
  split at h
  · rename_i t1 t2
    replace h := tiK_open hT h; obtain ⟨ti, L, h⟩ := h
    split at h
    · rename_i e hd
      have ht : P.underlying t1 = some (.slice e) := by rw [L.und, hd]
      replace h := tiK_open hT h; obtain ⟨u, Le, h⟩ := h
      cases hb : (Nat.ble 1 u.size && Nat.ble 1 u.bytes && Nat.beq u.zero.length u.size) with
      | false => simp only [hb, cond_false] at h
      | true =>
        simp only [hb, cond_true] at h
        simp only [Bool.and_eq_true] at hb
        have b1 := Nat.le_of_ble_eq_true hb.1.1
        have b2 := Nat.le_of_ble_eq_true hb.1.2
        have b3 := beq_eq hb.2
        by_cases h0 : s = .nil
        · subst h0
          have hv : v = nilS := by unfold Rep at hs; exact hs
          subst hv
          obtain ⟨rows, news, h, hr, hrun⟩ := run_append_any (ty := ty) Le ht b1 b3 b2 (ownsM_nil w 0 e u.size) hT hx h
          simp only at h
          replace h := Owes.open h
          obtain ⟨hbd, h⟩ := h
          obtain ⟨v', w', h1, h2, h3, h4⟩ := hrun (by rw [Nat.zero_add]; exact hbd)
          rw [Nat.zero_add] at h2
          have hbel : Below w.heap.size w w' := ⟨h3.os, h3.tape, h3.output, h3.size, fun k hk => h3.block k hk (by intro e; cases e)⟩
          obtain ⟨hC', hk⟩ := hC.newTag (v := v') hbel (fun b hb => by
            obtain ⟨a1, a2⟩ := h4 b hb
            rcases a2 with a2 | a2
            · cases a2
            · exact ⟨a2, a1⟩)
          refine ⟨_, v', E, H, n + 1, _, w', h, h1, hC', hE.mono hk, ?_⟩
          unfold Rep
          have hnn := hC.nlen
          subst hnn
          refine ⟨Nat.lt_succ_self _, (c.newTag_same _).symm, b1, news, ?_, hr.mono hk.imm⟩
          rw [c.newTag_same]
          simpa using h2
        · by_cases h1 : ∃ k e' s' es, s = .own k e' s' es
          · obtain ⟨k, e', s', es, rfl⟩ := h1
            have hs0 := hs
            unfold Rep at hs
            obtain ⟨hk, hv, hs1, xs, how, hrow⟩ := hs
            have hq : ∀ rows, (match D.own k e' s' es with
              | .nil => Owes (rows.length * u.bytes ≤ 140737488355328) (K (.own n e u.size rows) E H (n + 1))
              | .own k e' s' es => bif Nat.beq e' e && Nat.beq s' u.size then Owes ((es.length + rows.length) * u.bytes ≤ 140737488355328) (K (.own k e s' (es ++ rows)) (killL k E) (killH k H) n) else False
              | _ => False) → e' = e ∧ s' = u.size ∧ (es.length + rows.length) * u.bytes ≤ 140737488355328 ∧ K (.own k e s' (es ++ rows)) (killL k E) (killH k H) n := fun rows h => by
              simp only at h
              cases hb : (Nat.beq e' e && Nat.beq s' u.size) with
              | false => simp only [hb, cond_false] at h
              | true =>
                simp only [hb, cond_true] at h
                simp only [Bool.and_eq_true] at hb
                replace h := Owes.open h
                exact ⟨beq_eq hb.1, beq_eq hb.2, h.1, h.2⟩
            by_cases he : e' = e ∧ s' = u.size
            · obtain ⟨rfl, rfl⟩ := he
              rw [← hv] at how
              obtain ⟨rows, news, h, hr, hrun⟩ := run_append_any (ty := ty) Le ht b1 b3 b2 how hT hx h
              obtain ⟨_, _, hbd, h⟩ := hq rows h
              obtain ⟨v', w', h1, h2, h3, h4⟩ := hrun hbd
              have hkn : k < n := by rw [← hC.nlen]; exact hk
              rw [hv] at h3
              obtain ⟨hC', k1⟩ := hC.retag (v := v') hkn h3 (fun b hb => by
                have := h4 b hb
                rw [hv] at this
                exact this)
              refine ⟨_, v', _, _, n, _, w', h, h1, hC', RepL.kill k1 _ _ hE, ?_⟩
              unfold Rep
              refine ⟨hk, (c.retag_same _ _).symm, hs1, xs ++ news, ?_, (hrow.mono k1.imm).append (hr.mono k1.imm)⟩
              rw [c.retag_same, List.length_append]
              exact h2
            · exfalso
              have : ∀ {Q : List (List F) → Prop}, srcK T t1 t2 u x Q → ∃ rows, Q rows := by
                intro Q hQ
                obtain ⟨rows, _, h, _⟩ := run_append_any (ty := ty) Le ht b1 b3 b2 (ownsM_nil w 0 e u.size) hT hx hQ
                exact ⟨rows, h⟩
              obtain ⟨rows, h⟩ := this h
              obtain ⟨e1, e2, _⟩ := hq rows h
              exact he ⟨e1, e2⟩
          · exfalso
            obtain ⟨rows, _, h, _⟩ := run_append_any (ty := ty) Le ht b1 b3 b2 (ownsM_nil w 0 e u.size) hT hx h
            split at h
            · exact h0 rfl
            · exact h1 ⟨_, _, _, _, rfl⟩
            · exact h
    · exact h.elim
  · exact h.elim
end
end Go.Proofs.Ytdfiegleaknleaa.Aw

namespace Go.Proofs.Ytdfiegleaknleaa.Aw
open Go Go.RowKit Go.Lib
set_option linter.unusedVariables false
set_option linter.unusedSimpArgs false

def minL (k : IntKind) (up : Bool) : Int → List D → (Int → Prop) → Prop
  | x, [], K => K x
  | x, d :: ds, K => match d with
    | .f (.v (.int j y)) => bif Nat.beq (knd k) (knd j) then (bif up then minL k up (if y > x then y else x) ds K else minL k up (if y < x then y else x) ds K) else False
    | _ => False
def minD (up : Bool) (ds : List D) (K : D → Prop) : Prop :=
  match ds with
  | .f (.v (.int k x)) :: ds => minL k up x ds fun r => K (.int k r)
  | _ => False
def eqFsK (T : Tab) (sz : Nat) (rec : Nat → List D → List D → (Bool → Prop) → Prop) : List Field → List D → List D → (Bool → Prop) → Prop
  | [], _, _, K => K true
  | f :: fs, cs, ds, K => tiK T f.type fun u => bif Nat.ble (f.offset + u.size) sz && Nat.ble 1 u.size then rec f.type (dropL f.offset cs) (dropL f.offset ds) fun b => eqFsK T sz rec fs cs ds fun r => K (b && r) else False
/-- Are the values of a type that begin here one? -/
def eqK (T : Tab) : Nat → Nat → List D → List D → (Bool → Prop) → Prop
  | 0, _, _, _, _ => False
  | m + 1, t, cs, ds, K => tiK T t fun ti => match ti.desc with
    | .int _ => (match cs, ds with
      | .f (.v (.int j a)) :: _, .f (.v (.int k b)) :: _ => bif Nat.beq (knd j) (knd k) then K (a == b) else False
      | _, _ => False)
    | .bool => (match cs, ds with
      | .f (.v (.bool a)) :: _, .f (.v (.bool b)) :: _ => K (a == b)
      | _, _ => False)
    | .string => (match cs, ds with
      | .f (.v (.string a)) :: _, .f (.v (.string b)) :: _ => K (a.toList == b.toList)
      | _, _ => False)
    | .struct fs => bif Nat.ble ti.size cs.length && Nat.ble ti.size ds.length then eqFsK T ti.size (fun t cs ds K => eqK T m t cs ds K) fs.toList cs ds K else False
    | _ => False
def eqD (T : Tab) (op : BinOp) (t : Nat) (x y : D) (K : D → Prop) : Prop :=
  match x, y with
  | .agg cs, .agg ds => tiK T t fun ti => bif Nat.beq cs.length ti.size && Nat.beq ds.length ti.size then (match ti.desc with
    | .struct _ => (match op with
      | .eql => eqK T 9 t cs ds fun b => K (.bool b)
      | .neq => eqK T 9 t cs ds fun b => K (.bool (!b))
      | _ => False)
    | _ => False) else False
  | _, _ => False

section
variable {P : Program} {c : Cx} {w : World} {H : Hp} {n : Nat} {B : Base}
theorem minL_sound {k : IntKind} {up : Bool} : ∀ (ds : List D) (vs : List Value) (x : Int) (K : Int → Prop), RepL c w ds vs → minL k up x ds K →
    ∃ r, K r ∧ ∀ w' : World, (vs.foldlM (m := Sem) (if up then Builtin.max2 else Builtin.min2) (.int k x)).run P w' = .ok (.int k r) w'
  | [], vs, x, K, hr, h => by
    unfold RepL at hr
    subst hr
    exact ⟨x, h, fun _ => rfl⟩
  | d :: ds, vs, x, K, hr, h => by
    unfold RepL at hr
    obtain ⟨v, vs', rfl, h1, h2⟩ := hr
    unfold minL at h
    split at h
    · rename_i j y
      have e1 := rep_v h1
      subst e1
      cases hb : Nat.beq (knd k) (knd j) with
      | false => simp only [hb, cond_false] at h
      | true =>
        simp only [hb, cond_true] at h
        cases up with
        | true =>
          simp only [cond_true] at h
          obtain ⟨r, h3, h4⟩ := minL_sound ds vs' _ K h2 h
          refine ⟨r, h3, fun w' => ?_⟩
          have h4 := h4 w'
          simp only [if_true] at h4 ⊢
          simp only [List.foldlM_cons, Builtin.max2, Sem.run_bind, Sem.run_pure, Result.andThen_ok]
          exact h4
        | false =>
          simp only [cond_false] at h
          obtain ⟨r, h3, h4⟩ := minL_sound ds vs' _ K h2 h
          refine ⟨r, h3, fun w' => ?_⟩
          have h4 := h4 w'
          simp only [Bool.false_eq_true, if_false] at h4 ⊢
          simp only [List.foldlM_cons, Builtin.min2, Sem.run_bind, Sem.run_pure, Result.andThen_ok]
          exact h4
    · exact h.elim
theorem minD_sound {up : Bool} {ds : List D} {vs : List Value} {ts : Array TypeId} {ty : TypeId} (hr : RepL c w ds vs) {K : D → Prop} (h : minD up ds K) :
    ∃ z, z.oneCell' = true ∧ K (.f (.v z)) ∧ ∀ w' : World, ((if up then Builtin.max_ ts ty vs.toArray else Builtin.min_ ts ty vs.toArray)).run P w' = .ok z w' := by
  unfold minD at h
  split at h
  · rename_i k x ds
    unfold RepL at hr
    obtain ⟨v, vs', rfl, h1, h2⟩ := hr
    have e1 := rep_v h1
    subst e1
    obtain ⟨r, h3, h4⟩ := minL_sound (P := P) ds vs' x _ h2 h
    refine ⟨_, rfl, h3, fun w' => ?_⟩
    cases up with
    | true => simpa [Builtin.max_] using h4 w'
    | false => simpa [Builtin.min_] using h4 w'
  · exact h.elim
theorem part_leaf (w : World) {t : Nat} {ti : TI} (L : Lay P t ti) (hg : ti.isAgg = false) {vs : List Value} {o : Nat} {x : Value} (h : vs[o]? = some x) : (part t vs.toArray o).run P w = .ok x w := by
  unfold part
  simp only [Sem.run_bind, L.run_isAgg w, Result.andThen_ok, hg, Bool.false_eq_true, if_false]
  have : vs.toArray[o]? = some x := by simpa using h
  simp [this]
theorem part_agg (w : World) {t : Nat} {ti : TI} (L : Lay P t ti) (hg : ti.isAgg = true) (vs : List Value) (o : Nat) : (part t vs.toArray o).run P w = .ok (.agg ((vs.drop o).take ti.size).toArray) w := by
  unfold part
  simp only [Sem.run_bind, L.run_isAgg w, Result.andThen_ok, hg, if_true, L.run_sizeOf w, Sem.run_pure]
  congr 2
  apply Array.ext'
  rw [Array.toList_extract]
  simp [List.extract_eq_take_drop]
/-- A part of the first cells is that part of all. -/
theorem part_shift (w : World) {t : Nat} {ti : TI} (L : Lay P t ti) {vs : List Value} {o sz : Nat} (h1 : o + ti.size ≤ sz) (h2 : 1 ≤ ti.size) {x : Value} (h : (part t (vs.drop o).toArray 0).run P w = .ok x w) : (part t (vs.take sz).toArray o).run P w = .ok x w := by
  cases hg : ti.isAgg with
  | true =>
    rw [part_agg w L hg] at h ⊢
    rw [← h]
    congr 3
    simp only [List.drop_zero, List.drop_take, List.take_take]
    congr 1
    omega
  | false =>
    have : (vs.drop o)[0]? = some x := by
      unfold part at h
      simp only [Sem.run_bind, L.run_isAgg w, Result.andThen_ok, hg, Bool.false_eq_true, if_false] at h
      cases hv : (vs.drop o)[0]? with
      | none =>
        have : (vs.drop o).toArray[0]? = none := by simpa using hv
        simp [this] at h
      | some z =>
        have : (vs.drop o).toArray[0]? = some z := by simpa using hv
        simp [this] at h
        rw [h]
    refine part_leaf w L hg ?_
    rw [List.getElem?_take, if_pos (by omega)]
    simpa using this
theorem eqK_sound {T : Tab} (hT : TabOk P 0 T) : ∀ (m t : Nat) (cs ds : List D) (vs us : List Value) (K : Bool → Prop) (d : Nat), m ≤ d → RepL c w cs vs → RepL c w ds us → eqK T m t cs ds K →
    ∃ b x y, K b ∧ ∀ w' : World, (part t vs.toArray 0).run P w' = .ok x w' ∧ (part t us.toArray 0).run P w' = .ok y w' ∧ (Op.equalIn d t x y).run P w' = .ok b w'
  | 0, _, _, _, _, _, _, _, _, _, _, h => h.elim
  | m + 1, t, cs, ds, vs, us, K, d, hd, hc, hs, h => by
    unfold eqK at h
    replace h := tiK_open hT h; obtain ⟨ti, L, h⟩ := h
    obtain ⟨d, rfl⟩ : ∃ k, d = k + 1 := ⟨d - 1, by omega⟩
    split at h
    · rename_i k hde
      have hu : P.underlying t = some (.int k) := by rw [L.und, hde]
      have hg : ti.isAgg = false := by unfold TI.isAgg; rw [hde]
      split at h
      · rename_i j a _ k' b _
        cases hb : Nat.beq (knd j) (knd k') with
        | false => simp only [hb, cond_false] at h
        | true =>
          simp only [hb, cond_true] at h
          have := knd_inj hb
          subst this
          unfold RepL at hc hs
          obtain ⟨v, vs', rfl, e1, _⟩ := hc
          obtain ⟨u, us', rfl, e2, _⟩ := hs
          have e1 := rep_v e1
          have e2 := rep_v e2
          subst e1 e2
          exact ⟨_, _, _, h, fun w' => ⟨part_leaf w' L hg rfl, part_leaf w' L hg rfl, run_equalIn_int w' d t _ _ a b hu⟩⟩
      · exact h.elim
    · rename_i hde
      have hu : P.underlying t = some .bool := by rw [L.und, hde]
      have hg : ti.isAgg = false := by unfold TI.isAgg; rw [hde]
      split at h
      · rename_i a _ b _
        unfold RepL at hc hs
        obtain ⟨v, vs', rfl, e1, _⟩ := hc
        obtain ⟨u, us', rfl, e2, _⟩ := hs
        have e1 := rep_v e1
        have e2 := rep_v e2
        subst e1 e2
        exact ⟨_, _, _, h, fun w' => ⟨part_leaf w' L hg rfl, part_leaf w' L hg rfl, run_equalIn_bool' w' d t a b hu⟩⟩
      · exact h.elim
    · rename_i hde
      have hu : P.underlying t = some .string := by rw [L.und, hde]
      have hg : ti.isAgg = false := by unfold TI.isAgg; rw [hde]
      split at h
      · rename_i a _ b _
        unfold RepL at hc hs
        obtain ⟨v, vs', rfl, e1, _⟩ := hc
        obtain ⟨u, us', rfl, e2, _⟩ := hs
        have e1 := rep_v e1
        have e2 := rep_v e2
        subst e1 e2
        exact ⟨_, _, _, h, fun w' => ⟨part_leaf w' L hg rfl, part_leaf w' L hg rfl, run_equalIn_string w' d t a b hu⟩⟩
      · exact h.elim
    · rename_i fs hde
      have hu : P.underlying t = some (.struct fs) := by rw [L.und, hde]
      have hg : ti.isAgg = true := by unfold TI.isAgg; rw [hde]
      have heq := L.eq
      unfold EqFit at heq
      rw [hde] at heq
      simp only at heq
      obtain ⟨hbl, hst, _⟩ := heq
      cases hb : (Nat.ble ti.size cs.length && Nat.ble ti.size ds.length) with
      | false => simp only [hb, cond_false] at h
      | true =>
        simp only [hb, cond_true] at h
        have fields : ∀ (fl : List Field) (K : Bool → Prop), (∀ f ∈ fl, (f.name != "_") = true) → eqFsK T ti.size (fun t cs ds K => eqK T m t cs ds K) fl cs ds K →
            ∃ b, K b ∧ ∀ w' : World, (Op.eqFields d (vs.take ti.size).toArray (us.take ti.size).toArray fl).run P w' = .ok b w' := by
          intro fl
          induction fl with
          | nil => intro K _ h; exact ⟨true, h, fun _ => rfl⟩
          | cons f fl ih =>
            intro K hn h
            unfold eqFsK at h
            replace h := tiK_open hT h; obtain ⟨u, Lu, h⟩ := h
            cases hz : (Nat.ble (f.offset + u.size) ti.size && Nat.ble 1 u.size) with
            | false => simp only [hz, cond_false] at h
            | true =>
              simp only [hz, cond_true] at h
              simp only [Bool.and_eq_true] at hz
              have z1 := Nat.le_of_ble_eq_true hz.1
              have z2 := Nat.le_of_ble_eq_true hz.2
              rw [dropL_eq, dropL_eq] at h
              obtain ⟨b1, x, y, h, hw⟩ := eqK_sound hT m f.type _ _ (vs.drop f.offset) (us.drop f.offset) _ d (by omega) (hc.drop _) (hs.drop _) h
              obtain ⟨b2, h, e2⟩ := ih _ (fun f hf => hn f (List.mem_cons_of_mem _ hf)) h
              refine ⟨_, h, fun w' => ?_⟩
              obtain ⟨x1, y1, e⟩ := hw w'
              have e2 := e2 w'
              have hne : f.name ≠ "_" := by simpa using hn f (List.mem_cons_self ..)
              unfold Op.eqFields
              rw [if_pos hne]
              simp only [Sem.run_bind, part_shift w' Lu z1 z2 x1, part_shift w' Lu z1 z2 y1, e, Result.andThen_ok, Sem.run_ite]
              cases b1
              · simp
              · simpa using e2
        obtain ⟨b, hK, hF⟩ := fields fs.toList K (fun f hf => (Array.all_eq_true_iff_forall_mem.1 hbl) f (by simpa using hf)) h
        refine ⟨b, _, _, hK, fun w' => ⟨part_agg w' L hg vs 0, part_agg w' L hg us 0, ?_⟩⟩
        have hfo : P.fieldsOf t = fs := by unfold Program.fieldsOf; rw [hu]
        rw [run_equalIn_struct w' d t _ _ (by rw [hfo]; exact hu) hst, hfo]
        simpa using hF w'
    · exact h.elim
theorem eqD_sound {T : Tab} (hT : TabOk P 0 T) {op : BinOp} {t : Nat} {x y : D} {ox oy : Operand} {u v : Value} {K : D → Prop} (hx : Rep c w x u) (hy : Rep c w y v) (h : eqD T op t x y K) :
    ∃ z, z.oneCell' = true ∧ K (.f (.v z)) ∧ ∀ w' : World, (do eqGuard op t ox oy u v; binOp op t u v : Sem Value).run P w' = .ok z w' := by
  unfold eqD at h
  split at h
  · rename_i cs ds
    unfold Rep at hx hy
    obtain ⟨vs, rfl, hr⟩ := hx
    obtain ⟨us, rfl, hs⟩ := hy
    replace h := tiK_open hT h; obtain ⟨ti, L, h⟩ := h
    cases hl : (Nat.beq cs.length ti.size && Nat.beq ds.length ti.size) with
    | false => simp only [hl, cond_false] at h
    | true =>
    simp only [hl, cond_true] at h
    simp only [Bool.and_eq_true] at hl
    have l1 : vs.length = ti.size := by rw [hr.length]; exact beq_eq hl.1
    have l2 : us.length = ti.size := by rw [hs.length]; exact beq_eq hl.2
    split at h
    · rename_i fs hde
      have hu : P.underlying t = some (.struct fs) := by rw [L.und, hde]
      have hg : ti.isAgg = true := by unfold TI.isAgg; rw [hde]
      have heq := L.eq
      unfold EqFit at heq
      rw [hde] at heq
      simp only at heq
      have hgd : ∀ w : World, (eqGuard op t ox oy (.agg vs.toArray) (.agg us.toArray)).run P w = .ok () w := fun w => run_eqGuard_agg w op t ox oy _ _ heq.2.2
      have whole : ∀ {w : World} {b : Bool} {x y : Value}, (part t vs.toArray 0).run P w = .ok x w → (part t us.toArray 0).run P w = .ok y w → (Op.equalIn 10000 t x y).run P w = .ok b w → vs.length = ti.size → us.length = ti.size →
          (Op.equalIn 10000 t (.agg vs.toArray) (.agg us.toArray)).run P w = .ok b w := fun h1 h2 h3 l1 l2 => by
        rw [part_agg _ L hg] at h1 h2
        cases h1
        cases h2
        rw [List.drop_zero, List.drop_zero, List.take_of_length_le (by omega), List.take_of_length_le (by omega)] at h3
        exact h3
      split at h
      · obtain ⟨b, x, y, h, hw⟩ := eqK_sound hT 9 t cs ds vs us _ 10000 (by omega) hr hs h
        exact ⟨_, rfl, h, fun w' => by obtain ⟨h1, h2, h3⟩ := hw w'; simp only [Sem.run_bind, hgd, Result.andThen_ok, run_eql_struct, whole h1 h2 h3 l1 l2]⟩
      · obtain ⟨b, x, y, h, hw⟩ := eqK_sound hT 9 t cs ds vs us _ 10000 (by omega) hr hs h
        exact ⟨_, rfl, h, fun w' => by obtain ⟨h1, h2, h3⟩ := hw w'; simp only [Sem.run_bind, hgd, Result.andThen_ok, run_neq_struct, whole h1 h2 h3 l1 l2]⟩
      · exact h.elim
    · exact h.elim
  · exact h.elim
end
end Go.Proofs.Ytdfiegleaknleaa.Aw

