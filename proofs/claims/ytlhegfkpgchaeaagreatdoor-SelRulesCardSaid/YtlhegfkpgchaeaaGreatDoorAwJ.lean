/- Conversions and append on abstract values, and that the machine does just that. -/
import Derived.Test.YtlhegfkpgchaeaaGreatDoorAwI
import Derived.Lib.ConvBytes
import Derived.Laws.IdiomStrings
import Derived.Laws.BytesArg
namespace Go.Proofs.YtlhegfkpgchaeaaGreatDoor.Aw
open Go Go.RowKit
set_option linter.unusedVariables false
set_option linter.unusedSimpArgs false
def convertD (T : Tab) (s t : Nat) (x : D) (E : List D) (H : Hp) (n : Nat) (K : KD) : Prop :=
 tiK T s fun si => tiK T t fun ti => match ti.desc with
  | .int k => (match x with
   | .f (.v (.int _ a)) => Num k a fun r => K (.int k r) E H n
   | _ => False)
  | .string => (match x with
   | .f (.v (.string b)) => K (.str b) E H n
   | .f (.sl es) => (match si.desc with
    | .slice e => tiK T e fun u => (match u.desc with
     | .int .u8 => AsBytes es fun b => K (.str b) E H n
     | _ => False)
    | _ => False)
   | .own _ _ s es => (match si.desc with
    | .slice e => tiK T e fun u => (match u.desc with
     | .int .u8 => Owes (s = 1) (AsBytes es fun b => K (.str b) E H n)
     | _ => False)
    | _ => False)
   | .nil => (match si.desc with
    | .slice e => tiK T e fun u => (match u.desc with
     | .int .u8 => K (.str ⟨#[]⟩) E H n
     | _ => False)
    | _ => False)
   | _ => False)
  | .slice e => (match x with
   | .f (.v (.string b)) => tiK T e fun u => (match u.desc with
    | .int .u8 => Way (K (.f (.sl (b.data.toList.map byteRow))) E H n) (Owes (b.size ≤ 140737488355328) (K (.own n e 1 (b.data.toList.map byteRow)) E H (n + 1)))
    | _ => False)
   | .own k t' sz es => tiK T e fun u => (match u.desc with
    | .int .u8 => Owes (s = t ∧ sz = 1 ∧ es ≠ []) (Way (K (.f (.sl es)) (killL k (killL k E)) (killH k (killH k H)) n) (K (.own k t' sz es) (killL k E) (killH k H) n))
    | _ => False)
   | _ => False)
  | _ => False
section
variable {P : Program} {c : Cx} {w : World} {H : Hp} {n : Nat} {B : Base}
def Cx.newImm (c : Cx) (lo hi : Nat) : Cx := ⟨c.φ, c.τ, fun b => c.imm b ∨ (lo ≤ b ∧ b < hi), c.h, c.n⟩
theorem Con.newImm {w' : World} (h : Con B c w H n) (hb : Below w.heap.size w w') : Con B (c.newImm w.heap.size w'.heap.size) w' H n ∧ Keep c (c.newImm w.heap.size w'.heap.size) w w' none := by
 obtain ⟨h1, k1⟩ := h.grow hb
 have hkeep : Keep c (c.newImm w.heap.size w'.heap.size) w w' none := ⟨fun b hi => ⟨.inl hi, (k1.imm b hi).2⟩, Nat.le_refl _, Nat.le_refl _, fun _ _ => rfl, k1.τ⟩
 have hkeep2 : Keep c (c.newImm w.heap.size w'.heap.size) w' w' none := ⟨fun b hi => ⟨.inl hi, rfl⟩, Nat.le_refl _, Nat.le_refl _, fun _ _ => rfl, fun _ _ _ => ⟨rfl, fun _ _ => rfl⟩⟩
 refine ⟨⟨h1.os, h1.tape, h1.output, h1.size, h1.old, fun b hb => .inl (h1.imm0 b hb), fun b hi => ?_, h1.hlen, h1.nlen, h1.hh, h1.phi, fun j cs hj => ?_, fun j cs hj => ⟨(h1.objM j cs hj).1, fun hi => ?_⟩, h1.inj, fun j b hj => ?_, h1.tagInj, h1.high, h.glob.keep hkeep.imm⟩, hkeep⟩
 ·rcases hi with hi | ⟨h2, h3⟩
  ·exact h1.immB b hi
  ·exact ⟨h3, .inr (.inr (Nat.le_trans h.size h2))⟩
 ·obtain ⟨C, T, e, hr⟩ := h1.objs j cs hj
  exact ⟨C, T, e, hr.mono hkeep2⟩
 ·rcases hi with hi | ⟨h2, h3⟩
  ·exact (h1.objM j cs hj).2 hi
  ·have := h.objLt hj
   have h2' : w.heap.size ≤ c.φ j := h2
   omega
 ·obtain ⟨a1, a2, a3, a4⟩ := h1.tags j b hj
  refine ⟨a1, fun hi => ?_, a3, a4⟩
  rcases hi with hi | ⟨h2, h3⟩
  ·exact a2 hi
  ·have := (h.tags j b hj).1
   omega
theorem repC_byteRow {imm : Nat → Prop} {b o : Nat} {x : UInt8} (h : w.cell? ⟨b, o, none⟩ = some (.int .u8 x.toNat)) : RepC imm w (byteRow x) b o := by
 unfold byteRow RepC
 exact ⟨⟨_, h, by unfold RepF; exact ⟨rfl, rfl⟩⟩, by unfold RepC; trivial⟩
theorem repR_bytes {imm : Nat → Prop} : ∀ (l : List UInt8) (b o : Nat), (∀ j x, l[j]? = some x → w.cell? ⟨b, o + j, none⟩ = some (.int .u8 x.toNat)) → RepR imm w (l.map byteRow) b o
 | [], _, _, _ => by simp [RepR]
 | x :: l, b, o, h => by
  simp only [List.map_cons]
  unfold RepR
  refine ⟨repC_byteRow (h 0 x rfl), ?_⟩
  have : (byteRow x).length = 1 := rfl
  rw [this]
  exact repR_bytes l b (o + 1) (fun j y hy => by rw [show o + 1 + j = o + (j + 1) by omega]; exact h (j + 1) y (by simpa using hy))
theorem run_strBytes (hC : Con B c w H n) (e : TypeId) (b : ByteArray) :
  ∃ v c' w', (Conv.stringToBytes e b).run P w = .ok v w' ∧ Con B c' w' H n ∧ Keep c c' w w' none ∧ Rep c' w' (.f (.sl (b.data.toList.map byteRow))) v := by
 let cap := grownCap w b.size 0 e
 have hcap : b.size ≤ cap := grownCap_ge w b.size 0 e
 let elems : Array Value := b.data.map fun x => .int .u8 x.toNat
 let row : Array Value := elems ++ Array.replicate (cap - b.size) (.int .u8 0)
 have hrow : row.size = cap := by
  show (elems ++ _).size = _
  have : elems.size = b.size := by simp [elems]
  rw [Array.size_append, this, Array.size_replicate]
  omega
 let w1 := w.drew.alloc (.cells row e)
 let w' := w1.freeze ⟨w.heap.size, row.size, none⟩ 1
 have hb1 : Below w.heap.size w w1 := ((Below.refl _ _).drew).alloc (Nat.le_refl _) _
 have hblk : w'.heap[w.heap.size]? = some (.cells row e (row.size, row.size + 1)) := by
  show (w1.freeze _ 1).heap[w.heap.size]? = _
  unfold World.freeze
  rw [if_neg (by omega)]
  simp only [Array.getElem?_modify, if_true]
  have : w1.heap[w.heap.size]? = some (.cells row e (0, 0)) := heap_alloc_last w.drew _
  rw [this]
  rfl
 have hoth : ∀ k, k ≠ w.heap.size → w'.heap[k]? = w1.heap[k]? := fun k hk => by
  show (w1.freeze _ 1).heap[k]? = _
  unfold World.freeze
  rw [if_neg (by omega)]
  simp only [Array.getElem?_modify]
  rw [if_neg (by omega)]
 have hsz : w'.heap.size = w1.heap.size := by
  show (w1.freeze _ 1).heap.size = _
  unfold World.freeze
  rw [if_neg (by omega)]
  simp
 have hos : w'.os = w1.os ∧ w'.tape = w1.tape ∧ w'.output = w1.output := by
  show (w1.freeze _ 1).os = _ ∧ (w1.freeze _ 1).tape = _ ∧ (w1.freeze _ 1).output = _
  unfold World.freeze
  rw [if_neg (by omega)]
  exact ⟨rfl, rfl, rfl⟩
 have hbel : Below w.heap.size w w' := ⟨hos.1.trans hb1.os, hos.2.1.trans hb1.tape, hos.2.2.trans hb1.output, by rw [hsz]; exact hb1.size, fun k hk => by rw [hoth k (by omega)]; exact hb1.block k hk⟩
 obtain ⟨hC', hk⟩ := hC.newImm hbel
 refine ⟨.slice (some ⟨w.heap.size, 0, none⟩) b.size cap, _, w', ?_, hC', hk, ?_⟩
 ·have hsh : w1.shape? w.heap.size = some (e, row.size) := by
   unfold World.shape?
   have : w1.heap[w.heap.size]? = some (.cells row e (0, 0)) := heap_alloc_last w.drew _
   rw [this]
  have hcc : (choose (.appendCap b.size 0 e)).run P w = .ok cap w.drew := by
   simp [Question.forced]
   rfl
  simp only [Conv.stringToBytes, Sem.run_bind, hcc, Result.andThen_ok, newRow, run_newObj, Sem.run_pure, markStringish, run_shape]
  show (((match w1.shape? w.heap.size with
   | some (_, n) => freeze { block := w.heap.size, off := n } 1
   | _ => pure () : Sem Unit)).run P w1).andThen _ = _
  rw [hsh]
  rfl
 ·unfold Rep RepF
  have hl : (b.data.toList.map byteRow).length = b.size := by simp
  refine .inr ⟨w.heap.size, 0, cap, by rw [hl], by rw [hl]; exact hcap, .inr ⟨Nat.le_refl _, by rw [hsz]; simp [w1]⟩, repR_bytes _ _ _ (fun j x hx => ?_)⟩
  rw [cell_of_row w' _ _ row e _ hblk]
  show (elems ++ _)[0 + j]? = _
  have hj : j < b.data.size := by
   have := (List.getElem?_eq_some_iff.1 hx).1
   simpa using this
  rw [Nat.zero_add, Array.getElem?_append_left (by simpa [elems] using hj)]
  have hx' : b.data[j]? = some x := by simpa using hx
  simp [elems, hx']
theorem repR_bytes_cell {imm : Nat → Prop} : ∀ (l : List UInt8) (b o : Nat), RepR imm w (l.map byteRow) b o → ∀ j (hj : j < l.length), w.cell? ⟨b, o + j, none⟩ = some (.int .u8 (l[j].toNat : Int))
 | [], _, _, _, j, hj => by simp at hj
 | x :: l, b, o, h, j, hj => by
  simp only [List.map_cons] at h
  unfold RepR at h
  cases j with
  | zero =>
   have := h.1
   unfold byteRow RepC at this
   obtain ⟨⟨y, h1, h2⟩, _⟩ := this
   have := repF_v h2
   subst this
   exact h1
  | succ j =>
   have := repR_bytes_cell l b (o + 1) h.2 j (by simpa using hj)
   rw [show o + (j + 1) = o + 1 + j by omega]
   simpa using this
theorem repRows_bytes {imm : Nat → Prop} {w : World} : ∀ (l : List UInt8) (xs : List Value), RepRows imm w 1 (l.map byteRow) xs → xs = l.map fun x => Value.int .u8 x.toNat
 | [], xs, h => by unfold RepRows at h; exact h
 | x :: l, xs, h => by
  simp only [List.map_cons] at h
  unfold RepRows at h
  obtain ⟨ys, zs, rfl, _, h1, h2⟩ := h
  unfold byteRow RepFs at h1
  obtain ⟨v, vs', rfl, h3, h4⟩ := h1
  unfold RepFs at h4
  subst h4
  have := repF_v h3
  subst this
  rw [repRows_bytes l zs h2]
  rfl
theorem freeze_mark (fz : Nat × Nat) (sz : Nat) (h : Marked fz sz) : Marked (if fz.1 == fz.2 then (sz, sz + 1) else (min fz.1 sz, max fz.2 (sz + 1))) sz := by
 rcases h with rfl | h
 ·exact .inr (Nat.le_refl _)
 ·split
  ·exact .inr (Nat.le_refl _)
  ·exact .inr (by dsimp only; omega)
theorem mark_run {v : Value} {t : Nat} {es : List (List F)} {xs : List Value} (how : ownsM w 0 t 1 v es.length xs) {e : TypeId} (hue : P.underlying e = some (.int .u8)) {st : TypeId} (hus : P.underlying st = some (.slice e)) (hne : es ≠ []) :
  ∃ w', (convert st st v).run P w = .ok v w' ∧ w.grownBy w' (blk v) ∧ w'.heap.size = w.heap.size ∧ ownsM w' 0 t 1 v es.length xs := by
 rcases how.2 with ⟨h1, h0⟩ | ⟨g, cap, cur, hτ, hb0, ⟨fz, hfz, hh⟩, hc, hm, hsz, htake⟩
 ·exact absurd (List.eq_nil_of_length_eq_zero h0) hne
 let w' := w.freeze ⟨g, cur.size, none⟩ 1
 have hblk : w'.heap[g]? = some (.cells cur t (if fz.1 == fz.2 then (cur.size, cur.size + 1) else (min fz.1 cur.size, max fz.2 (cur.size + 1)))) := by
  show (w.freeze _ 1).heap[g]? = _
  unfold World.freeze
  rw [if_neg (by omega)]
  simp only [Array.getElem?_modify, if_true]
  rw [hh]
  rfl
 have hoth : ∀ j, j ≠ g → w'.heap[j]? = w.heap[j]? := fun j hj => by
  show (w.freeze _ 1).heap[j]? = _
  unfold World.freeze
  rw [if_neg (by omega)]
  simp only [Array.getElem?_modify]
  rw [if_neg (by omega)]
 have hsz' : w'.heap.size = w.heap.size := by
  show (w.freeze _ 1).heap.size = _
  unfold World.freeze
  rw [if_neg (by omega)]
  simp
 have hos : w'.os = w.os ∧ w'.tape = w.tape ∧ w'.output = w.output := by
  show (w.freeze _ 1).os = _ ∧ (w.freeze _ 1).tape = _ ∧ (w.freeze _ 1).output = _
  unfold World.freeze
  rw [if_neg (by omega)]
  exact ⟨rfl, rfl, rfl⟩
 have hb : blk v = some g := by rw [hτ]; rfl
 have hg : w.grownBy w' (blk v) := ⟨hos.1, hos.2.1, hos.2.2, by rw [hsz']; exact Nat.le_refl _, fun j hj hn => hoth j (fun e => hn (by rw [hb, e]))⟩
 refine ⟨w', ?_, hg, hsz', how.1, .inr ⟨g, cap, cur, hτ, hb0, ⟨_, freeze_mark fz _ hfz, hblk⟩, hc, hm, hsz, htake⟩⟩
 have hsh : w.shape? g = some (t, cur.size) := by
  unfold World.shape?
  rw [hh]
 rw [hτ]
 simp only [convert, Sem.run_bind, run_underlying hus, run_underlying hue, Result.andThen_ok, beq_self_eq_true, markStringish, run_shape]
 show ((((match w.shape? g with
  | some (_, n) => freeze { block := g, off := n } 1
  | _ => pure () : Sem Unit)).run P w).andThen _) = _
 rw [hsh]
 rfl
theorem mark_own (hC : Con B c w H n) {k t s : Nat} {es : List (List F)} (hk : k < n) (hO : OwnOk c.imm w (c.τ k) t s es) {e : TypeId} (hue : P.underlying e = some (.int .u8)) {st : TypeId} (hus : P.underlying st = some (.slice e)) (hne : es ≠ []) (hs : s = 1) :
  ∃ w', (convert st st (c.τ k)).run P w = .ok (c.τ k) w' ∧
   (∃ c', Con B c' w' (killH k H) n ∧ (∀ E vs, RepL c w E vs → RepL c' w' (killL k E) vs) ∧ Rep c' w' (.own k t s es) (c.τ k)) ∧
   ∃ c', Con B c' w' (killH k (killH k H)) n ∧ (∀ E vs, RepL c w E vs → RepL c' w' (killL k (killL k E)) vs) ∧ Rep c' w' (.f (.sl es)) (c.τ k) := by
 subst hs
 obtain ⟨hs, xs, how, hr⟩ := hO
 obtain ⟨w', hrun, hg, hsz', how'⟩ := mark_run (P := P) how hue hus hne
 obtain ⟨hC1, hk1⟩ := hC.retag hk hg (v := c.τ k) (fun b hb' => ⟨by rw [hsz']; exact (how.lt b hb').2, .inl hb'⟩)
 have hO' : OwnOk (c.retag k (c.τ k)).imm w' ((c.retag k (c.τ k)).τ k) t 1 es := ⟨hs, xs, by rw [Cx.retag_same]; exact how', hr.mono hk1.imm⟩
 refine ⟨w', hrun, ⟨_, hC1, fun E vs hE => RepL.kill hk1 _ _ hE, ?_⟩, ?_⟩
 ·unfold Rep
  exact ⟨by rw [hC1.nlen]; exact hk, by rw [Cx.retag_same], hO'⟩
 ·obtain ⟨hC2, hk2⟩ := hC1.freeze (k := k)
  refine ⟨_, hC2, fun E vs hE => RepL.kill hk2 _ _ (RepL.kill hk1 _ _ hE), ?_⟩
  unfold Rep
  have := hO'.toF (imm' := ((c.retag k (c.τ k)).freeze k).imm) hk2.imm (fun b hb => .inr hb)
  rw [Cx.retag_same] at this
  exact this
theorem run_strBytesO (hC : Con B c w H n) (e : TypeId) (b : ByteArray) {v : Value} {w' : World} (hrun : (Conv.stringToBytes e b).run P w = .ok v w') (hbig : b.size ≤ 140737488355328) :
  ∃ c', Con B c' w' H (n + 1) ∧ Keep c c' w w' none ∧ Rep c' w' (.own n e 1 (b.data.toList.map byteRow)) v := by
 let cap := grownCap w b.size 0 e
 have hcap : b.size ≤ cap := grownCap_ge w b.size 0 e
 have hcm : cap ≤ maxLen := grownCap_le_maxLen w b.size 0 e (by unfold maxLen; omega)
 let elems : Array Value := b.data.map fun x => .int .u8 x.toNat
 let row : Array Value := elems ++ Array.replicate (cap - b.size) (.int .u8 0)
 have hel : elems.size = b.size := by simp [elems]
 have hrow : row.size = cap := by
  show (elems ++ _).size = _
  rw [Array.size_append, hel, Array.size_replicate]
  omega
 let w1 := w.drew.alloc (.cells row e)
 let w2 := w1.freeze ⟨w.heap.size, row.size, none⟩ 1
 have hb1 : Below w.heap.size w w1 := ((Below.refl _ _).drew).alloc (Nat.le_refl _) _
 have hblk : w2.heap[w.heap.size]? = some (.cells row e (row.size, row.size + 1)) := by
  show (w1.freeze _ 1).heap[w.heap.size]? = _
  unfold World.freeze
  rw [if_neg (by omega)]
  simp only [Array.getElem?_modify, if_true]
  have : w1.heap[w.heap.size]? = some (.cells row e (0, 0)) := heap_alloc_last w.drew _
  rw [this]
  rfl
 have hoth : ∀ k, k ≠ w.heap.size → w2.heap[k]? = w1.heap[k]? := fun k hk => by
  show (w1.freeze _ 1).heap[k]? = _
  unfold World.freeze
  rw [if_neg (by omega)]
  simp only [Array.getElem?_modify]
  rw [if_neg (by omega)]
 have hsz : w2.heap.size = w1.heap.size := by
  show (w1.freeze _ 1).heap.size = _
  unfold World.freeze
  rw [if_neg (by omega)]
  simp
 have hos : w2.os = w1.os ∧ w2.tape = w1.tape ∧ w2.output = w1.output := by
  show (w1.freeze _ 1).os = _ ∧ (w1.freeze _ 1).tape = _ ∧ (w1.freeze _ 1).output = _
  unfold World.freeze
  rw [if_neg (by omega)]
  exact ⟨rfl, rfl, rfl⟩
 have hbel : Below w.heap.size w w2 := ⟨hos.1.trans hb1.os, hos.2.1.trans hb1.tape, hos.2.2.trans hb1.output, by rw [hsz]; exact hb1.size, fun k hk => by rw [hoth k (by omega)]; exact hb1.block k hk⟩
 have hrun2 : (Conv.stringToBytes e b).run P w = .ok (.slice (some ⟨w.heap.size, 0, none⟩) b.size cap) w2 := by
  have hsh : w1.shape? w.heap.size = some (e, row.size) := by
   unfold World.shape?
   have : w1.heap[w.heap.size]? = some (.cells row e (0, 0)) := heap_alloc_last w.drew _
   rw [this]
  have hcc : (choose (.appendCap b.size 0 e)).run P w = .ok cap w.drew := by
   simp [Question.forced]
   rfl
  simp only [Conv.stringToBytes, Sem.run_bind, hcc, Result.andThen_ok, newRow, run_newObj, Sem.run_pure, markStringish, run_shape]
  show (((match w1.shape? w.heap.size with
   | some (_, n) => freeze { block := w.heap.size, off := n } 1
   | _ => pure () : Sem Unit)).run P w1).andThen _ = _
  rw [hsh]
  rfl
 rw [hrun] at hrun2
 simp only [Result.ok.injEq] at hrun2
 obtain ⟨hv0, hw0⟩ := hrun2
 rw [hv0, hw0]
 obtain ⟨hC', hk⟩ := hC.newTag (v := .slice (some ⟨w.heap.size, 0, none⟩) b.size cap) hbel (fun q hq => by
  have e0 : w.heap.size = q := by simpa [blk, Value.ownBlock] using hq
  subst e0
  exact ⟨Nat.le_refl _, (Array.getElem?_eq_some_iff.1 hblk).1⟩)
 refine ⟨_, hC', hk, ?_⟩
 have hnn := hC.nlen
 subst hnn
 unfold Rep
 refine ⟨Nat.lt_succ_self _, (c.newTag_same _).symm, Nat.zero_lt_one, b.data.toList.map (fun x => Value.int .u8 x.toNat), ?_, ?_⟩
 ·rw [c.newTag_same, List.length_map]
  refine ⟨by simp, .inr ⟨w.heap.size, cap, row, rfl, Nat.zero_le _, ⟨_, .inr (Nat.le_refl _), hblk⟩, hcap, hcm, by rw [hrow, Nat.mul_one], ?_⟩⟩
  show (elems ++ Array.replicate (cap - b.size) (Value.int .u8 0)).toList.take _ = _
  rw [Array.toList_append, List.take_append_of_le_length (by simp [elems]), List.take_of_length_le (by simp [elems])]
  simp [elems]
 ·have : ∀ l : List UInt8, RepRows (c.newTag (.slice (some ⟨w.heap.size, 0, none⟩) b.size cap)).imm w2 1 (l.map byteRow) (l.map fun b => Value.int .u8 b.toNat) := by
   intro l
   induction l with
   | nil => simp [RepRows]
   | cons x l ih =>
    simp only [List.map_cons]
    unfold RepRows
    refine ⟨[.int .u8 x.toNat], _, rfl, rfl, ?_, ih⟩
    unfold byteRow RepFs RepF
    exact ⟨_, [], rfl, ⟨rfl, rfl⟩, by unfold RepFs; rfl⟩
  exact this _
theorem convertD_sound {T : Tab} (hT : TabOk P 0 T) (hC : Con B c w H n) {E : List D} {a : Act} (hE : RepL c w E a.tmps.toList) {s t : Nat} {x : D} {v : Value} (hx : Rep c w x v) {K : KD} (h : convertD T s t x E H n K) :
  ∃ d u E' H' n' c' w', K d E' H' n' ∧ (convert s t v).run P w = .ok u w' ∧ Con B c' w' H' n' ∧ RepL c' w' E' a.tmps.toList ∧ Rep c' w' d u := by
 unfold convertD at h
 replace h := tiK_open hT h; obtain ⟨si, Ls, h⟩ := h
 replace h := tiK_open hT h; obtain ⟨ti, Lt, h⟩ := h
 split at h
 ·rename_i k hd
  have hu : P.underlying t = some (.int k) := by rw [Lt.und, hd]
  split at h
  ·have e1 := rep_v hx
   subst e1
   exact ⟨_, _, _, _, _, c, w, Num.open h, by simp [convert, Ls.run_underlying w, run_underlying hu, Conv.intToInt], hC, hE, rep_of _ rfl⟩
  ·exact h.elim
 ·rename_i hd
  have hu : P.underlying t = some .string := by rw [Lt.und, hd]
  split at h
  ·have e1 := rep_v hx
   subst e1
   refine ⟨_, _, _, _, _, c, w, h, ?_, hC, hE, rep_of _ rfl⟩
   cases hsd : si.desc <;> simp [convert, Ls.run_underlying w, hsd, run_underlying hu]
  ·rename_i es
   split at h
   ·rename_i e hsd
    have hus : P.underlying s = some (.slice e) := by rw [Ls.und, hsd]
    replace h := tiK_open hT h; obtain ⟨u, Lu, h⟩ := h
    split at h
    ·rename_i hud
     have hue : P.underlying e = some (.int .u8) := by rw [Lu.und, hud]
     replace h := AsBytes.open h
     obtain ⟨bs, rfl, h⟩ := h
     unfold Rep RepF at hx
     rcases hx with ⟨⟨a0, rfl⟩, hes⟩ | ⟨b, o, cap, rfl, hc, him, hr⟩
     ·have : bs = [] := by simpa using hes
      subst this
      cases a0 with
      | none => exact ⟨_, _, _, _, _, c, w, h, run_convert_bytes_nil w s e hus hue 0 0 t hu, hC, hE, rep_of _ rfl⟩
      | some a0 => exact ⟨_, _, _, _, _, c, w, h, run_convert_bytes_back w s t e a0 0 [] hus hue hu (fun j hj => absurd hj (Nat.not_lt_zero _)), hC, hE, rep_of _ rfl⟩
     ·refine ⟨_, _, _, _, _, c, w, h, ?_, hC, hE, rep_of _ rfl⟩
      rw [List.length_map]
      exact run_convert_bytes_back w s t e ⟨b, o, none⟩ cap bs hus hue hu (fun j hj => by rw [addr_add]; exact repR_bytes_cell bs b o hr j hj)
    ·exact h.elim
   ·exact h.elim
  ·rename_i k t' sz es
   split at h
   ·rename_i e hsd
    have hus : P.underlying s = some (.slice e) := by rw [Ls.und, hsd]
    replace h := tiK_open hT h; obtain ⟨u, Lu, h⟩ := h
    split at h
    ·rename_i hud
     have hue : P.underlying e = some (.int .u8) := by rw [Lu.und, hud]
     replace h := Owes.open h
     obtain ⟨rfl, h⟩ := h
     replace h := AsBytes.open h
     obtain ⟨bs, rfl, h⟩ := h
     unfold Rep at hx
     obtain ⟨hk, rfl, hs, xs, how, hrow⟩ := hx
     have hxs := repRows_bytes bs xs hrow
     rcases how.2 with ⟨h1, h0⟩ | ⟨g, cap, cur, e1, _, ⟨fz, _, hh⟩, _, _, _, htake⟩
     ·have : bs = [] := List.eq_nil_of_length_eq_zero (by simpa using h0)
      subst this
      exact ⟨_, _, _, _, _, c, w, h, by rw [h1]; exact run_convert_bytes_nil w s e hus hue 0 0 t hu, hC, hE, rep_of _ rfl⟩
     ·refine ⟨_, _, _, _, _, c, w, h, ?_, hC, hE, rep_of _ rfl⟩
      rw [e1, List.length_map]
      refine run_convert_bytes_back w s t e ⟨g, 0, none⟩ cap bs hus hue hu (fun j hj => ?_)
      rw [addr_add, cell_of_row w _ _ cur _ fz hh, Nat.zero_add]
      have : (xs[j]?) = some (.int .u8 (bs[j].toNat : Int)) := by rw [hxs]; simp [hj]
      rw [← htake, List.getElem?_take] at this
      split at this
      ·simpa using this
      ·cases this
    ·exact h.elim
   ·exact h.elim
  ·split at h
   ·rename_i e hsd
    have hus : P.underlying s = some (.slice e) := by rw [Ls.und, hsd]
    replace h := tiK_open hT h; obtain ⟨u, Lu, h⟩ := h
    split at h
    ·rename_i hud
     have hue : P.underlying e = some (.int .u8) := by rw [Lu.und, hud]
     unfold Rep at hx
     subst hx
     exact ⟨_, _, _, _, _, c, w, h, run_convert_bytes_nil w s e hus hue 0 0 t hu, hC, hE, rep_of _ rfl⟩
    ·exact h.elim
   ·exact h.elim
  ·exact h.elim
 ·rename_i e hd
  have hu : P.underlying t = some (.slice e) := by rw [Lt.und, hd]
  split at h
  ·rename_i b
   replace h := tiK_open hT h; obtain ⟨u, Lu, h⟩ := h
   split at h
   ·rename_i hud
    have hue : P.underlying e = some (.int .u8) := by rw [Lu.und, hud]
    have e1 := rep_v hx
    subst e1
    obtain ⟨v, c', w', hr, hC', hk, hv⟩ := run_strBytes (P := P) hC e b
    have hrun : (convert s t (.string b)).run P w = .ok v w' := by
     cases hsd : si.desc <;> simp [convert, Ls.run_underlying w, hsd, run_underlying hu, run_underlying hue, hr]
    rcases Way.open h with h | h
    ·exact ⟨_, v, _, _, _, c', w', h, hrun, hC', hE.mono hk, hv⟩
    ·replace h := Owes.open h
     obtain ⟨hbig, h⟩ := h
     obtain ⟨c2, hC2, hk2, hv2⟩ := run_strBytesO (P := P) hC e b hr hbig
     exact ⟨_, v, _, _, _, c2, w', h, hrun, hC2, hE.mono hk2, hv2⟩
   ·exact h.elim
  ·rename_i k t' sz es
   replace h := tiK_open hT h; obtain ⟨u, Lu, h⟩ := h
   split at h
   ·rename_i hud
    have hue : P.underlying e = some (.int .u8) := by rw [Lu.und, hud]
    replace h := Owes.open h
    obtain ⟨⟨rfl, rfl, hne⟩, h⟩ := h
    unfold Rep at hx
    obtain ⟨hk, rfl, hO⟩ := hx
    obtain ⟨w', h1, ⟨c1, g2, g3, g4⟩, ⟨c', h2, h3, h4⟩⟩ := mark_own (P := P) hC (by rw [← hC.nlen]; exact hk) hO hue hu hne rfl
    rcases Way.open h with h | h
    ·exact ⟨_, _, _, _, _, c', w', h, h1, h2, h3 _ _ hE, h4⟩
    ·exact ⟨_, _, _, _, _, c1, w', h, h1, g2, g3 _ _ hE, g4⟩
   ·exact h.elim
  ·exact h.elim
 ·exact h.elim
end
end Go.Proofs.YtlhegfkpgchaeaaGreatDoor.Aw
