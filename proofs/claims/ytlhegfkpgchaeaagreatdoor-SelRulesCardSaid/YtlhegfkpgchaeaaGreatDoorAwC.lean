/- What a function's state says of a world, and what an operation, a text and a call are to do. -/
import Derived.Test.YtlhegfkpgchaeaaGreatDoorAwGl
import Derived.Laws.Tables
import Derived.Laws.CopyRow
namespace Go.Proofs.YtlhegfkpgchaeaaGreatDoor.Aw
open Go Go.RowKit
set_option linter.unusedVariables false
structure Base where
 w0 : World
 m0 : Nat → Prop
 i0 : Nat → Prop
 φ0 : Nat → Nat
 h0 : Nat
structure Con (B : Base) (c : Cx) (w : World) (H : Hp) (n : Nat) : Prop where
 os : w.os = B.w0.os
 tape : w.tape = B.w0.tape
 output : w.output = B.w0.output
 size : B.w0.heap.size ≤ w.heap.size
 old : ∀ b, b < B.w0.heap.size → ¬ B.m0 b → w.heap[b]? = B.w0.heap[b]?
 imm0 : ∀ b, B.i0 b → c.imm b
 immB : ∀ b, c.imm b → b < w.heap.size ∧ (B.i0 b ∨ B.m0 b ∨ B.w0.heap.size ≤ b)
 hlen : c.h = H.length
 nlen : c.n = n
 hh : B.h0 ≤ c.h
 phi : ∀ k, k < B.h0 → c.φ k = B.φ0 k
 objs : ∀ k cs, H[k]? = some (some cs) → ∃ C T, w.heap[c.φ k]? = some (.cells C T (0, 0)) ∧ RepL c w cs C.toList
 objM : ∀ k cs, H[k]? = some (some cs) → (B.m0 (c.φ k) ∨ B.w0.heap.size ≤ c.φ k) ∧ ¬ c.imm (c.φ k)
 inj : ∀ j k cs ds, H[j]? = some (some cs) → H[k]? = some (some ds) → c.φ j = c.φ k → j = k
 tags : ∀ k b, blk (c.τ k) = some b → b < w.heap.size ∧ ¬ c.imm b ∧ (B.m0 b ∨ B.w0.heap.size ≤ b) ∧ ∀ j cs, H[j]? = some (some cs) → c.φ j ≠ b
 tagInj : ∀ j k b, blk (c.τ j) = some b → blk (c.τ k) = some b → j = k
 high : ∀ k, n ≤ k → c.τ k = nilS
 glob : Glob c.imm w
theorem Con.objLt {B : Base} {c : Cx} {w : World} {H : Hp} {n : Nat} (h : Con B c w H n) {k : Nat} {cs : Cells} (hk : H[k]? = some (some cs)) : c.φ k < w.heap.size := by
 obtain ⟨C, T, e, _⟩ := h.objs k cs hk
 exact (Array.getElem?_eq_some_iff.1 e).1
theorem Con.grow {B : Base} {c : Cx} {w w' : World} {H : Hp} {n : Nat} (h : Con B c w H n) (hb : Below w.heap.size w w') : Con B c w' H n ∧ Keep c c w w' none := by
 have hsame : ∀ b, b < w.heap.size → w'.heap[b]? = w.heap[b]? := hb.block
 have hkeep : Keep c c w w' none := ⟨fun b hi => ⟨hi, hsame b (h.immB b hi).1⟩, Nat.le_refl _, Nat.le_refl _, fun _ _ => rfl, fun j _ _ => ⟨rfl, fun b hb' => hsame b (h.tags j b hb').1⟩⟩
 refine ⟨⟨hb.os.trans h.os, hb.tape.trans h.tape, hb.output.trans h.output, Nat.le_trans h.size hb.size, fun b hb1 hm => ?_, h.imm0, fun b hi => ?_, h.hlen, h.nlen, h.hh, h.phi, fun k cs hk => ?_, h.objM, h.inj, fun k b hb1 => ?_, h.tagInj, h.high, h.glob.keep hkeep.imm⟩, hkeep⟩
 ·rw [hsame b (Nat.lt_of_lt_of_le hb1 h.size)]; exact h.old b hb1 hm
 ·obtain ⟨h1, h2⟩ := h.immB b hi
  exact ⟨Nat.lt_of_lt_of_le h1 hb.size, h2⟩
 ·obtain ⟨C, T, e, hr⟩ := h.objs k cs hk
  exact ⟨C, T, by rw [hsame _ (h.objLt hk)]; exact e, hr.mono hkeep⟩
 ·obtain ⟨h1, h2⟩ := h.tags k b hb1
  exact ⟨Nat.lt_of_lt_of_le h1 hb.size, h2⟩
def Cx.push (c : Cx) (b : Nat) : Cx := ⟨fun k => if k = c.h then b else c.φ k, c.τ, c.imm, c.h + 1, c.n⟩
theorem getElem?_push_last {α : Type} (l : List α) (x : α) (k : Nat) (y : α) (h : (l ++ [x])[k]? = some y) : (k < l.length ∧ l[k]? = some y) ∨ (k = l.length ∧ y = x) := by
 rcases Nat.lt_or_ge k l.length with hk | hk
 ·exact .inl ⟨hk, by rwa [List.getElem?_append_left hk] at h⟩
 ·right
  rw [List.getElem?_append_right hk] at h
  have : k - l.length = 0 := by
   rcases Nat.eq_zero_or_pos (k - l.length) with h0 | h0
   ·exact h0
   ·rw [List.getElem?_eq_none (by simp; omega)] at h; cases h
  rw [this] at h
  simp at h
  exact ⟨by omega, h.symm⟩
theorem heap_alloc_last (w : World) (o : Obj) : (w.alloc o).heap[w.heap.size]? = some o := by
 show (w.heap.push o)[w.heap.size]? = _
 simp
theorem Con.push {B : Base} {c : Cx} {w : World} {H : Hp} {n : Nat} (h : Con B c w H n) {cs : Cells} {C : Array Value} {T : TypeId} (hr : RepL c w cs C.toList) :
  Con B (c.push w.heap.size) (w.alloc (.cells C T)) (H ++ [some cs]) n ∧ Keep c (c.push w.heap.size) w (w.alloc (.cells C T)) none := by
 have hbel : Below w.heap.size w (w.alloc (.cells C T)) := (Below.refl _ _).alloc (Nat.le_refl _) _
 have hφ : ∀ j, j < c.h → (c.push w.heap.size).φ j = c.φ j := fun j hj => by
  show (if j = c.h then _ else _) = _
  rw [if_neg (by omega)]
 have hφh : (c.push w.heap.size).φ c.h = w.heap.size := by
  show (if c.h = c.h then _ else _) = _
  rw [if_pos rfl]
 have hkeep : Keep c (c.push w.heap.size) w (w.alloc (.cells C T)) none :=
  ⟨fun b hi => ⟨hi, hbel.block b (h.immB b hi).1⟩, Nat.le_succ _, Nat.le_refl _, hφ, fun j _ _ => ⟨rfl, fun b hb' => hbel.block b (h.tags j b hb').1⟩⟩
 have hlt : ∀ k cs', H[k]? = some (some cs') → k < c.h := fun k cs' hk => by rw [h.hlen]; exact (List.getElem?_eq_some_iff.1 hk).1
 refine ⟨⟨h.os, h.tape, h.output, Nat.le_trans h.size hbel.size, fun b hb1 hm => ?_, h.imm0, fun b hi => ?_, ?_, h.nlen, Nat.le_succ_of_le h.hh, fun k hk => ?_, fun k cs' hk => ?_, fun k cs' hk => ?_, fun j k cs' ds hj hk he => ?_, fun k b hb1 => ?_, h.tagInj, h.high, h.glob.keep hkeep.imm⟩, hkeep⟩
 ·rw [hbel.block b (Nat.lt_of_lt_of_le hb1 h.size)]; exact h.old b hb1 hm
 ·obtain ⟨h1, h2⟩ := h.immB b hi
  exact ⟨Nat.lt_of_lt_of_le h1 hbel.size, h2⟩
 ·show c.h + 1 = _
  simp [h.hlen]
 ·rw [hφ k (Nat.lt_of_lt_of_le hk h.hh)]; exact h.phi k hk
 ·rcases getElem?_push_last _ _ _ _ hk with ⟨hk1, hk2⟩ | ⟨hk1, hk2⟩
  ·obtain ⟨C', T', e, hr'⟩ := h.objs k cs' hk2
   rw [hφ k (hlt k cs' hk2)]
   exact ⟨C', T', by rw [hbel.block _ (h.objLt hk2)]; exact e, hr'.mono hkeep⟩
  ·cases hk2
   rw [hk1, ← h.hlen, hφh]
   exact ⟨C, T, heap_alloc_last w _, hr.mono hkeep⟩
 ·rcases getElem?_push_last _ _ _ _ hk with ⟨hk1, hk2⟩ | ⟨hk1, hk2⟩
  ·rw [hφ k (hlt k cs' hk2)]; exact h.objM k cs' hk2
  ·rw [hk1, ← h.hlen, hφh]
   exact ⟨.inr h.size, fun hi => absurd (h.immB _ hi).1 (Nat.lt_irrefl _)⟩
 ·rcases getElem?_push_last _ _ _ _ hj with ⟨hj1, hj2⟩ | ⟨hj1, hj2⟩ <;> rcases getElem?_push_last _ _ _ _ hk with ⟨hk1, hk2⟩ | ⟨hk1, hk2⟩
  ·rw [hφ j (hlt j cs' hj2), hφ k (hlt k ds hk2)] at he
   exact h.inj j k cs' ds hj2 hk2 he
  ·rw [hφ j (hlt j cs' hj2), hk1, ← h.hlen, hφh] at he
   have := h.objLt hj2
   omega
  ·rw [hj1, ← h.hlen, hφh, hφ k (hlt k ds hk2)] at he
   have := h.objLt hk2
   omega
  ·omega
 ·obtain ⟨h1, h2, h3, h4⟩ := h.tags k b hb1
  refine ⟨Nat.lt_of_lt_of_le h1 hbel.size, h2, h3, fun j cs' hj => ?_⟩
  rcases getElem?_push_last _ _ _ _ hj with ⟨hj1, hj2⟩ | ⟨hj1, hj2⟩
  ·rw [hφ j (hlt j cs' hj2)]; exact h4 j cs' hj2
  ·rw [hj1, ← h.hlen, hφh]; omega
theorem Con.write {B : Base} {c : Cx} {w : World} {H : Hp} {n k : Nat} (h : Con B c w H n) {cs cs' : Cells} (hk : H[k]? = some (some cs)) {C' : Array Value} (hr : RepL c w cs' C'.toList) :
  Con B c (w.setRow (c.φ k) C') (H.set k (some cs')) n ∧ Keep c c w (w.setRow (c.φ k) C') none := by
 obtain ⟨C, T, e, _⟩ := h.objs k cs hk
 have hoth : ∀ b, b ≠ c.φ k → (w.setRow (c.φ k) C').heap[b]? = w.heap[b]? := fun b hb => setRow_other w _ b C' hb
 have hkeep : Keep c c w (w.setRow (c.φ k) C') none :=
  ⟨fun b hi => ⟨hi, hoth b (fun e => (h.objM k cs hk).2 (e ▸ hi))⟩, Nat.le_refl _, Nat.le_refl _, fun _ _ => rfl, fun j _ _ => ⟨rfl, fun b hb' => hoth b (fun e => (h.tags j b hb').2.2.2 k cs hk e.symm)⟩⟩
 have hlt : k < H.length := (List.getElem?_eq_some_iff.1 hk).1
 have hget : ∀ j ds, (H.set k (some cs'))[j]? = some (some ds) → (j = k ∧ ds = cs') ∨ (j ≠ k ∧ H[j]? = some (some ds)) := fun j ds hj => by
  by_cases hjk : j = k
  ·subst hjk; rw [List.getElem?_set_self hlt] at hj; cases hj; exact .inl ⟨rfl, rfl⟩
  ·rw [List.getElem?_set_ne (by omega)] at hj; exact .inr ⟨hjk, hj⟩
 have hsome : ∀ j ds, (H.set k (some cs'))[j]? = some (some ds) → ∃ ds', H[j]? = some (some ds') := fun j ds hj => by
  rcases hget j ds hj with ⟨rfl, _⟩ | ⟨_, h'⟩
  ·exact ⟨cs, hk⟩
  ·exact ⟨ds, h'⟩
 refine ⟨⟨h.os, h.tape, h.output, by rw [setRow_size]; exact h.size, fun b hb1 hm => ?_, h.imm0, fun b hi => by rw [setRow_size]; exact h.immB b hi, by rw [h.hlen]; simp, h.nlen, h.hh, h.phi, fun j ds hj => ?_, fun j ds hj => ?_, fun i j ds es hi hj he => ?_, fun j b hb1 => ?_, h.tagInj, h.high, h.glob.keep hkeep.imm⟩, hkeep⟩
 ·rw [hoth b (fun e => ?_)]
  ·exact h.old b hb1 hm
  ·rcases (h.objM k cs hk).1 with hm' | hm'
   ·exact hm (e ▸ hm')
   ·omega
 ·rcases hget j ds hj with ⟨rfl, rfl⟩ | ⟨hjk, hj'⟩
  ·exact ⟨C', T, setRow_heap w _ C C' T (0, 0) e, hr.mono hkeep⟩
  ·obtain ⟨D, U, e', hr'⟩ := h.objs j ds hj'
   refine ⟨D, U, ?_, hr'.mono hkeep⟩
   rw [hoth _ (fun e2 => hjk (h.inj j k ds cs hj' hk e2))]
   exact e'
 ·obtain ⟨ds', h'⟩ := hsome j ds hj
  exact h.objM j ds' h'
 ·obtain ⟨ds', h1⟩ := hsome i ds hi
  obtain ⟨es', h2⟩ := hsome j es hj
  exact h.inj i j ds' es' h1 h2 he
 ·obtain ⟨h1, h2, h3, h4⟩ := h.tags j b hb1
  refine ⟨by rw [setRow_size]; exact h1, h2, h3, fun i ds hi => ?_⟩
  obtain ⟨ds', h'⟩ := hsome i ds hi
  exact h4 i ds' h'
def Cx.retag (c : Cx) (k : Nat) (v : Value) : Cx := ⟨c.φ, fun j => if j = k then v else c.τ j, c.imm, c.h, c.n⟩
theorem Cx.retag_same (c : Cx) (k : Nat) (v : Value) : (c.retag k v).τ k = v := by show (if k = k then _ else _) = _; rw [if_pos rfl]
theorem Cx.retag_other (c : Cx) {j k : Nat} (v : Value) (h : j ≠ k) : (c.retag k v).τ j = c.τ j := by show (if j = k then _ else _) = _; rw [if_neg h]
theorem killH_get : ∀ {H : Hp} {k j : Nat} {cs : Cells}, (killH k H)[j]? = some (some cs) → ∃ cs', H[j]? = some (some cs') ∧ cs = killL k cs'
 | [], _, _, _, h => by simp [killH] at h
 | none :: H, k, j, cs, h => by
  cases j with
  | zero => simp [killH] at h
  | succ j => simpa using killH_get (H := H) (by simpa [killH] using h)
 | some x :: H, k, j, cs, h => by
  cases j with
  | zero => simp [killH] at h; exact ⟨x, rfl, h.symm⟩
  | succ j => simpa using killH_get (H := H) (by simpa [killH] using h)
theorem killH_length : ∀ (k : Nat) (H : Hp), (killH k H).length = H.length
 | _, [] => rfl
 | k, none :: H => by simp [killH, killH_length k H]
 | k, some _ :: H => by simp [killH, killH_length k H]
theorem Con.retag {B : Base} {c : Cx} {w w' : World} {H : Hp} {n k : Nat} (h : Con B c w H n) (hk : k < n) (hg : w.grownBy w' (blk (c.τ k))) {v : Value}
  (hv : ∀ b, blk v = some b → b < w'.heap.size ∧ (blk (c.τ k) = some b ∨ w.heap.size ≤ b)) :
  Con B (c.retag k v) w' (killH k H) n ∧ Keep c (c.retag k v) w w' (some k) := by
 have hsame : ∀ b, b < w.heap.size → some b ≠ blk (c.τ k) → w'.heap[b]? = w.heap[b]? := hg.block
 have himm : ∀ b, c.imm b → w'.heap[b]? = w.heap[b]? := fun b hi => hsame b (h.immB b hi).1 (fun e => (h.tags k b e.symm).2.1 hi)
 have htag : ∀ j b, j ≠ k → blk (c.τ j) = some b → w'.heap[b]? = w.heap[b]? := fun j b hj hb => hsame b (h.tags j b hb).1 (fun e => hj (h.tagInj j k b hb e.symm))
 have hkeep : Keep c (c.retag k v) w w' (some k) :=
  ⟨fun b hi => ⟨hi, himm b hi⟩, Nat.le_refl _, Nat.le_refl _, fun _ _ => rfl, fun j _ hj => by
   have hj' : j ≠ k := fun e => hj (by rw [e])
   exact ⟨c.retag_other v hj', fun b hb => htag j b hj' hb⟩⟩
 have hnew : ∀ b, blk v = some b → b < w'.heap.size ∧ ¬ c.imm b ∧ (B.m0 b ∨ B.w0.heap.size ≤ b) ∧ (∀ j cs, H[j]? = some (some cs) → c.φ j ≠ b) ∧ ∀ j, j ≠ k → blk (c.τ j) ≠ some b := fun b hb => by
  obtain ⟨h1, h2⟩ := hv b hb
  rcases h2 with h2 | h2
  ·obtain ⟨a1, a2, a3, a4⟩ := h.tags k b h2
   exact ⟨h1, a2, a3, a4, fun j hj e => hj (h.tagInj j k b e h2)⟩
  ·refine ⟨h1, fun hi => ?_, .inr (Nat.le_trans h.size h2), fun j cs hj e => ?_, fun j _ e => ?_⟩
   ·have := (h.immB b hi).1; omega
   ·have := h.objLt hj; omega
   ·have := (h.tags j b e).1; omega
 refine ⟨⟨hg.os.trans h.os, hg.tape.trans h.tape, hg.output.trans h.output, Nat.le_trans h.size hg.size, fun b hb1 hm => ?_, h.imm0, fun b hi => ?_, by rw [killH_length]; exact h.hlen, h.nlen, h.hh, h.phi, fun j cs hj => ?_, fun j cs hj => ?_, fun i j cs ds hi hj he => ?_, fun j b hb => ?_, fun i j b hi hj => ?_, fun j hj => ?_, h.glob.keep hkeep.imm⟩, hkeep⟩
 ·rw [hsame b (Nat.lt_of_lt_of_le hb1 h.size) (fun e => ?_)]
  ·exact h.old b hb1 hm
  ·rcases (h.tags k b e.symm).2.2.1 with h' | h'
   ·exact hm h'
   ·omega
 ·obtain ⟨h1, h2⟩ := h.immB b hi
  exact ⟨Nat.lt_of_lt_of_le h1 hg.size, h2⟩
 ·obtain ⟨cs', hj', rfl⟩ := killH_get hj
  obtain ⟨C, T, e, hr⟩ := h.objs j cs' hj'
  refine ⟨C, T, ?_, RepL.kill hkeep _ _ hr⟩
  show w'.heap[c.φ j]? = _
  rw [hsame _ (h.objLt hj') (fun e => (h.tags k _ e.symm).2.2.2 j cs' hj' rfl)]
  exact e
 ·obtain ⟨cs', hj', _⟩ := killH_get hj
  exact h.objM j cs' hj'
 ·obtain ⟨cs', hi', _⟩ := killH_get hi
  obtain ⟨ds', hj', _⟩ := killH_get hj
  exact h.inj i j cs' ds' hi' hj' he
 ·by_cases hjk : j = k
  ·subst hjk
   rw [c.retag_same] at hb
   obtain ⟨a1, a2, a3, a4, _⟩ := hnew b hb
   exact ⟨a1, a2, a3, fun i cs hi => by obtain ⟨cs', hi', _⟩ := killH_get hi; exact a4 i cs' hi'⟩
  ·rw [c.retag_other v hjk] at hb
   obtain ⟨a1, a2, a3, a4⟩ := h.tags j b hb
   exact ⟨Nat.lt_of_lt_of_le a1 hg.size, a2, a3, fun i cs hi => by obtain ⟨cs', hi', _⟩ := killH_get hi; exact a4 i cs' hi'⟩
 ·by_cases hik : i = k <;> by_cases hjk : j = k
  ·rw [hik, hjk]
  ·subst hik
   rw [c.retag_same] at hi
   rw [c.retag_other v hjk] at hj
   exact absurd hj ((hnew b hi).2.2.2.2 j hjk)
  ·subst hjk
   rw [c.retag_same] at hj
   rw [c.retag_other v hik] at hi
   exact absurd hi ((hnew b hj).2.2.2.2 i hik)
  ·rw [c.retag_other v hik] at hi
   rw [c.retag_other v hjk] at hj
   exact h.tagInj i j b hi hj
 ·rw [c.retag_other v (by omega)]
  exact h.high j hj
def Cx.newTag (c : Cx) (v : Value) : Cx := ⟨c.φ, fun j => if j = c.n then v else c.τ j, c.imm, c.h, c.n + 1⟩
theorem Cx.newTag_same (c : Cx) (v : Value) : (c.newTag v).τ c.n = v := by show (if c.n = c.n then _ else _) = _; rw [if_pos rfl]
theorem Cx.newTag_other (c : Cx) {j : Nat} (v : Value) (h : j ≠ c.n) : (c.newTag v).τ j = c.τ j := by show (if j = c.n then _ else _) = _; rw [if_neg h]
theorem Con.newTag {B : Base} {c : Cx} {w w' : World} {H : Hp} {n : Nat} (h : Con B c w H n) (hb : Below w.heap.size w w') {v : Value}
  (hv : ∀ b, blk v = some b → w.heap.size ≤ b ∧ b < w'.heap.size) : Con B (c.newTag v) w' H (n + 1) ∧ Keep c (c.newTag v) w w' none := by
 obtain ⟨h1, k1⟩ := h.grow hb
 have hn := h.nlen
 have hlo : ∀ j, j < c.n → (c.newTag v).τ j = c.τ j := fun j hj => c.newTag_other v (by omega)
 have hkeep : Keep c (c.newTag v) w w' none := ⟨k1.imm, k1.h, Nat.le_succ _, k1.φ, fun j hj h0 => by rw [hlo j hj]; exact ⟨rfl, (k1.τ j hj h0).2⟩⟩
 have hkeep2 : Keep c (c.newTag v) w' w' none := ⟨fun b hi => ⟨hi, rfl⟩, Nat.le_refl _, Nat.le_succ _, fun _ _ => rfl, fun j hj h0 => by rw [hlo j hj]; exact ⟨rfl, fun _ _ => rfl⟩⟩
 refine ⟨⟨h1.os, h1.tape, h1.output, h1.size, h1.old, h1.imm0, h1.immB, h1.hlen, ?_, h1.hh, h1.phi, fun j cs hj => ?_, h1.objM, h1.inj, fun j b hj => ?_, fun i j b hi hj => ?_, fun j hj => ?_, h.glob.keep hkeep.imm⟩, hkeep⟩
 ·show c.n + 1 = _
  rw [hn]
 ·obtain ⟨C, T, e, hr⟩ := h1.objs j cs hj
  exact ⟨C, T, e, hr.mono hkeep2⟩
 ·by_cases hjn : j = c.n
  ·subst hjn
   rw [c.newTag_same] at hj
   obtain ⟨a1, a2⟩ := hv b hj
   refine ⟨a2, fun hi => ?_, .inr (Nat.le_trans h.size a1), fun i cs hi e => ?_⟩
   ·have := (h.immB b hi).1; omega
   ·have := h.objLt hi
    have e' : c.φ i = b := e
    omega
  ·rw [c.newTag_other v hjn] at hj
   exact h1.tags j b hj
 ·by_cases hin : i = c.n <;> by_cases hjn : j = c.n
  ·rw [hin, hjn]
  ·subst hin
   rw [c.newTag_same] at hi
   rw [c.newTag_other v hjn] at hj
   have := (hv b hi).1
   have := (h.tags j b hj).1
   omega
  ·subst hjn
   rw [c.newTag_same] at hj
   rw [c.newTag_other v hin] at hi
   have := (hv b hj).1
   have := (h.tags i b hi).1
   omega
  ·rw [c.newTag_other v hin] at hi
   rw [c.newTag_other v hjn] at hj
   exact h.tagInj i j b hi hj
 ·rw [c.newTag_other v (by omega)]
  exact h.high j (by omega)
def Cx.freeze (c : Cx) (k : Nat) : Cx := ⟨c.φ, fun j => if j = k then nilS else c.τ j, fun b => c.imm b ∨ blk (c.τ k) = some b, c.h, c.n⟩
theorem Con.freeze {B : Base} {c : Cx} {w : World} {H : Hp} {n k : Nat} (h : Con B c w H n) : Con B (c.freeze k) w (killH k H) n ∧ Keep c (c.freeze k) w w (some k) := by
 have hother : ∀ j, j ≠ k → (c.freeze k).τ j = c.τ j := fun j hj => by show (if j = k then _ else _) = _; rw [if_neg hj]
 have hsame : (c.freeze k).τ k = nilS := by show (if k = k then _ else _) = _; rw [if_pos rfl]
 have hkeep : Keep c (c.freeze k) w w (some k) :=
  ⟨fun b hi => ⟨.inl hi, rfl⟩, Nat.le_refl _, Nat.le_refl _, fun _ _ => rfl, fun j _ hj => ⟨hother j (fun e => hj (by rw [e])), fun _ _ => rfl⟩⟩
 refine ⟨⟨h.os, h.tape, h.output, h.size, h.old, fun b hb => .inl (h.imm0 b hb), fun b hi => ?_, by rw [killH_length]; exact h.hlen, h.nlen, h.hh, h.phi, fun j cs hj => ?_, fun j cs hj => ?_, fun i j cs ds hi hj he => ?_, fun j b hb => ?_, fun i j b hi hj => ?_, fun j hj => ?_, h.glob.keep hkeep.imm⟩, hkeep⟩
 ·rcases hi with hi | hi
  ·exact h.immB b hi
  ·obtain ⟨a1, a2, a3, a4⟩ := h.tags k b hi
   exact ⟨a1, .inr a3⟩
 ·obtain ⟨cs', hj', rfl⟩ := killH_get hj
  obtain ⟨C, T, e, hr⟩ := h.objs j cs' hj'
  exact ⟨C, T, e, RepL.kill hkeep _ _ hr⟩
 ·obtain ⟨cs', hj', _⟩ := killH_get hj
  refine ⟨(h.objM j cs' hj').1, fun hi => ?_⟩
  rcases hi with hi | hi
  ·exact (h.objM j cs' hj').2 hi
  ·exact (h.tags k _ hi).2.2.2 j cs' hj' rfl
 ·obtain ⟨cs', hi', _⟩ := killH_get hi
  obtain ⟨ds', hj', _⟩ := killH_get hj
  exact h.inj i j cs' ds' hi' hj' he
 ·by_cases hjk : j = k
  ·subst hjk; rw [hsame] at hb; cases hb
  ·rw [hother j hjk] at hb
   obtain ⟨a1, a2, a3, a4⟩ := h.tags j b hb
   refine ⟨a1, fun hi => ?_, a3, fun i cs hi => by obtain ⟨cs', hi', _⟩ := killH_get hi; exact a4 i cs' hi'⟩
   rcases hi with hi | hi
   ·exact a2 hi
   ·exact hjk (h.tagInj j k b hb hi)
 ·by_cases hik : i = k <;> by_cases hjk : j = k
  ·rw [hik, hjk]
  ·subst hik; rw [hsame] at hi; cases hi
  ·subst hjk; rw [hsame] at hj; cases hj
  ·rw [hother i hik] at hi
   rw [hother j hjk] at hj
   exact h.tagInj i j b hi hj
 ·by_cases hjk : j = k
  ·subst hjk; exact hsame
  ·rw [hother j hjk]; exact h.high j hj
section
variable {c : Cx} {w : World} {H : Hp} {n : Nat} {B : Base}
theorem Con.rehp {H' : Hp} (h : Con B c w H n) (hl : H'.length = H.length) (hg : ∀ k cs, H'[k]? = some (some cs) → ∃ cs', H[k]? = some (some cs') ∧ ∃ C T, w.heap[c.φ k]? = some (.cells C T (0, 0)) ∧ RepL c w cs C.toList) : Con B c w H' n :=
 ⟨h.os, h.tape, h.output, h.size, h.old, h.imm0, h.immB, by rw [hl]; exact h.hlen, h.nlen, h.hh, h.phi, fun k cs hk => (hg k cs hk).choose_spec.2, fun k cs hk => h.objM k _ (hg k cs hk).choose_spec.1,
  fun j k cs ds hj hk e => h.inj j k _ _ (hg j cs hj).choose_spec.1 (hg k ds hk).choose_spec.1 e, fun k b hb => ⟨(h.tags k b hb).1, (h.tags k b hb).2.1, (h.tags k b hb).2.2.1, fun j cs hj => (h.tags k b hb).2.2.2 j _ (hg j cs hj).choose_spec.1⟩, h.tagInj, h.high, h.glob⟩
theorem updH_get : ∀ {H : Hp} {k t s j : Nat} {es : List (List F)} {cs : Cells}, (updH k t s es H)[j]? = some (some cs) → ∃ cs', H[j]? = some (some cs') ∧ cs = updL k t s es cs'
 | [], _, _, _, _, _, _, h => by simp [updH] at h
 | none :: H, k, t, s, j, es, cs, h => by
  cases j with
  | zero => simp [updH] at h
  | succ j => simpa using updH_get (H := H) (by simpa [updH] using h)
 | some x :: H, k, t, s, j, es, cs, h => by
  cases j with
  | zero => simp [updH] at h; exact ⟨x, rfl, h.symm⟩
  | succ j => simpa using updH_get (H := H) (by simpa [updH] using h)
theorem updH_length : ∀ (k t s : Nat) (es : List (List F)) (H : Hp), (updH k t s es H).length = H.length
 | _, _, _, _, [] => rfl
 | k, t, s, es, none :: H => by simp [updH, updH_length k t s es H]
 | k, t, s, es, some _ :: H => by simp [updH, updH_length k t s es H]
theorem killH_at : ∀ {H : Hp} {k j : Nat} {cs : Cells}, H[j]? = some (some cs) → (killH k H)[j]? = some (some (killL k cs))
 | [], _, _, _, h => by simp at h
 | none :: H, k, j, cs, h => by
  cases j with
  | zero => simp at h
  | succ j => simpa [killH] using killH_at (H := H) (k := k) (by simpa using h)
 | some x :: H, k, j, cs, h => by
  cases j with
  | zero => simp at h; subst h; simp [killH]
  | succ j => simpa [killH] using killH_at (H := H) (k := k) (by simpa using h)
theorem Con.upd {w' : World} (h : Con B c w H n) {k t s : Nat} {es : List (List F)} (hk : k < n) (hg : w.grownBy w' (blk (c.τ k))) (hs : w'.heap.size = w.heap.size) (hO : (∀ b, c.imm b → w'.heap[b]? = w.heap[b]?) → OwnOk c.imm w' (c.τ k) t s es) :
  ∃ c', Con B c' w' (updH k t s es H) n ∧ Keep c c' w w' (some k) ∧ c'.τ k = c.τ k ∧ OwnOk c'.imm w' (c'.τ k) t s es := by
 obtain ⟨h1, k1⟩ := h.retag hk hg (v := c.τ k) (fun b hb => ⟨by rw [hs]; exact (h.tags k b hb).1, .inl hb⟩)
 have hτ : (c.retag k (c.τ k)).τ k = c.τ k := c.retag_same _ _
 have hO' : OwnOk (c.retag k (c.τ k)).imm w' ((c.retag k (c.τ k)).τ k) t s es := by rw [hτ]; exact hO (fun b hb => (k1.imm b hb).2)
 refine ⟨_, h1.rehp (by rw [updH_length, killH_length]) (fun j cs hj => ?_), k1, hτ, hO'⟩
 obtain ⟨cs', hj', rfl⟩ := updH_get hj
 obtain ⟨C, T, e, hr⟩ := h.objs j cs' hj'
 refine ⟨_, killH_at hj', C, T, ?_, RepL.upd k1 hτ hO' _ _ hr⟩
 show w'.heap[c.φ j]? = _
 rw [hg.block _ (h.objLt hj') (fun e2 => (h.tags k _ e2.symm).2.2.2 j cs' hj' rfl)]
 exact e
end
def OpSem (P : Program) (o : Oper) (E : List D) (H : Hp) (n : Nat) (K : KD) : Prop :=
 ∀ (B : Base) (c : Cx) (w : World) (a : Act), Con B c w H n → RepL c w E a.tmps.toList → a.defers = [] →
  o.wp P a w (fun a' w' => ∃ d v E' H' n' c', K d E' H' n' ∧ a' = a.put o.dst v ∧ Con B c' w' H' n' ∧ RepL c' w' E' a.tmps.toList ∧ Rep c' w' d v) (fun _ _ _ => False)
def conv : X → Exit
 | .normal => .normal
 | .exit id => .exit id
 | .ret => .ret
def Post (B : Base) (Q : X → List D → Hp → Nat → Prop) (e : Exit) (a : Act) (w : World) : Prop :=
 ∃ x E H n c, e = conv x ∧ Q x E H n ∧ Con B c w H n ∧ RepL c w E a.tmps.toList ∧ a.defers = []
def CSem (P : Program) (k : Code) (Q : X → List D → Hp → Nat → Prop) (E : List D) (H : Hp) (n : Nat) : Prop :=
 ∀ (B : Base) (c : Cx) (w : World) (a : Act), Con B c w H n → RepL c w E a.tmps.toList → a.defers = [] → Code.wp P k (Post B Q) a w
def FnOk (P : Program) (g : FuncId) : Prop := ∃ fn, P.funcs[g]? = some fn ∧ (fn.name == "runtime.NumGoroutine") = false ∧ fn.body.isNone = false
def CallStep (P : Program) (g : FuncId) (args : List D) (E : List D) (H : Hp) (n : Nat) (K : KD) : Prop :=
 FnOk P g ∧ ∀ (B : Base) (c : Cx) (w : World) (ts vs : List Value), Con B c w H n → RepL c w E ts → RepL c w args vs →
  Calls P g vs.toArray w (fun e w' => ∃ d v E' H' n' c', K d E' H' n' ∧ e = .returned v ∧ Con B c' w' H' n' ∧ RepL c' w' E' ts ∧ Rep c' w' d v)
end Go.Proofs.YtlhegfkpgchaeaaGreatDoor.Aw
