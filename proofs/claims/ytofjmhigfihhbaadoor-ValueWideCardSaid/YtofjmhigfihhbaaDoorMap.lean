/- A literal map of the call's own, keyed by texts: made, filled with keys that are not in it, asked. -/
import Derived.Test.YtofjmhigfihhbaaDoorLower
import Derived.WideMake
import Derived.Maps.Own
import Derived.Laws.ResultCell
namespace Go.Proofs.YtofjmhigfihhbaaDoor.Map
open Go.RowKit Go.Proofs.YtofjmhigfihhbaaDoor.Low
theorem beq_bytes (s t : ByteArray) : (s == t) = decide (s = t) := by
  have h : (s == t) = (s.data == t.data) := rfl
  rw [h]
  by_cases e : s = t
  · subst e; simp
  · rw [decide_eq_false e, beq_eq_false_iff_ne]
    intro h; exact e (by cases s; cases t; cases h; rfl)
/-- The first entry of a key. -/
def lookL (s : ByteArray) : List (ByteArray × Value) → Option Value
  | [] => none
  | (k, v) :: l => if s = k then some v else lookL s l
/-- Block b is a map with these entries, in this order. -/
def MapAt (w : World) (b : Nat) (l : List (ByteArray × Value)) : Prop :=
  ∃ (es : Array MapEntry) (clock : Nat), w.heap[b]? = some (.map es clock) ∧ es.toList.map (fun e => (e.key, e.val)) = l.map (fun x => (Value.string x.1, x.2))
theorem MapAt.below {w w' : World} {b : Nat} {l : List (ByteArray × Value)} (h : MapAt w b l) (hb : Below w.heap.size w w') : MapAt w' b l := by
  obtain ⟨es, clock, h1, h2⟩ := h
  have hlt : b < w.heap.size := by
    rcases Nat.lt_or_ge b w.heap.size with h' | h'
    · exact h'
    · rw [Array.getElem?_eq_none h'] at h1; cases h1
  exact ⟨es, clock, by rw [hb.block b hlt]; exact h1, h2⟩
theorem find_of (s : ByteArray) : ∀ (es : List MapEntry) (l : List (ByteArray × Value)) (i : Nat), es.map (fun e => (e.key, e.val)) = l.map (fun x => (Value.string x.1, x.2)) →
    (match lookL s l with | some v => ∃ j, Instr.findNow .string (.string s) es i = some (some (j, v)) | none => Instr.findNow .string (.string s) es i = some none)
  | [], [], _, _ => rfl
  | [], _ :: _, _, h => by simp at h
  | _ :: _, [], _, h => by simp at h
  | e :: es, (k, v) :: l, i, h => by
    simp only [List.map_cons, List.cons.injEq, Prod.mk.injEq] at h
    obtain ⟨⟨h1, h2⟩, h3⟩ := h
    have ih := find_of s es l (i + 1) h3
    unfold lookL Instr.findNow
    rw [h1, h2]
    by_cases hk : s = k
    · subst hk
      have e1 : Instr.sameNow .string (.string s) (.string s) = some true := by simp [Instr.sameNow, beq_bytes]
      rw [e1]
      simp
    · have e1 : Instr.sameNow .string (.string s) (.string k) = some false := by simp [Instr.sameNow, beq_bytes, hk]
      rw [e1]
      simp only [hk, if_false]
      exact ih
theorem run_insert {P : Program} {w : World} (mty kt et : TypeId) (r clock : Nat) (es : Array MapEntry) (s : ByteArray) (val : Value) (hm : P.underlying mty = some (.map kt et)) (hk : P.underlying kt = some .string) (hb : w.heap[r]? = some (.map es clock))
    (hf : Instr.findNow .string (.string s) es.toList 0 = some none) :
    (Instr.mapUpdate mty (.map (some r)) (.string s) val).run P w = .ok () { w with heap := w.heap.setIfInBounds r (.map (es.push { key := .string s, val := val, born := clock }) (clock + 1)) } := by
  have hc : (Instr.checkKey false 10000 kt (.string s)).run P w = .ok () w := MapKept.run_checkKey (k := .string s) hk (by simp [MapKept.IsKey]) false 9999
  simp [Instr.mapUpdate, run_underlying hm, MapKept.run_getObj_map hb, hc, MapKept.run_findKey hk hf, MapKept.run_setObj_map _ hb, Result.andThen]
theorem heap_alloc_at (w : World) (o : Obj) : (w.alloc o).heap[w.heap.size]? = some o := by
  simp [World.alloc, -World.alloc_eq]
theorem wpList_makeMap_new {P : Program} (w : World) {ops : Array Oper} {rest : List Oper} {o : Oper} {a : Act} {Q : Exit → Act → World → Prop}
    (hg : o.guard = none) (t : TypeId) (hop : o.op = Op.makeMap t none)
    (hK : ∀ w', MapAt w' w.heap.size [] → Below w.heap.size w w' → wpList P ops Q rest (a.put o.dst (.map (some w.heap.size))) w') :
    wpList P ops Q (o :: rest) a w := by
  refine wpList_plain hg fun K' hK' => ?_
  unfold Oper.wp
  simp [execOp, hop, run_makeMap_plain, Result.andThen]
  exact hK' _ _ (hK _ ⟨#[], 0, heap_alloc_at w _, rfl⟩ ((Below.refl _ w).alloc (Nat.le_refl _) _))
theorem wpList_insert_new {P : Program} (w : World) {ops : Array Oper} {rest : List Oper} {o : Oper} {a : Act} {Q : Exit → Act → World → Prop}
    (hg : o.guard = none) (m x v : Operand) (t : TypeId) (hop : o.op = Op.insert t m x v)
    (k e : TypeId) (ht : P.underlying t = some (.map k e)) (hk : P.underlying k = some .string) (b base : Nat) (l : List (ByteArray × Value))
    (hm : a.eval m = .map (some b)) (hM : MapAt w b l) (s : ByteArray) (val : Value) (hx : a.eval x = .string s) (hv : a.eval v = val) (hnew : lookL s l = none) (hbase : base ≤ b)
    (hK : ∀ w', MapAt w' b (l ++ [(s, val)]) → Below base w w' → wpList P ops Q rest (a.put o.dst undef) w') :
    wpList P ops Q (o :: rest) a w := by
  refine wpList_plain hg fun K' hK' => ?_
  obtain ⟨es, clock, h1, h2⟩ := hM
  have hf := find_of s es.toList l 0 h2
  rw [hnew] at hf
  have hrun := run_insert (P := P) t k e b clock es s val ht hk h1 hf
  unfold Oper.wp
  simp [execOp, hop, hm, hx, hv, hrun, Result.andThen]
  have hlt : b < w.heap.size := by
    rcases Nat.lt_or_ge b w.heap.size with h' | h'
    · exact h'
    · rw [Array.getElem?_eq_none h'] at h1; cases h1
  refine hK' _ _ (hK _ ⟨_, _, by simp [hlt]; exact ⟨rfl, rfl⟩, by simp [h2]⟩ ⟨rfl, rfl, rfl, by simp, fun j hj => ?_⟩)
  simp only [Array.getElem?_setIfInBounds]
  rw [if_neg (by omega)]
theorem run_look {P : Program} {w : World} (mty kt et : TypeId) (b : Nat) (l : List (ByteArray × Value)) (s : ByteArray) (z : Value) (hm : P.underlying mty = some (.map kt et)) (hk : P.underlying kt = some .string) (hz : (zeroValue et).run P w = .ok z w) (hM : MapAt w b l) :
    (Instr.lookup mty (.map (some b)) (.string s) true).run P w = .ok (.tuple #[(lookL s l).getD z, .bool (lookL s l).isSome]) w := by
  obtain ⟨es, clock, h1, h2⟩ := hM
  have hf := find_of s es.toList l 0 h2
  have hc : ∀ b, (Instr.checkKey b 10000 kt (.string s)).run P w = .ok () w := fun b => MapKept.run_checkKey (k := .string s) hk (by simp [MapKept.IsKey]) b 9999
  cases hl : lookL s l with
  | none =>
    rw [hl] at hf
    simp [Instr.lookup, run_underlying hm, MapKept.run_getObj_map h1, hc, MapKept.run_findKey hk hf, hz, Result.andThen]
  | some v =>
    rw [hl] at hf
    obtain ⟨j, hf⟩ := hf
    simp [Instr.lookup, run_underlying hm, MapKept.run_getObj_map h1, hc, MapKept.run_findKey hk hf, Result.andThen]
theorem run_look_nil {P : Program} {w : World} (mty kt et : TypeId) (s : ByteArray) (z : Value) (hm : P.underlying mty = some (.map kt et)) (hk : P.underlying kt = some .string) (hz : (zeroValue et).run P w = .ok z w) :
    (Instr.lookup mty (.map none) (.string s) true).run P w = .ok (.tuple #[z, .bool false]) w := by
  have hc : ∀ b, (Instr.checkKey b 10000 kt (.string s)).run P w = .ok () w := fun b => MapKept.run_checkKey (k := .string s) hk (by simp [MapKept.IsKey]) b 9999
  have hf : Instr.findNow .string (.string s) ([] : List MapEntry) 0 = some none := rfl
  simp [Instr.lookup, run_underlying hm, hc, MapKept.run_findKey hk hf, hz, Result.andThen]
end Go.Proofs.YtofjmhigfihhbaaDoor.Map
