/- What package value's functions answer, as functions of lists of bytes. -/
import Derived.Test.YtlhegfkpgchaeaaGreatDoorLower
import Derived.WideMake
import Derived.Maps.Own
import Derived.Laws.ResultCell
namespace Go.Proofs.YtlhegfkpgchaeaaGreatDoor.Map
open Go.RowKit Go.Proofs.YtlhegfkpgchaeaaGreatDoor.Low
theorem beq_bytes (s t : ByteArray) : (s == t) = decide (s = t) := by
  have h : (s == t) = (s.data == t.data) := rfl
  rw [h]
  by_cases e : s = t
  · subst e; simp
  · rw [decide_eq_false e, beq_eq_false_iff_ne]
    intro h; exact e (by cases s; cases t; cases h; rfl)
def lookL (s : ByteArray) : List (ByteArray × Value) → Option Value
  | [] => none
  | (k, v) :: l => if s = k then some v else lookL s l
def MapAt (w : World) (b : Nat) (l : List (ByteArray × Value)) : Prop :=
  ∃ (es : Array MapEntry) (clock : Nat), w.heap[b]? = some (.map es clock) ∧ es.toList.map (fun e => (e.key, e.val)) = l.map (fun x => (Value.string x.1, x.2))
theorem MapAt.below {w w' : World} {b : Nat} {l : List (ByteArray × Value)} (h : MapAt w b l) (hb : Below w.heap.size w w') : MapAt w' b l := by
  obtain ⟨es, clock, h1, h2⟩ := h
  have hlt : b < w.heap.size := by
    rcases Nat.lt_or_ge b w.heap.size with h' | h'
    · exact h'
    · rw [Array.getElem?_eq_none h'] at h1; cases h1
  exact ⟨es, clock, by rw [hb.block b hlt]; exact h1, h2⟩
theorem find_of (s : ByteArray) : ∀ (es : List MapEntry) (l : List (ByteArray × Value)) (i : Nat), es.map (fun e => (e.key, e.val)) = l.map (fun x => (Value.string x.1, x.2)) →
    (match lookL s l with | some v => ∃ j, Instr.findNow .string (.string s) es i = some (some (j, v)) | none => Instr.findNow .string (.string s) es i = some none)
  | [], [], _, _ => rfl
  | [], _ :: _, _, h => by simp at h
  | _ :: _, [], _, h => by simp at h
  | e :: es, (k, v) :: l, i, h => by
    simp only [List.map_cons, List.cons.injEq, Prod.mk.injEq] at h
    obtain ⟨⟨h1, h2⟩, h3⟩ := h
    have ih := find_of s es l (i + 1) h3
    unfold lookL Instr.findNow
    rw [h1, h2]
    by_cases hk : s = k
    · subst hk
      have e1 : Instr.sameNow .string (.string s) (.string s) = some true := by simp [Instr.sameNow, beq_bytes]
      rw [e1]
      simp
    · have e1 : Instr.sameNow .string (.string s) (.string k) = some false := by simp [Instr.sameNow, beq_bytes, hk]
      rw [e1]
      simp only [hk, if_false]
      exact ih
theorem run_insert {P : Program} {w : World} (mty kt et : TypeId) (r clock : Nat) (es : Array MapEntry) (s : ByteArray) (val : Value) (hm : P.underlying mty = some (.map kt et)) (hk : P.underlying kt = some .string) (hb : w.heap[r]? = some (.map es clock))
    (hf : Instr.findNow .string (.string s) es.toList 0 = some none) :
    (Instr.mapUpdate mty (.map (some r)) (.string s) val).run P w = .ok () { w with heap := w.heap.setIfInBounds r (.map (es.push { key := .string s, val := val, born := clock }) (clock + 1)) } := by
  have hc : (Instr.checkKey false 10000 kt (.string s)).run P w = .ok () w := MapKept.run_checkKey (k := .string s) hk (by simp [MapKept.IsKey]) false 9999
  simp [Instr.mapUpdate, run_underlying hm, MapKept.run_getObj_map hb, hc, MapKept.run_findKey hk hf, MapKept.run_setObj_map _ hb, Result.andThen]
theorem heap_alloc_at (w : World) (o : Obj) : (w.alloc o).heap[w.heap.size]? = some o := by
  simp [World.alloc, -World.alloc_eq]
theorem wpList_makeMap_new {P : Program} (w : World) {ops : Array Oper} {rest : List Oper} {o : Oper} {a : Act} {Q : Exit → Act → World → Prop}
    (hg : o.guard = none) (t : TypeId) (hop : o.op = Op.makeMap t none)
    (hK : ∀ w', MapAt w' w.heap.size [] → Below w.heap.size w w' → wpList P ops Q rest (a.put o.dst (.map (some w.heap.size))) w') :
    wpList P ops Q (o :: rest) a w := by
  refine wpList_plain hg fun K' hK' => ?_
  unfold Oper.wp
  simp [execOp, hop, run_makeMap_plain, Result.andThen]
  exact hK' _ _ (hK _ ⟨#[], 0, heap_alloc_at w _, rfl⟩ ((Below.refl _ w).alloc (Nat.le_refl _) _))
theorem wpList_insert_new {P : Program} (w : World) {ops : Array Oper} {rest : List Oper} {o : Oper} {a : Act} {Q : Exit → Act → World → Prop}
    (hg : o.guard = none) (m x v : Operand) (t : TypeId) (hop : o.op = Op.insert t m x v)
    (k e : TypeId) (ht : P.underlying t = some (.map k e)) (hk : P.underlying k = some .string) (b base : Nat) (l : List (ByteArray × Value))
    (hm : a.eval m = .map (some b)) (hM : MapAt w b l) (s : ByteArray) (val : Value) (hx : a.eval x = .string s) (hv : a.eval v = val) (hnew : lookL s l = none) (hbase : base ≤ b)
    (hK : ∀ w', MapAt w' b (l ++ [(s, val)]) → Below base w w' → wpList P ops Q rest (a.put o.dst undef) w') :
    wpList P ops Q (o :: rest) a w := by
  refine wpList_plain hg fun K' hK' => ?_
  obtain ⟨es, clock, h1, h2⟩ := hM
  have hf := find_of s es.toList l 0 h2
  rw [hnew] at hf
  have hrun := run_insert (P := P) t k e b clock es s val ht hk h1 hf
  unfold Oper.wp
  simp [execOp, hop, hm, hx, hv, hrun, Result.andThen]
  have hlt : b < w.heap.size := by
    rcases Nat.lt_or_ge b w.heap.size with h' | h'
    · exact h'
    · rw [Array.getElem?_eq_none h'] at h1; cases h1
  refine hK' _ _ (hK _ ⟨_, _, by simp [hlt]; exact ⟨rfl, rfl⟩, by simp [h2]⟩ ⟨rfl, rfl, rfl, by simp, fun j hj => ?_⟩)
  simp only [Array.getElem?_setIfInBounds]
  rw [if_neg (by omega)]
theorem run_look {P : Program} {w : World} (mty kt et : TypeId) (b : Nat) (l : List (ByteArray × Value)) (s : ByteArray) (z : Value) (hm : P.underlying mty = some (.map kt et)) (hk : P.underlying kt = some .string) (hz : (zeroValue et).run P w = .ok z w) (hM : MapAt w b l) :
    (Instr.lookup mty (.map (some b)) (.string s) true).run P w = .ok (.tuple #[(lookL s l).getD z, .bool (lookL s l).isSome]) w := by
  obtain ⟨es, clock, h1, h2⟩ := hM
  have hf := find_of s es.toList l 0 h2
  have hc : ∀ b, (Instr.checkKey b 10000 kt (.string s)).run P w = .ok () w := fun b => MapKept.run_checkKey (k := .string s) hk (by simp [MapKept.IsKey]) b 9999
  cases hl : lookL s l with
  | none =>
    rw [hl] at hf
    simp [Instr.lookup, run_underlying hm, MapKept.run_getObj_map h1, hc, MapKept.run_findKey hk hf, hz, Result.andThen]
  | some v =>
    rw [hl] at hf
    obtain ⟨j, hf⟩ := hf
    simp [Instr.lookup, run_underlying hm, MapKept.run_getObj_map h1, hc, MapKept.run_findKey hk hf, Result.andThen]
theorem run_look_nil {P : Program} {w : World} (mty kt et : TypeId) (s : ByteArray) (z : Value) (hm : P.underlying mty = some (.map kt et)) (hk : P.underlying kt = some .string) (hz : (zeroValue et).run P w = .ok z w) :
    (Instr.lookup mty (.map none) (.string s) true).run P w = .ok (.tuple #[z, .bool false]) w := by
  have hc : ∀ b, (Instr.checkKey b 10000 kt (.string s)).run P w = .ok () w := fun b => MapKept.run_checkKey (k := .string s) hk (by simp [MapKept.IsKey]) b 9999
  have hf : Instr.findNow .string (.string s) ([] : List MapEntry) 0 = some none := rfl
  simp [Instr.lookup, run_underlying hm, hc, MapKept.run_findKey hk hf, hz, Result.andThen]
end Go.Proofs.YtlhegfkpgchaeaaGreatDoor.Map

namespace Go.Proofs.YtlhegfkpgchaeaaGreatDoor.Word
open Go.RowKit Go.Proofs.YtlhegfkpgchaeaaGreatDoor.Low Go.Proofs.YtlhegfkpgchaeaaGreatDoor.Map
def vv (k n : Int) : Value := .agg #[.int .i64 k, .int .i64 n]
set_option maxHeartbeats 400000 in
theorem keyC (n : Int) (w : World) : Calls Tryz.prog 129 #[.int .i64 n] w fun e w' => e = .returned (vv 1 n) ∧ Below w.heap.size w w' := by
  go_enter Tryz.func129, Tryz.ntmps129
  go_wp2
  exact bodyPost_ret (v := vv 1 n) (by simp [results, Tryz.results129, go_sem, vv]) rfl ⟨rfl, (Below.refl _ _).alloc (Nat.le_refl _) _⟩
set_option maxHeartbeats 400000 in
theorem colC (n : Int) (w : World) : Calls Tryz.prog 130 #[.int .i64 n] w fun e w' => e = .returned (vv 6 n) ∧ Below w.heap.size w w' := by
  go_enter Tryz.func130, Tryz.ntmps130
  go_wp2
  exact bodyPost_ret (v := vv 6 n) (by simp [results, Tryz.results130, go_sem, vv]) rfl ⟨rfl, (Below.refl _ _).alloc (Nat.le_refl _) _⟩
abbrev kv (l : List UInt8) (v : Value) : ByteArray × Value := (⟨l.toArray⟩, v)
def keysL (p : Int) : List (ByteArray × Value) :=
  if p = 0 then [kv [98, 108, 97, 99, 107] (vv 6 0), kv [119, 104, 105, 116, 101] (vv 6 16777215), kv [114, 101, 100] (vv 6 16711680), kv [103, 114, 101, 101, 110] (vv 6 32768), kv [98, 108, 117, 101] (vv 6 255)]
  else if p = 2 then [kv [108, 101, 102, 116] (vv 1 0), kv [114, 105, 103, 104, 116] (vv 1 1), kv [99, 101, 110, 116, 101, 114] (vv 1 2)]
  else if p = 3 then [kv [110, 111, 110, 101] (vv 1 0), kv [98, 108, 111, 99, 107] (vv 1 1), kv [105, 110, 108, 105, 110, 101] (vv 1 2)]
  else if p = 4 ∨ p = 7 then [kv [97, 117, 116, 111] (vv 1 0)]
  else []
def KeysPost (p : Int) (w : World) (e : Ending) (w' : World) : Prop :=
  Below w.heap.size w w' ∧ ((e = .returned (.map none) ∧ keysL p = []) ∨ ∃ b, e = .returned (.map (some b)) ∧ MapAt w' b (keysL p))
set_option maxHeartbeats 1000000 in
set_option maxRecDepth 100000 in
theorem keys0 (w : World) : Calls Tryz.prog 111 #[.int .i64 0] w (KeysPost 0 w) := by
  go_enter Tryz.func111, Tryz.ntmps111
  go_wp2_with (first | (refine wpList_makeMap_new _ rfl _ rfl ?_; intro w1 hM hBW) | (go_at_call 130; refine (colC _ _).mono ?_; rintro e w2 ⟨rfl, hb1⟩; replace hM := hM.below hb1; replace hBW := bstep hBW hb1; clear hb1) | (refine wpList_insert_new _ rfl _ _ _ _ rfl _ _ Tryz.underlying136 Tryz.underlying9 w.heap.size w.heap.size _ rfl hM ⟨#[98, 108, 97, 99, 107]⟩ (vv 6 0) rfl rfl (by decide) (Nat.le_refl _) ?_; intro w2 hM2 hb1; replace hM := hM2; replace hBW := hBW.trans hb1; clear hb1 hM2) | (refine wpList_insert_new _ rfl _ _ _ _ rfl _ _ Tryz.underlying136 Tryz.underlying9 w.heap.size w.heap.size _ rfl hM ⟨#[119, 104, 105, 116, 101]⟩ (vv 6 16777215) rfl rfl (by decide) (Nat.le_refl _) ?_; intro w2 hM2 hb1; replace hM := hM2; replace hBW := hBW.trans hb1; clear hb1 hM2) | (refine wpList_insert_new _ rfl _ _ _ _ rfl _ _ Tryz.underlying136 Tryz.underlying9 w.heap.size w.heap.size _ rfl hM ⟨#[114, 101, 100]⟩ (vv 6 16711680) rfl rfl (by decide) (Nat.le_refl _) ?_; intro w2 hM2 hb1; replace hM := hM2; replace hBW := hBW.trans hb1; clear hb1 hM2) | (refine wpList_insert_new _ rfl _ _ _ _ rfl _ _ Tryz.underlying136 Tryz.underlying9 w.heap.size w.heap.size _ rfl hM ⟨#[103, 114, 101, 101, 110]⟩ (vv 6 32768) rfl rfl (by decide) (Nat.le_refl _) ?_; intro w2 hM2 hb1; replace hM := hM2; replace hBW := hBW.trans hb1; clear hb1 hM2) | (refine wpList_insert_new _ rfl _ _ _ _ rfl _ _ Tryz.underlying136 Tryz.underlying9 w.heap.size w.heap.size _ rfl hM ⟨#[98, 108, 117, 101]⟩ (vv 6 255) rfl rfl (by decide) (Nat.le_refl _) ?_; intro w2 hM2 hb1; replace hM := hM2; replace hBW := hBW.trans hb1; clear hb1 hM2))
  go_ret
  exact ⟨hBW, .inr ⟨_, rfl, hM⟩⟩
set_option maxHeartbeats 1000000 in
set_option maxRecDepth 100000 in
theorem keys2 (w : World) : Calls Tryz.prog 111 #[.int .i64 2] w (KeysPost 2 w) := by
  go_enter Tryz.func111, Tryz.ntmps111
  go_wp2_with (first | (refine wpList_makeMap_new _ rfl _ rfl ?_; intro w1 hM hBW) | (go_at_call 129; refine (keyC _ _).mono ?_; rintro e w2 ⟨rfl, hb1⟩; replace hM := hM.below hb1; replace hBW := bstep hBW hb1; clear hb1) | (refine wpList_insert_new _ rfl _ _ _ _ rfl _ _ Tryz.underlying136 Tryz.underlying9 w.heap.size w.heap.size _ rfl hM ⟨#[108, 101, 102, 116]⟩ (vv 1 0) rfl rfl (by decide) (Nat.le_refl _) ?_; intro w2 hM2 hb1; replace hM := hM2; replace hBW := hBW.trans hb1; clear hb1 hM2) | (refine wpList_insert_new _ rfl _ _ _ _ rfl _ _ Tryz.underlying136 Tryz.underlying9 w.heap.size w.heap.size _ rfl hM ⟨#[114, 105, 103, 104, 116]⟩ (vv 1 1) rfl rfl (by decide) (Nat.le_refl _) ?_; intro w2 hM2 hb1; replace hM := hM2; replace hBW := hBW.trans hb1; clear hb1 hM2) | (refine wpList_insert_new _ rfl _ _ _ _ rfl _ _ Tryz.underlying136 Tryz.underlying9 w.heap.size w.heap.size _ rfl hM ⟨#[99, 101, 110, 116, 101, 114]⟩ (vv 1 2) rfl rfl (by decide) (Nat.le_refl _) ?_; intro w2 hM2 hb1; replace hM := hM2; replace hBW := hBW.trans hb1; clear hb1 hM2))
  go_ret
  exact ⟨hBW, .inr ⟨_, rfl, hM⟩⟩
set_option maxHeartbeats 1000000 in
set_option maxRecDepth 100000 in
theorem keys3 (w : World) : Calls Tryz.prog 111 #[.int .i64 3] w (KeysPost 3 w) := by
  go_enter Tryz.func111, Tryz.ntmps111
  go_wp2_with (first | (refine wpList_makeMap_new _ rfl _ rfl ?_; intro w1 hM hBW) | (go_at_call 129; refine (keyC _ _).mono ?_; rintro e w2 ⟨rfl, hb1⟩; replace hM := hM.below hb1; replace hBW := bstep hBW hb1; clear hb1) | (refine wpList_insert_new _ rfl _ _ _ _ rfl _ _ Tryz.underlying136 Tryz.underlying9 w.heap.size w.heap.size _ rfl hM ⟨#[110, 111, 110, 101]⟩ (vv 1 0) rfl rfl (by decide) (Nat.le_refl _) ?_; intro w2 hM2 hb1; replace hM := hM2; replace hBW := hBW.trans hb1; clear hb1 hM2) | (refine wpList_insert_new _ rfl _ _ _ _ rfl _ _ Tryz.underlying136 Tryz.underlying9 w.heap.size w.heap.size _ rfl hM ⟨#[98, 108, 111, 99, 107]⟩ (vv 1 1) rfl rfl (by decide) (Nat.le_refl _) ?_; intro w2 hM2 hb1; replace hM := hM2; replace hBW := hBW.trans hb1; clear hb1 hM2) | (refine wpList_insert_new _ rfl _ _ _ _ rfl _ _ Tryz.underlying136 Tryz.underlying9 w.heap.size w.heap.size _ rfl hM ⟨#[105, 110, 108, 105, 110, 101]⟩ (vv 1 2) rfl rfl (by decide) (Nat.le_refl _) ?_; intro w2 hM2 hb1; replace hM := hM2; replace hBW := hBW.trans hb1; clear hb1 hM2))
  go_ret
  exact ⟨hBW, .inr ⟨_, rfl, hM⟩⟩
set_option maxHeartbeats 1000000 in
set_option maxRecDepth 100000 in
theorem keys4 (w : World) : Calls Tryz.prog 111 #[.int .i64 4] w (KeysPost 4 w) := by
  go_enter Tryz.func111, Tryz.ntmps111
  go_wp2_with (first | (refine wpList_makeMap_new _ rfl _ rfl ?_; intro w1 hM hBW) | (go_at_call 129; refine (keyC _ _).mono ?_; rintro e w2 ⟨rfl, hb1⟩; replace hM := hM.below hb1; replace hBW := bstep hBW hb1; clear hb1) | (refine wpList_insert_new _ rfl _ _ _ _ rfl _ _ Tryz.underlying136 Tryz.underlying9 w.heap.size w.heap.size _ rfl hM ⟨#[97, 117, 116, 111]⟩ (vv 1 0) rfl rfl (by decide) (Nat.le_refl _) ?_; intro w2 hM2 hb1; replace hM := hM2; replace hBW := hBW.trans hb1; clear hb1 hM2))
  go_ret
  exact ⟨hBW, .inr ⟨_, rfl, hM⟩⟩
set_option maxHeartbeats 1000000 in
set_option maxRecDepth 100000 in
theorem keys7 (w : World) : Calls Tryz.prog 111 #[.int .i64 7] w (KeysPost 7 w) := by
  go_enter Tryz.func111, Tryz.ntmps111
  go_wp2_with (first | (refine wpList_makeMap_new _ rfl _ rfl ?_; intro w1 hM hBW) | (go_at_call 129; refine (keyC _ _).mono ?_; rintro e w2 ⟨rfl, hb1⟩; replace hM := hM.below hb1; replace hBW := bstep hBW hb1; clear hb1) | (refine wpList_insert_new _ rfl _ _ _ _ rfl _ _ Tryz.underlying136 Tryz.underlying9 w.heap.size w.heap.size _ rfl hM ⟨#[97, 117, 116, 111]⟩ (vv 1 0) rfl rfl (by decide) (Nat.le_refl _) ?_; intro w2 hM2 hb1; replace hM := hM2; replace hBW := hBW.trans hb1; clear hb1 hM2))
  go_ret
  exact ⟨hBW, .inr ⟨_, rfl, hM⟩⟩
set_option maxHeartbeats 1000000 in
theorem keysNo (p : Int) (h0 : ¬ p = 0) (h2 : ¬ p = 2) (h3 : ¬ p = 3) (h4 : ¬ p = 4) (h7 : ¬ p = 7) (w : World) : Calls Tryz.prog 111 #[.int .i64 p] w (KeysPost p w) := by
  have hk : Hid (keysL p = []) := Lib.hid (by unfold keysL; rw [if_neg h0, if_neg h2, if_neg h3, if_neg (by omega)])
  go_enter Tryz.func111, Tryz.ntmps111
  go_wp2
  go_ret
  exact ⟨Below.refl _ _, .inl ⟨rfl, hk.out⟩⟩
theorem keys (p : Int) (w : World) : Calls Tryz.prog 111 #[.int .i64 p] w (KeysPost p w) := by
  by_cases h0 : p = 0
  · subst h0; exact keys0 w
  · by_cases h2 : p = 2
    · subst h2; exact keys2 w
    · by_cases h3 : p = 3
      · subst h3; exact keys3 w
      · by_cases h4 : p = 4
        · subst h4; exact keys4 w
        · by_cases h7 : p = 7
          · subst h7; exact keys7 w
          · exact keysNo p h0 h2 h3 h4 h7 w
end Go.Proofs.YtlhegfkpgchaeaaGreatDoor.Word

namespace Go.Proofs.YtlhegfkpgchaeaaGreatDoor.Giv
open Go.RowKit Go.Proofs.YtlhegfkpgchaeaaGreatDoor.Low
def keyV (p : Int) (l : List UInt8) : Option (Int × Int) :=
  if p = 0 then
    if l = [98, 108, 97, 99, 107] then some (6, 0) else if l = [119, 104, 105, 116, 101] then some (6, 16777215) else if l = [114, 101, 100] then some (6, 16711680)
    else if l = [103, 114, 101, 101, 110] then some (6, 32768) else if l = [98, 108, 117, 101] then some (6, 255) else none
  else if p = 2 then
    if l = [108, 101, 102, 116] then some (1, 0) else if l = [114, 105, 103, 104, 116] then some (1, 1) else if l = [99, 101, 110, 116, 101, 114] then some (1, 2) else none
  else if p = 3 then
    if l = [110, 111, 110, 101] then some (1, 0) else if l = [98, 108, 111, 99, 107] then some (1, 1) else if l = [105, 110, 108, 105, 110, 101] then some (1, 2) else none
  else if p = 4 ∨ p = 7 then
    if l = [97, 117, 116, 111] then some (1, 0) else none
  else none
def wordV (p : Int) (l : List UInt8) : Int × Int × Bool :=
  if l = [105, 110, 104, 101, 114, 105, 116] then (7, 0, true) else if l = [105, 110, 105, 116, 105, 97, 108] then (8, 0, true) else if l = [117, 110, 115, 101, 116] then (9, 0, true)
  else match keyV p l with | some (k, n) => (k, n, true) | none => (0, 0, false)
def hexV (c : UInt8) : Option Int :=
  if 48 ≤ c.toNat ∧ c.toNat ≤ 57 then some (c.toNat - 48) else if 97 ≤ c.toNat ∧ c.toNat ≤ 102 then some (c.toNat - 87) else if 65 ≤ c.toNat ∧ c.toNat ≤ 70 then some (c.toNat - 55) else none
def hexL : List UInt8 → Int → Option Int
  | [], n => some n
  | c :: l, n => match hexV c with | some d => hexL l (n * 16 + d) | none => none
def colorV (l : List UInt8) : Int × Int × Bool :=
  let m := match l with | [a, b, c] => [a, a, b, b, c, c] | _ => l
  if m.length = 6 then (match hexL m 0 with | some n => (6, n, true) | none => (0, 0, false)) else (0, 0, false)
end Go.Proofs.YtlhegfkpgchaeaaGreatDoor.Giv

