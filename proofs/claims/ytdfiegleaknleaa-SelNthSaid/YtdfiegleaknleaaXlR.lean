/- Slices that are handed to a statement, as data that does not turn. -/
import Derived.Test.YtdfiegleaknleaaXlG
import Derived.Deep.Slices
import Derived.WideShapes
import Derived.DataReads
namespace Go.Proofs.Ytdfiegleaknleaa.Aw
open Go Go.RowKit Go.Lib Go.Deep Go.WideShapes
set_option linter.unusedVariables false
set_option linter.unusedSimpArgs false
set_option maxRecDepth 100000
instance : Inhabited Tok := ⟨{}⟩
theorem repR_of {imm : Nat → Prop} {w : World} {s b : Nat} : ∀ (len o : Nat) (E : Nat → List F), (∀ i, i < len → (E i).length = s ∧ RepC imm w (E i) b (o + i * s)) → RepR imm w ((List.range len).map E) b o
  | 0, o, E, _ => by simp [RepR]
  | len + 1, o, E, h => by
    rw [List.range_succ_eq_map, List.map_cons, List.map_map]
    unfold RepR
    have h0 := h 0 (Nat.zero_lt_succ _)
    refine ⟨by simpa using h0.2, ?_⟩
    rw [h0.1]
    refine repR_of (s := s) len (o + s) (E ∘ Nat.succ) (fun i hi => ?_)
    have h1 := h (i + 1) (Nat.succ_lt_succ hi)
    refine ⟨h1.1, ?_⟩
    have : o + s + i * s = o + (i + 1) * s := by rw [Nat.add_mul]; omega
    rw [this]
    exact h1.2
theorem repC_of {imm : Nat → Prop} {w : World} {b : Nat} : ∀ (xs : List F) (o : Nat), (∀ j x, xs[j]? = some x → ∃ y, w.cell? ⟨b, o + j, none⟩ = some y ∧ RepF imm w x y) → RepC imm w xs b o
  | [], _, _ => by unfold RepC; trivial
  | x :: xs, o, h => by
    unfold RepC
    refine ⟨by simpa using h 0 x rfl, repC_of xs (o + 1) (fun j y hj => ?_)⟩
    have := h (j + 1) y (by simpa using hj)
    rw [show o + 1 + j = o + (j + 1) by omega]
    exact this
theorem slice_ok {w : World} {t e : TypeId} {v : Value} (ht : P.underlying t = some (.slice e)) (h : Value.okWide P w .any 0 t v) : v = nilS ∨ ∃ b o len cap, v = .slice (some ⟨b, o, none⟩) len cap ∧ len ≤ cap ∧ b < w.heap.size := by
  obtain ⟨a, len, cap, rfl⟩ := okWide_slice ht h
  simp only [Value.okWide, ht, Cell.okWide] at h
  cases a with
  | none =>
    left
    simp only [Cell.ok, ht] at h
    split at h <;> simp_all
  | some a =>
    right
    simp only [Cell.ok, ht] at h
    obtain ⟨h1, _, _, h3, row, cells, h4, _⟩ := h
    obtain ⟨b, o, sp⟩ := a
    simp only at h3
    subst h3
    refine ⟨b, o, len, cap, rfl, h1, ?_⟩
    unfold World.shape? at h4
    rcases Nat.lt_or_ge b w.heap.size with h5 | h5
    · exact h5
    · rw [Array.getElem?_eq_none h5] at h4
      simp at h4
section
variable {H : Type} {enc : TypeId × Value → H} {w : World} {v : Value} {d : DataW H} {ps : List MemPlace}
theorem adr (b o i : Nat) : (⟨b, o, none⟩ : Addr).add i = ⟨b, o + i, none⟩ := addr_add b o i
/-- A slice of one cell's elements. -/
theorem open_ones {t e : TypeId} (f : Value → F) (ht : P.underlying t = some (.slice e)) (hc : P.cellsOf e = 1) (hok : Value.okWide P w .any 0 t v) (h : DataW.Trod enc P w 0 (fun _ => true) true t v d ps)
    (he : ∀ x n y, DataW.trod enc P w 0 (fun _ => true) true n e [x] = some y → RepF (fun b => b < w.heap.size) w (f x) x) :
    ∃ (len : Nat) (V : Nat → Value), RepF (fun b => b < w.heap.size) w (.sl ((List.range len).map fun i => [f (V i)])) v ∧ ∀ i, i < len → ∃ n y, DataW.trod enc P w 0 (fun _ => true) true n e [V i] = some y := by
  rcases slice_ok ht hok with rfl | ⟨b, o, len, cap, rfl, hl, hb⟩
  · exact ⟨0, fun _ => undef, by unfold RepF; exact .inl ⟨⟨_, rfl⟩, rfl⟩, fun i hi => by omega⟩
  · obtain ⟨fuel, hf⟩ := h
    rcases open_slice1 ht hc hf with ⟨e1, _⟩ | ⟨a, len', cap', m, n, V, D, Pl, e1, _, hl', _, hm, _, hx⟩
    · simp [Value.cells] at e1
    · have e2 : Value.slice (some ⟨b, o, none⟩) len cap = .slice (some a) len' cap' := by simpa [Value.cells] using e1
      cases e2
      have hmc : m = cap := by simpa using hm
      subst hmc
      refine ⟨len, V, ?_, fun i hi => ⟨n, _, (hx i (by omega)).2⟩⟩
      unfold RepF
      refine .inr ⟨b, o, m, by simp, by simpa using hl, hb, ?_⟩
      refine repR_of (s := 1) len o _ (fun i hi => ⟨rfl, ?_⟩)
      have h1 := hx i (by omega)
      rw [adr] at h1
      refine repC_of _ _ (fun j x hj => ?_)
      cases j with
      | zero =>
        simp at hj
        subst hj
        exact ⟨V i, by simpa using h1.1, he _ _ _ h1.2⟩
      | succ j => simp at hj
theorem open_byteS {t : TypeId} (ht : P.underlying t = some (.slice 5)) (hok : Value.okWide P w .any 0 t v) (h : DataW.Trod enc P w 0 (fun _ => true) true t v d ps) :
    ∃ bs : List UInt8, RepF (fun b => b < w.heap.size) w (.sl (bs.map byteRow)) v := by
  obtain ⟨len, V, h1, h2⟩ := open_ones (fun x => .v x) ht (by kernel_rfl) hok h (fun x n y hy => by
    obtain ⟨k, e1, _⟩ := DataW.trod_int Try.underlying5 hy
    have : x = .int .u8 k := by simpa using e1
    subst this
    unfold RepF
    exact ⟨rfl, rfl⟩)
  refine ⟨(List.range len).map fun i => b8 (match V i with | .int _ k => k | _ => 0), ?_⟩
  have e : (List.range len).map (fun i => [F.v (V i)]) = ((List.range len).map fun i => b8 (match V i with | .int _ k => k | _ => 0)).map byteRow := by
    rw [List.map_map]
    refine List.map_congr_left fun i hi => ?_
    obtain ⟨n, y, hy⟩ := h2 i (List.mem_range.1 hi)
    obtain ⟨k, e1, _, hw⟩ := DataW.trod_int Try.underlying5 hy
    have e2 : V i = .int .u8 k := by simpa using e1
    simp only [Lit.wf, Bool.and_eq_true, decide_eq_true_eq] at hw
    have e3 : IntKind.u8.min = 0 := by decide
    have e4 : IntKind.u8.max = 255 := by decide
    show [F.v (V i)] = byteRow (b8 (match V i with | .int _ k => k | _ => 0))
    rw [e2]
    exact (b8_row (x := k) (by omega) (by omega)).symm
  rw [← e]
  exact h1
theorem open_boolS {t : TypeId} (ht : P.underlying t = some (.slice 4)) (hok : Value.okWide P w .any 0 t v) (h : DataW.Trod enc P w 0 (fun _ => true) true t v d ps) :
    ∃ bs : List Bool, RepF (fun b => b < w.heap.size) w (.sl (bs.map fun b => [.v (.bool b)])) v := by
  obtain ⟨len, V, h1, h2⟩ := open_ones (fun x => .v x) ht (by kernel_rfl) hok h (fun x n y hy => by
    obtain ⟨k, e1, _⟩ := DataW.trod_bool Try.underlying4 hy
    have : x = .bool k := by simpa using e1
    subst this
    unfold RepF
    exact ⟨rfl, rfl⟩)
  refine ⟨(List.range len).map fun i => match V i with | .bool b => b | _ => false, ?_⟩
  have e : (List.range len).map (fun i => [F.v (V i)]) = ((List.range len).map fun i => match V i with | .bool b => b | _ => false).map fun b => [F.v (.bool b)] := by
    rw [List.map_map]
    refine List.map_congr_left fun i hi => ?_
    obtain ⟨n, y, hy⟩ := h2 i (List.mem_range.1 hi)
    obtain ⟨k, e1, _⟩ := DataW.trod_bool Try.underlying4 hy
    have e2 : V i = .bool k := by simpa using e1
    show [F.v (V i)] = [F.v (.bool (match V i with | .bool b => b | _ => false))]
    rw [e2]
  rw [← e]
  exact h1
theorem open_intS {t : TypeId} (ht : P.underlying t = some (.slice 3)) (hok : Value.okWide P w .any 0 t v) (h : DataW.Trod enc P w 0 (fun _ => true) true t v d ps) :
    ∃ l : List Int, RepF (fun b => b < w.heap.size) w (.sl (ptsF l)) v ∧ ∀ x ∈ l, -9223372036854775808 ≤ x ∧ x < 9223372036854775808 := by
  obtain ⟨len, V, h1, h2⟩ := open_ones (fun x => .v x) ht (by kernel_rfl) hok h (fun x n y hy => by
    obtain ⟨k, e1, _⟩ := DataW.trod_int Try.underlying3 hy
    have : x = .int .i64 k := by simpa using e1
    subst this
    unfold RepF
    exact ⟨rfl, rfl⟩)
  have hv : ∀ i, i < len → ∃ k, V i = .int .i64 k ∧ -9223372036854775808 ≤ k ∧ k < 9223372036854775808 := fun i hi => by
    obtain ⟨n, y, hy⟩ := h2 i hi
    obtain ⟨k, e1, _, hw⟩ := DataW.trod_int Try.underlying3 hy
    have e2 : V i = .int .i64 k := by simpa using e1
    simp only [Lit.wf, Bool.and_eq_true, decide_eq_true_eq] at hw
    have m1 : IntKind.i64.min = -9223372036854775808 := by decide
    have m2 : IntKind.i64.max = 9223372036854775807 := by decide
    exact ⟨k, e2, by omega, by omega⟩
  refine ⟨(List.range len).map fun i => (match V i with | .int _ k => k | _ => 0), ?_, ?_⟩
  · have e : (List.range len).map (fun i => [F.v (V i)]) = ptsF ((List.range len).map fun i => (match V i with | .int _ k => k | _ => 0)) := by
      unfold ptsF
      rw [List.map_map]
      refine List.map_congr_left fun i hi => ?_
      obtain ⟨k, e2, _⟩ := hv i (List.mem_range.1 hi)
      show [F.v (V i)] = [F.v (.int .i64 (match V i with | .int _ k => k | _ => 0))]
      rw [e2]
    rw [← e]
    exact h1
  · intro x hx
    obtain ⟨i, hi, rfl⟩ := List.mem_map.1 hx
    obtain ⟨k, e2, h3, h4⟩ := hv i (List.mem_range.1 hi)
    rw [e2]
    exact ⟨h3, h4⟩
/-- A token, out of five cells. -/
theorem open_tok {n : Nat} {cs : List Value} {y : DataW H × List MemPlace} (h : DataW.trod enc P w 0 (fun _ => true) true n 25 cs = some y) :
    ∃ k : Tok, cs = [.int .i64 k.kind, .string ⟨k.text.toArray⟩, .int .i64 k.n, .bool k.whole, .int .i64 k.c] ∧ -9223372036854775808 ≤ k.n ∧ k.n < 9223372036854775808 := by
  obtain ⟨xs, m, _, _, hcl, hxl, hf⟩ := DataW.trod_struct (enc := enc) (P := P) (w := w) Try.underlying25 h
  have hcl : cs.length = 5 := by rw [hcl]; kernel_rfl
  have hxl : xs.length = 5 := hxl
  have q1 : P.cellsOf 3 = 1 := by kernel_rfl
  have q2 : P.cellsOf 9 = 1 := by kernel_rfl
  have q3 : P.cellsOf 4 = 1 := by kernel_rfl
  match cs, hcl, xs, hxl with
  | [c0, c1, c2, c3, c4], _, [x0, x1, x2, x3, x4], _ =>
    have g0 : DataW.trod enc P w 0 (fun _ => true) true m 3 [c0] = some x0 := by simpa [q1] using hf 0 _ rfl
    have g1 : DataW.trod enc P w 0 (fun _ => true) true m 9 [c1] = some x1 := by simpa [q2] using hf 1 _ rfl
    have g2 : DataW.trod enc P w 0 (fun _ => true) true m 3 [c2] = some x2 := by simpa [q1] using hf 2 _ rfl
    have g3 : DataW.trod enc P w 0 (fun _ => true) true m 4 [c3] = some x3 := by simpa [q3] using hf 3 _ rfl
    have g4 : DataW.trod enc P w 0 (fun _ => true) true m 3 [c4] = some x4 := by simpa [q1] using hf 4 _ rfl
    obtain ⟨n0, e0, _, _⟩ := DataW.trod_int Try.underlying3 g0
    obtain ⟨s1, e1, _, _⟩ := DataW.trod_string Try.underlying9 g1
    obtain ⟨n2, e2, _, w2⟩ := DataW.trod_int Try.underlying3 g2
    obtain ⟨b3, e3, _⟩ := DataW.trod_bool Try.underlying4 g3
    obtain ⟨n4, e4, _, _⟩ := DataW.trod_int Try.underlying3 g4
    cases e0; cases e1; cases e2; cases e3; cases e4
    simp only [Lit.wf, Bool.and_eq_true, decide_eq_true_eq] at w2
    have m1 : IntKind.i64.min = -9223372036854775808 := by decide
    have m2 : IntKind.i64.max = 9223372036854775807 := by decide
    exact ⟨{ kind := n0, text := s1.data.toList, n := n2, whole := b3, c := n4 }, rfl, by dsimp only; omega, by dsimp only; omega⟩
theorem open_toks (hok : Value.okWide P w .any 0 22 v) (h : DataW.Trod enc P w 0 (fun _ => true) true 22 v d ps) :
    ∃ t : List Tok, RepF (fun b => b < w.heap.size) w (.sl (toksF t)) v ∧ ∀ k ∈ t, -9223372036854775808 ≤ k.n ∧ k.n < 9223372036854775808 := by
  rcases slice_ok Try.underlying22 hok with rfl | ⟨b, o, len, cap, rfl, hl, hb⟩
  · exact ⟨[], by unfold RepF; exact .inl ⟨⟨_, rfl⟩, rfl⟩, by simp⟩
  · obtain ⟨fuel, hf⟩ := h
    rcases open_slice Try.underlying22 hf with ⟨e1, _⟩ | ⟨a, len', cap', m, n, D, Pl, e1, _, hl', _, hm, _, hx⟩
    · simp [Value.cells] at e1
    · have e2 : Value.slice (some ⟨b, o, none⟩) len cap = .slice (some a) len' cap' := by simpa [Value.cells] using e1
      cases e2
      have hmc : m = cap := by simpa using hm
      subst hmc
      have hc5 : P.cellsOf 25 = 5 := by kernel_rfl
      rw [hc5] at hx
      have each : ∀ i, i < len → ∃ k : Tok, (∀ j x, (tokRow k)[j]? = some x → ∃ y, w.cell? ⟨b, o + i * 5 + j, none⟩ = some y ∧ RepF (fun b => b < w.heap.size) w x y) ∧ -9223372036854775808 ≤ k.n ∧ k.n < 9223372036854775808 := fun i hi => by
        obtain ⟨cs, h1, h2⟩ := hx i (by omega)
        obtain ⟨k, rfl, g1, g2⟩ := open_tok h2
        obtain ⟨_, _, hcell⟩ := World.cells?_some h1
        refine ⟨k, fun j x hj => ?_, g1, g2⟩
        have hj5 : j < 5 := by
          have := (List.getElem?_eq_some_iff.1 hj).1
          simpa [tokRow] using this
        have hcell' := hcell j hj5
        rw [adr, adr] at hcell'
        have : j = 0 ∨ j = 1 ∨ j = 2 ∨ j = 3 ∨ j = 4 := by omega
        rcases this with rfl | rfl | rfl | rfl | rfl
        all_goals (simp [tokRow] at hj; subst hj; exact ⟨_, by simpa using hcell' , by unfold RepF; exact ⟨rfl, rfl⟩⟩)
      obtain ⟨K, hK⟩ := choose_lt each
      refine ⟨(List.range len).map K, ?_, ?_⟩
      · unfold RepF
        refine .inr ⟨b, o, m, by simp [toksF], by simpa [toksF] using hl, hb, ?_⟩
        have : toksF ((List.range len).map K) = (List.range len).map (tokRow ∘ K) := by simp [toksF, List.map_map]
        rw [this]
        exact repR_of (s := 5) len o _ (fun i hi => ⟨by simp [tokRow], repC_of _ _ (hK i hi).1⟩)
      · intro k hk
        obtain ⟨i, hi, rfl⟩ := List.mem_map.1 hk
        exact (hK i (List.mem_range.1 hi)).2
end
end Go.Proofs.Ytdfiegleaknleaa.Aw
