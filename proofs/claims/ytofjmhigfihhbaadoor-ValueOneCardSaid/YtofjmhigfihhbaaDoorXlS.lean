/- Declarations that are handed to a statement, as data that does not turn. -/
import Derived.Test.YtofjmhigfihhbaaDoorXlR
import Derived.Test.YtofjmhigfihhbaaDoorXvE
namespace Go.Proofs.YtofjmhigfihhbaaDoor.Aw
open Go Go.RowKit Go.Lib Go.Deep Go.WideShapes
set_option linter.unusedVariables false
set_option linter.unusedSimpArgs false
set_option maxRecDepth 100000
instance : Inhabited Dcl := ⟨{}⟩
theorem cell_in {w : World} {a : Addr} {v : Value} (h : w.cell? a = some v) : a.spot = none ∧ a.block < w.heap.size := by
  unfold World.cell? at h
  split at h
  · rename_i c e f hb
    split at h
    · cases h
    · rename_i hs
      refine ⟨by simpa using hs, ?_⟩
      rcases Nat.lt_or_ge a.block w.heap.size with h5 | h5
      · exact h5
      · rw [Array.getElem?_eq_none h5] at hb; cases hb
  · cases h
section
variable {H : Type} {enc : TypeId × Value → H} {w : World} {v : Value} {d : DataW H} {ps : List MemPlace}
theorem weights_all {e : TypeId} : ∀ {l : List (DataW H)} {d : DataW H}, d ∈ l → ∀ n ∈ d.weights P e, n ∈ DataW.weightsAll P e l
  | x :: l, d, hd, n, hn => by
    simp only [DataW.weightsAll, List.mem_append]
    rcases List.mem_cons.1 hd with rfl | h
    · exact .inl hn
    · exact .inr (weights_all h n hn)
theorem open_tokW {n : Nat} {cs : List Value} {y : DataW H × List MemPlace} (h : DataW.trod enc P w 0 (fun _ => true) true n 25 cs = some y) (hw : ∀ m ∈ y.1.weights P 25, m ≤ reachBytes) :
    ∃ k : Tok, cs = [.int .i64 k.kind, .string ⟨k.text.toArray⟩, .int .i64 k.n, .bool k.whole, .int .i64 k.c] ∧ k.text.length ≤ 140737488355328 := by
  obtain ⟨xs, m, _, rfl, hcl, hxl, hf⟩ := DataW.trod_struct (enc := enc) (P := P) (w := w) Tryd.underlying25 h
  have hcl : cs.length = 5 := by rw [hcl]; kernel_rfl
  have hxl : xs.length = 5 := hxl
  have q1 : P.cellsOf 3 = 1 := by kernel_rfl
  have q2 : P.cellsOf 9 = 1 := by kernel_rfl
  have q3 : P.cellsOf 4 = 1 := by kernel_rfl
  match cs, hcl, xs, hxl with
  | [c0, c1, c2, c3, c4], _, [x0, x1, x2, x3, x4], _ =>
    have g0 : DataW.trod enc P w 0 (fun _ => true) true m 3 [c0] = some x0 := by simpa [q1] using hf 0 _ rfl
    have g1 : DataW.trod enc P w 0 (fun _ => true) true m 9 [c1] = some x1 := by simpa [q2] using hf 1 _ rfl
    have g2 : DataW.trod enc P w 0 (fun _ => true) true m 3 [c2] = some x2 := by simpa [q1] using hf 2 _ rfl
    have g3 : DataW.trod enc P w 0 (fun _ => true) true m 4 [c3] = some x3 := by simpa [q3] using hf 3 _ rfl
    have g4 : DataW.trod enc P w 0 (fun _ => true) true m 3 [c4] = some x4 := by simpa [q1] using hf 4 _ rfl
    obtain ⟨n0, e0, _, _⟩ := DataW.trod_int Tryd.underlying3 g0
    obtain ⟨s1, e1, e1', _⟩ := DataW.trod_string Tryd.underlying9 g1
    obtain ⟨n2, e2, _, w2⟩ := DataW.trod_int Tryd.underlying3 g2
    obtain ⟨b3, e3, _⟩ := DataW.trod_bool Tryd.underlying4 g3
    obtain ⟨n4, e4, _, _⟩ := DataW.trod_int Tryd.underlying3 g4
    cases e0; cases e1; cases e2; cases e3; cases e4
    subst e1'
    refine ⟨{ kind := n0, text := s1.data.toList, n := n2, whole := b3, c := n4 }, rfl, ?_⟩
    have hz := hw s1.data.toList.length (by
      simp only [DataW.weights, Tryd.underlying25]
      refine DataW.weights_mem_each (j := 1) (t := 9) (d := .lit (.string s1.data.toList)) rfl rfl _ ?_
      simp [DataW.weights])
    have := reachBytes_lt
    dsimp only
    omega
theorem toks_of {n : Nat} {cs : List Value} {y : DataW H × List MemPlace} (h : DataW.trod enc P w 0 (fun _ => true) true n 22 cs = some y) (hw : ∀ m ∈ y.1.weights P 22, m ≤ reachBytes) :
    ∃ v t, cs = [v] ∧ RepF (fun b => b < w.heap.size) w (.sl (toksF t)) v ∧ t.length < 9223372036854775808 ∧ ∀ k ∈ t, k.text.length ≤ 140737488355328 := by
  rcases open_slice Tryd.underlying22 h with ⟨e1, _⟩ | ⟨a, len, cap, m, n, D, Pl, e1, _, hl, hml, hm, hy, hx⟩
  rotate_left
  have hml : cap ≤ 9223372036854775807 := hml
  rotate_left
  · exact ⟨nilS, [], e1, by unfold RepF; exact .inl ⟨⟨_, rfl⟩, rfl⟩, by simp, by simp⟩
  · have hmc : m = cap := by simpa using hm
    subst hmc
    subst e1
    rcases Nat.eq_zero_or_pos m with h0 | h0
    · subst h0
      have : len = 0 := by omega
      subst this
      exact ⟨_, [], rfl, by unfold RepF; exact .inl ⟨⟨_, rfl⟩, rfl⟩, by simp, by simp⟩
    · have hc5 : P.cellsOf 25 = 5 := by kernel_rfl
      rw [hc5] at hx
      have hab : a.spot = none ∧ a.block < w.heap.size := by
        obtain ⟨cs, h1, h2⟩ := hx 0 h0
        obtain ⟨k, rfl, _⟩ := open_tok h2
        obtain ⟨_, _, hcell⟩ := World.cells?_some h1
        have := hcell 0 (by decide)
        have e : ((a.add (0 * 5)).add 0) = a := by simp [Addr.add]
        rw [e] at this
        exact cell_in (v := .int .i64 k.kind) (by simpa using this)
      obtain ⟨b, o, sp⟩ := a
      obtain ⟨rfl, hb⟩ := hab
      have each : ∀ i, i < len → ∃ k : Tok, (∀ j x, (tokRow k)[j]? = some x → ∃ y, w.cell? ⟨b, o + i * 5 + j, none⟩ = some y ∧ RepF (fun b => b < w.heap.size) w x y) ∧ k.text.length ≤ 140737488355328 := fun i hi => by
        obtain ⟨cs, h1, h2⟩ := hx i (by omega)
        obtain ⟨k, rfl, g1⟩ := open_tokW h2 (fun z hz => hw z (by
          rw [hy]
          simp only [DataW.weights, Tryd.underlying22, List.mem_cons, List.mem_append]
          exact .inr (.inl (weights_all (List.mem_map.2 ⟨i, List.mem_range.2 hi, rfl⟩) z hz))))
        obtain ⟨_, _, hcell⟩ := World.cells?_some h1
        refine ⟨k, fun j x hj => ?_, g1⟩
        have hj5 : j < 5 := by
          have := (List.getElem?_eq_some_iff.1 hj).1
          simpa [tokRow] using this
        have hcell' := hcell j hj5
        rw [adr, adr] at hcell'
        have : j = 0 ∨ j = 1 ∨ j = 2 ∨ j = 3 ∨ j = 4 := by omega
        rcases this with rfl | rfl | rfl | rfl | rfl
        all_goals (simp [tokRow] at hj; subst hj; exact ⟨_, by simpa using hcell' , by unfold RepF; exact ⟨rfl, rfl⟩⟩)
      obtain ⟨K, hK⟩ := choose_lt each
      refine ⟨_, (List.range len).map K, rfl, ?_, by simp; omega, ?_⟩
      · unfold RepF
        refine .inr ⟨b, o, m, by simp [toksF], by simpa [toksF] using hl, hb, ?_⟩
        have : toksF ((List.range len).map K) = (List.range len).map (tokRow ∘ K) := by simp [toksF, List.map_map]
        rw [this]
        exact repR_of (s := 5) len o _ (fun i hi => ⟨by simp [tokRow], repC_of _ _ (hK i hi).1⟩)
      · intro k hk
        obtain ⟨i, hi, rfl⟩ := List.mem_map.1 hk
        exact (hK i (List.mem_range.1 hi)).2
/-- A declaration, out of three cells. -/
theorem open_dcl {n : Nat} {cs : List Value} {y : DataW H × List MemPlace} (h : DataW.trod enc P w 0 (fun _ => true) true n 41 cs = some y) (hw : ∀ m ∈ y.1.weights P 41, m ≤ reachBytes) :
    ∃ (k : Dcl) (v : Value), cs = [.string ⟨k.name.toArray⟩, v, .bool k.imp] ∧ RepF (fun b => b < w.heap.size) w (.sl (toksF k.value)) v ∧ DclOk k := by
  obtain ⟨xs, m, _, rfl, hcl, hxl, hf⟩ := DataW.trod_struct (enc := enc) (P := P) (w := w) Tryd.underlying41 h
  have hcl : cs.length = 3 := by rw [hcl]; kernel_rfl
  have hxl : xs.length = 3 := hxl
  have q1 : P.cellsOf 22 = 1 := by kernel_rfl
  have q2 : P.cellsOf 9 = 1 := by kernel_rfl
  have q3 : P.cellsOf 4 = 1 := by kernel_rfl
  match cs, hcl, xs, hxl with
  | [c0, c1, c2], _, [x0, x1, x2], _ =>
    have g0 : DataW.trod enc P w 0 (fun _ => true) true m 9 [c0] = some x0 := by simpa [q2] using hf 0 _ rfl
    have g1 : DataW.trod enc P w 0 (fun _ => true) true m 22 [c1] = some x1 := by simpa [q1] using hf 1 _ rfl
    have g2 : DataW.trod enc P w 0 (fun _ => true) true m 4 [c2] = some x2 := by simpa [q3] using hf 2 _ rfl
    obtain ⟨s0, e0, _, _⟩ := DataW.trod_string Tryd.underlying9 g0
    obtain ⟨b2, e2, _⟩ := DataW.trod_bool Tryd.underlying4 g2
    obtain ⟨v, t, e1, f1, f3, f2⟩ := toks_of g1 (fun z hz => hw z (by
      simp only [DataW.weights, Tryd.underlying41]
      exact DataW.weights_mem_each (j := 1) (t := 22) (d := x1.1) rfl rfl z hz))
    cases e0; cases e1; cases e2
    exact ⟨{ name := s0.data.toList, value := t, imp := b2 }, _, rfl, f1, ⟨f3, f2⟩⟩
theorem open_dcls (hok : Value.okWide P w .any 0 39 v) (h : DataW.Trod enc P w 0 (fun _ => true) true 39 v d ps) (hw : ∀ m ∈ d.weights P 39, m ≤ reachBytes) :
    ∃ l : List Dcl, RepF (fun b => b < w.heap.size) w (.sl (dclsF l)) v ∧ ∀ d ∈ l, DclOk d := by
  rcases slice_ok Tryd.underlying39 hok with rfl | ⟨b, o, len, cap, rfl, hl, hb⟩
  · exact ⟨[], by unfold RepF; exact .inl ⟨⟨_, rfl⟩, rfl⟩, by intro d hd; cases hd⟩
  · obtain ⟨fuel, hf⟩ := h
    rcases open_slice Tryd.underlying39 hf with ⟨e1, _⟩ | ⟨a, len', cap', m, n, D, Pl, e1, _, hl', _, hm, hy, hx⟩
    · simp [Value.cells] at e1
    · have e2 : Value.slice (some ⟨b, o, none⟩) len cap = .slice (some a) len' cap' := by simpa [Value.cells] using e1
      cases e2
      have hmc : m = cap := by simpa using hm
      subst hmc
      have hy : d = _ := congrArg Prod.fst hy
      have hc3 : P.cellsOf 41 = 3 := by kernel_rfl
      rw [hc3] at hx
      have each : ∀ i, i < len → ∃ k : Dcl, (∀ j x, k.row[j]? = some x → ∃ y, w.cell? ⟨b, o + i * 3 + j, none⟩ = some y ∧ RepF (fun b => b < w.heap.size) w x y) ∧ DclOk k := fun i hi => by
        obtain ⟨cs, h1, h2⟩ := hx i (by omega)
        obtain ⟨k, v, rfl, g1, g2⟩ := open_dcl h2 (fun z hz => hw z (by
          rw [hy]
          simp only [DataW.weights, Tryd.underlying39, List.mem_cons, List.mem_append]
          exact .inr (.inl (weights_all (List.mem_map.2 ⟨i, List.mem_range.2 hi, rfl⟩) z hz))))
        obtain ⟨_, _, hcell⟩ := World.cells?_some h1
        refine ⟨k, fun j x hj => ?_, g2⟩
        have hj3 : j < 3 := by
          have := (List.getElem?_eq_some_iff.1 hj).1
          simpa [Dcl.row] using this
        have hcell' := hcell j hj3
        rw [adr, adr] at hcell'
        have : j = 0 ∨ j = 1 ∨ j = 2 := by omega
        rcases this with rfl | rfl | rfl
        · simp [Dcl.row] at hj; subst hj; exact ⟨_, by simpa using hcell' , by unfold RepF; exact ⟨rfl, rfl⟩⟩
        · simp [Dcl.row] at hj; subst hj; exact ⟨_, by simpa using hcell', g1⟩
        · simp [Dcl.row] at hj; subst hj; exact ⟨_, by simpa using hcell' , by unfold RepF; exact ⟨rfl, rfl⟩⟩
      obtain ⟨K, hK⟩ := choose_lt each
      refine ⟨(List.range len).map K, ?_, ?_⟩
      · unfold RepF
        refine .inr ⟨b, o, m, by simp [dclsF], by simpa [dclsF] using hl, hb, ?_⟩
        have : dclsF ((List.range len).map K) = (List.range len).map (Dcl.row ∘ K) := by simp [dclsF, List.map_map]
        rw [this]
        exact repR_of (s := 3) len o _ (fun i hi => ⟨by simp [Dcl.row], repC_of _ _ (hK i hi).1⟩)
      · intro k hk
        obtain ⟨i, hi, rfl⟩ := List.mem_map.1 hk
        exact (hK i (List.mem_range.1 hi)).2
end
end Go.Proofs.YtofjmhigfihhbaaDoor.Aw
