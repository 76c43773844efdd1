/- What the picker reads is not too deep and not too long; SelParse, SelBytes. -/
import Derived.Test.YtlhegfkpgchaeaaGreatDoorXyD
import Derived.Deep.Slices
import Derived.WideShapes
import Derived.DataReads
namespace Go.Proofs.YtlhegfkpgchaeaaGreatDoor.Aw
open Go Go.RowKit Go.Lib Go.Deep Go.WideShapes
set_option linter.unusedVariables false
set_option linter.unusedSimpArgs false
set_option maxRecDepth 100000
instance : Inhabited Tok := ⟨{}⟩
theorem repR_of {imm : Nat → Prop} {w : World} {s b : Nat} : ∀ (len o : Nat) (E : Nat → List F), (∀ i, i < len → (E i).length = s ∧ RepC imm w (E i) b (o + i * s)) → RepR imm w ((List.range len).map E) b o
 | 0, o, E, _ => by simp [RepR]
 | len + 1, o, E, h => by
  rw [List.range_succ_eq_map, List.map_cons, List.map_map]
  unfold RepR
  have h0 := h 0 (Nat.zero_lt_succ _)
  refine ⟨by simpa using h0.2, ?_⟩
  rw [h0.1]
  refine repR_of (s := s) len (o + s) (E ∘ Nat.succ) (fun i hi => ?_)
  have h1 := h (i + 1) (Nat.succ_lt_succ hi)
  refine ⟨h1.1, ?_⟩
  have : o + s + i * s = o + (i + 1) * s := by rw [Nat.add_mul]; omega
  rw [this]
  exact h1.2
theorem repC_of {imm : Nat → Prop} {w : World} {b : Nat} : ∀ (xs : List F) (o : Nat), (∀ j x, xs[j]? = some x → ∃ y, w.cell? ⟨b, o + j, none⟩ = some y ∧ RepF imm w x y) → RepC imm w xs b o
 | [], _, _ => by unfold RepC; trivial
 | x :: xs, o, h => by
  unfold RepC
  refine ⟨by simpa using h 0 x rfl, repC_of xs (o + 1) (fun j y hj => ?_)⟩
  have := h (j + 1) y (by simpa using hj)
  rw [show o + 1 + j = o + (j + 1) by omega]
  exact this
theorem slice_ok {w : World} {t e : TypeId} {v : Value} (ht : P.underlying t = some (.slice e)) (h : Value.okWide P w .any 0 t v) : v = nilS ∨ ∃ b o len cap, v = .slice (some ⟨b, o, none⟩) len cap ∧ len ≤ cap ∧ b < w.heap.size := by
 obtain ⟨a, len, cap, rfl⟩ := okWide_slice ht h
 simp only [Value.okWide, ht, Cell.okWide] at h
 cases a with
 | none =>
  left
  simp only [Cell.ok, ht] at h
  split at h <;> simp_all
 | some a =>
  right
  simp only [Cell.ok, ht] at h
  obtain ⟨h1, _, _, h3, row, cells, h4, _⟩ := h
  obtain ⟨b, o, sp⟩ := a
  simp only at h3
  subst h3
  refine ⟨b, o, len, cap, rfl, h1, ?_⟩
  unfold World.shape? at h4
  rcases Nat.lt_or_ge b w.heap.size with h5 | h5
  ·exact h5
  ·rw [Array.getElem?_eq_none h5] at h4
   simp at h4
section
variable {H : Type} {enc : TypeId × Value → H} {w : World} {v : Value} {d : DataW H} {ps : List MemPlace}
theorem adr (b o i : Nat) : (⟨b, o, none⟩ : Addr).add i = ⟨b, o + i, none⟩ := addr_add b o i
theorem open_ones {t e : TypeId} (f : Value → F) (ht : P.underlying t = some (.slice e)) (hc : P.cellsOf e = 1) (hok : Value.okWide P w .any 0 t v) (h : DataW.Trod enc P w 0 (fun _ => true) true t v d ps)
  (he : ∀ x n y, DataW.trod enc P w 0 (fun _ => true) true n e [x] = some y → RepF (fun b => b < w.heap.size) w (f x) x) :
  ∃ (len : Nat) (V : Nat → Value), RepF (fun b => b < w.heap.size) w (.sl ((List.range len).map fun i => [f (V i)])) v ∧ ∀ i, i < len → ∃ n y, DataW.trod enc P w 0 (fun _ => true) true n e [V i] = some y := by
 rcases slice_ok ht hok with rfl | ⟨b, o, len, cap, rfl, hl, hb⟩
 ·exact ⟨0, fun _ => undef, by unfold RepF; exact .inl ⟨⟨_, rfl⟩, rfl⟩, fun i hi => by omega⟩
 ·obtain ⟨fuel, hf⟩ := h
  rcases open_slice1 ht hc hf with ⟨e1, _⟩ | ⟨a, len', cap', m, n, V, D, Pl, e1, _, hl', _, hm, _, hx⟩
  ·simp [Value.cells] at e1
  ·have e2 : Value.slice (some ⟨b, o, none⟩) len cap = .slice (some a) len' cap' := by simpa [Value.cells] using e1
   cases e2
   have hmc : m = cap := by simpa using hm
   subst hmc
   refine ⟨len, V, ?_, fun i hi => ⟨n, _, (hx i (by omega)).2⟩⟩
   unfold RepF
   refine .inr ⟨b, o, m, by simp, by simpa using hl, hb, ?_⟩
   refine repR_of (s := 1) len o _ (fun i hi => ⟨rfl, ?_⟩)
   have h1 := hx i (by omega)
   rw [adr] at h1
   refine repC_of _ _ (fun j x hj => ?_)
   cases j with
   | zero =>
    simp at hj
    subst hj
    exact ⟨V i, by simpa using h1.1, he _ _ _ h1.2⟩
   | succ j => simp at hj
theorem open_byteS {t : TypeId} (ht : P.underlying t = some (.slice 5)) (hok : Value.okWide P w .any 0 t v) (h : DataW.Trod enc P w 0 (fun _ => true) true t v d ps) :
  ∃ bs : List UInt8, RepF (fun b => b < w.heap.size) w (.sl (bs.map byteRow)) v := by
 obtain ⟨len, V, h1, h2⟩ := open_ones (fun x => .v x) ht (by kernel_rfl) hok h (fun x n y hy => by
  obtain ⟨k, e1, _⟩ := DataW.trod_int Tryz.underlying5 hy
  have : x = .int .u8 k := by simpa using e1
  subst this
  unfold RepF
  exact ⟨rfl, rfl⟩)
 refine ⟨(List.range len).map fun i => b8 (match V i with | .int _ k => k | _ => 0), ?_⟩
 have e : (List.range len).map (fun i => [F.v (V i)]) = ((List.range len).map fun i => b8 (match V i with | .int _ k => k | _ => 0)).map byteRow := by
  rw [List.map_map]
  refine List.map_congr_left fun i hi => ?_
  obtain ⟨n, y, hy⟩ := h2 i (List.mem_range.1 hi)
  obtain ⟨k, e1, _, hw⟩ := DataW.trod_int Tryz.underlying5 hy
  have e2 : V i = .int .u8 k := by simpa using e1
  simp only [Lit.wf, Bool.and_eq_true, decide_eq_true_eq] at hw
  have e3 : IntKind.u8.min = 0 := by decide
  have e4 : IntKind.u8.max = 255 := by decide
  show [F.v (V i)] = byteRow (b8 (match V i with | .int _ k => k | _ => 0))
  rw [e2]
  exact (b8_row (x := k) (by omega) (by omega)).symm
 rw [← e]
 exact h1
end
open Go Go.RowKit Go.Lib
structure CmpOkN (Q : List (List F) → Prop) (m : Nat) (c : Cmp) : Prop where
 ids : c.ids.length ≤ m
 cls : c.cls.length ≤ m
 atts : c.atts.length ≤ m
 pss : c.pss.length ≤ m
 list : ∀ x ∈ c.pss, Q x.list
theorem CmpOkN.mono {Q : List (List F) → Prop} {m n : Nat} {c : Cmp} (h : CmpOkN Q m c) (hmn : m ≤ n) : CmpOkN Q n c := by
 obtain ⟨h1, h2, h3, h4, h5⟩ := h
 exact ⟨by omega, by omega, by omega, by omega, h5⟩
theorem rPseudo_ok {Q : List (List F) → Prop} {rn : Nest} {t : List Tok} (hnil : Q []) (hN : ∀ i, Q ((rn i).1.map selRow)) (i : Nat) : Q (rPseudo rn t i).1.list := by
 unfold rPseudo
 split
 ·split <;> exact hnil
 split
 ·exact hnil
 split
 ·rw [rNth_list]; exact hnil
 split
 ·exact hN _
 split
 ·exact hN _
 ·exact hnil
theorem rCmpRun_ok {Q : List (List F) → Prop} {rn : Nest} {t : List Tok} (hnil : Q []) (hN : ∀ i, Q ((rn i).1.map selRow)) : ∀ (f i n m : Nat) (c : Cmp), CmpOkN Q m c → CmpOkN Q (m + f) (rCmpRun rn t f i n c).1
 | 0, i, n, m, c, h => h
 | f + 1, i, n, m, c, h => by
  obtain ⟨h1, h2, h3, h4, h5⟩ := h
  have ep : ∀ v : Psd, Q v.list → ∀ x ∈ c.pss ++ [v], Q x.list := fun v hv x hx => by
   rcases List.mem_append.1 hx with hx | hx
   ·exact h5 x hx
   ·simp at hx; subst hx; exact hv
  unfold rCmpRun
  rw [show m + (f + 1) = (m + 1) + f by omega]
  split
  ·exact rCmpRun_ok hnil hN f _ _ _ _ ⟨by dsimp only; rw [List.length_append]; simp; omega, by dsimp only; omega, by dsimp only; omega, by dsimp only; omega, h5⟩
  split
  ·exact rCmpRun_ok hnil hN f _ _ _ _ ⟨by dsimp only; omega, by dsimp only; rw [List.length_append]; simp; omega, by dsimp only; omega, by dsimp only; omega, h5⟩
  split
  ·split
   ·exact CmpOkN.mono (m := m + 1) ⟨by dsimp only; omega, by dsimp only; omega, by dsimp only; rw [List.length_append]; simp; omega, by dsimp only; omega, h5⟩ (by omega)
   ·exact rCmpRun_ok hnil hN f _ _ _ _ ⟨by dsimp only; omega, by dsimp only; omega, by dsimp only; rw [List.length_append]; simp; omega, by dsimp only; omega, h5⟩
  split
  ·have hq := rPseudo_ok (t := t) hnil hN (i + 1)
   split
   ·exact CmpOkN.mono (m := m + 1) ⟨by dsimp only; omega, by dsimp only; omega, by dsimp only; omega, by dsimp only; rw [List.length_append]; simp; omega, ep _ hq⟩ (by omega)
   ·exact rCmpRun_ok hnil hN f _ _ _ _ ⟨by dsimp only; omega, by dsimp only; omega, by dsimp only; omega, by dsimp only; rw [List.length_append]; simp; omega, ep _ hq⟩
  ·exact ⟨by dsimp only; omega, by dsimp only; omega, by dsimp only; omega, by dsimp only; omega, h5⟩
theorem rCmp_ok {Q : List (List F) → Prop} {rn : Nest} {t : List Tok} (hnil : Q []) (hN : ∀ i, Q ((rn i).1.map selRow)) (i : Nat) : CmpOkN Q (t.length + 1) (rCmp rn t i).1 := by
 have h0 : ∀ tag, CmpOkN Q 0 { tag := tag } := fun _ => ⟨by simp, by simp, by simp, by simp, by simp⟩
 unfold rCmp
 split
 ·simpa using rCmpRun_ok hnil hN (t.length + 1) (i + 1) 1 0 _ (h0 _)
 split
 ·simpa using rCmpRun_ok hnil hN (t.length + 1) (i + 1) 1 0 _ (h0 _)
 ·simpa using rCmpRun_ok hnil hN (t.length + 1) i 0 0 _ (h0 _)
structure SelrOk (Q : List (List F) → Prop) (m n : Nat) (s : Selr) : Prop where
 len : s.length ≤ n
 each : ∀ p ∈ s, CmpOkN Q m p.2
theorem rSelRun_ok {Q : List (List F) → Prop} {rn : Nest} {t : List Tok} (hnil : Q []) (hN : ∀ i, Q ((rn i).1.map selRow)) : ∀ (f i n : Nat) (cb : Int) (ps : Selr), SelrOk Q (t.length + 1) n ps → SelrOk Q (t.length + 1) (n + f) (rSelRun rn t f i cb ps).1
 | 0, i, n, cb, ps, h => h
 | f + 1, i, n, cb, ps, h => by
  have h1 : SelrOk Q (t.length + 1) (n + 1) (ps ++ [(cb, (rCmp rn t i).1)]) := ⟨by rw [List.length_append]; have := h.len; simp; omega, fun p hp => by
   rcases List.mem_append.1 hp with hp | hp
   ·exact h.each p hp
   ·simp at hp; subst hp; exact rCmp_ok hnil hN i⟩
  have h2 : SelrOk Q (t.length + 1) (n + (f + 1)) (ps ++ [(cb, (rCmp rn t i).1)]) := ⟨by have := h1.len; omega, h1.each⟩
  unfold rSelRun
  split
  ·exact h2
  split
  ·rw [show n + (f + 1) = (n + 1) + f by omega]; exact rSelRun_ok hnil hN f _ _ _ _ h1
  split
  ·exact h2
  split
  ·exact h2
  ·rw [show n + (f + 1) = (n + 1) + f by omega]; exact rSelRun_ok hnil hN f _ _ _ _ h1
structure ListOk (Q : List (List F) → Prop) (m n : Nat) (l : List Selr) : Prop where
 len : l.length ≤ n
 each : ∀ s ∈ l, SelrOk Q m m s
theorem rListRun_ok {Q : List (List F) → Prop} {rn : Nest} {t : List Tok} {q : Int} (hnil : Q []) (hN : ∀ i, Q ((rn i).1.map selRow)) : ∀ (f i n : Nat) (out : List Selr), ListOk Q (t.length + 1) n out → ListOk Q (t.length + 1) (n + f) (rListRun rn t q f i out).1
 | 0, i, n, out, h => ⟨by simp [rListRun], by simp [rListRun]⟩
 | f + 1, i, n, out, h => by
  have hs : SelrOk Q (t.length + 1) (t.length + 1) (rSel rn t (ws t i)).1 := by simpa [rSel] using rSelRun_ok hnil hN (t.length + 1) (ws t i) 0 0 [] ⟨by simp, by simp⟩
  have h1 : ListOk Q (t.length + 1) (n + 1) (out ++ [(rSel rn t (ws t i)).1]) := ⟨by rw [List.length_append]; have := h.len; simp; omega, fun p hp => by
   rcases List.mem_append.1 hp with hp | hp
   ·exact h.each p hp
   ·simp at hp; subst hp; exact hs⟩
  have h2 : ListOk Q (t.length + 1) (n + (f + 1)) (out ++ [(rSel rn t (ws t i)).1]) := ⟨by have := h1.len; omega, h1.each⟩
  have h0 : ListOk Q (t.length + 1) (n + (f + 1)) [] := ⟨by simp, by simp⟩
  unfold rListRun
  split
  ·exact h0
  split
  ·rw [show n + (f + 1) = (n + 1) + f by omega]; exact rListRun_ok hnil hN f _ _ _ h1
  split
  ·exact h2
  split
  ·exact h2
  ·exact h0
theorem listOk_0 {m n : Nat} {l : List Selr} (hm : m < 1000000000) (hn : n < 1000000000) (h : ListOk (fun r => r = []) m n l) : SelOk 0 l := by
 unfold SelOk
 refine ⟨by have := h.len; omega, fun s hs => ⟨by have := (h.each s hs).len; omega, fun p hp => ?_⟩⟩
 obtain ⟨g1, g2, g3, g4, g5⟩ := (h.each s hs).each p hp
 exact ⟨by omega, by omega, by omega, by omega, g5⟩
theorem listOk_s {k m n : Nat} {l : List Selr} (hm : m < 1000000000) (hn : n < 1000000000) (h : ListOk (fun r => ∃ l', r = l'.map selRow ∧ SelOk k l') m n l) : SelOk (k + 1) l := by
 unfold SelOk
 refine ⟨by have := h.len; omega, fun s hs => ⟨by have := (h.each s hs).len; omega, fun p hp => ?_⟩⟩
 obtain ⟨g1, g2, g3, g4, g5⟩ := (h.each s hs).each p hp
 exact ⟨by omega, by omega, by omega, by omega, g5⟩
theorem selOk_nil : ∀ k, SelOk k []
 | 0 => by unfold SelOk; simp
 | k + 1 => by unfold SelOk; simp
theorem rNest_ok {t : List Tok} (ht : t.length < 100000000) : ∀ (k : Nat) (q : Int) (i : Nat), SelOk k (rNest t (k + 1) q i).1
 | 0, q, i => by
  have := rListRun_ok (Q := fun r => r = []) (rn := rNest t 0 (q + 1)) (t := t) (q := q) rfl (fun i => by simp [rNest]) (t.length + 1) i 0 [] ⟨by simp, by simp⟩
  exact listOk_0 (by omega) (by omega) this
 | k + 1, q, i => by
  have := rListRun_ok (Q := fun r => ∃ l', r = l'.map selRow ∧ SelOk k l') (rn := rNest t (k + 1) (q + 1)) (t := t) (q := q) ⟨[], rfl, selOk_nil k⟩ (fun i => ⟨_, rfl, rNest_ok ht k (q + 1) i⟩) (t.length + 1) i 0 [] ⟨by simp, by simp⟩
  exact listOk_s (by omega) (by omega) this
theorem rSelectors_ok {t : List Tok} (ht : t.length < 100000000) : SelOk 8 (rSelectors t).1 := by
 unfold rSelectors
 split
 ·exact selOk_nil 8
 split
 ·exact selOk_nil 8
 ·exact rNest_ok ht 8 0 0
end Go.Proofs.YtlhegfkpgchaeaaGreatDoor.Aw
