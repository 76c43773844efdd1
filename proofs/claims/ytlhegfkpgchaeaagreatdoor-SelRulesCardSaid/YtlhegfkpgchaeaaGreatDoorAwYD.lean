/- Regions that draw their order, in a round of a range over a function, or with a mark pending. -/
import Derived.Test.YtlhegfkpgchaeaaGreatDoorAwX
import Derived.Test.YtlhegfkpgchaeaaGreatDoorAwVD
namespace Go.Proofs.YtlhegfkpgchaeaaGreatDoor.Aw
open Go Go.RowKit Go.Lib
set_option linter.unusedVariables false
set_option linter.unusedSimpArgs false
section
variable {P : Program}
def thruC (c : Cx) (ρ σ : List Nat) (h : Nat) : Cx := ⟨fun j => c.φ (ρ.getD j 0), fun j => if j < σ.length then c.τ (σ.getD j 0) else nilS, c.imm, h, σ.length⟩
theorem core_at {«as» : List D} {Hs : Hp} {E : List D} {H : Hp} {n : Nat} (ρ σ : List Nat)
    (hρ : ρ.Nodup) (hσ : σ.Nodup) (hρb : ∀ r ∈ ρ, r < H.length) (hσb : ∀ k ∈ σ, k < n) (hfit : fitH ρ σ Hs.length σ.length ρ Hs H) (href : refL Hs.length σ.length «as»)
    {B : Base} {c : Cx} {w : World} {ts vs : List Value} (hC : Con B c w H n) (hE : RepL c w E ts) (ha : RepL c w (renL ρ σ «as») vs) :
    Con (base (thruC c ρ σ Hs.length) w Hs) (thruC c ρ σ Hs.length) w Hs σ.length ∧ RepL (thruC c ρ σ Hs.length) w «as» vs ∧ ∀ (w' : World) (d : D) (v : Value) (Hs' : Hp) (c2 : Cx), Hs'.length = Hs.length → Con (base (thruC c ρ σ Hs.length) w Hs) c2 w' Hs' σ.length → Rep c2 w' d v →
      ∃ c', Con B c' w' (putH ρ σ ρ Hs' (killsH σ H)) n ∧ RepL c' w' (killsL σ E) ts ∧ Rep c' w' (d.ren ρ σ) v := by
  have hlen := fitH_length hfit
  have hget := fitH_get hfit
  have hρm : ∀ j, j < Hs.length → ρ.getD j 0 ∈ ρ := fun j hj => getD_mem (by omega)
  let c1 : Cx := thruC c ρ σ Hs.length
  have hτ1 : ∀ j, j < σ.length → c1.τ j = c.τ (σ.getD j 0) := fun j hj => by show (if j < σ.length then _ else _) = _; rw [if_pos hj]
  have hτ0 : ∀ j, ¬ j < σ.length → c1.τ j = nilS := fun j hj => by show (if j < σ.length then _ else _) = _; rw [if_neg hj]
  have hτb : ∀ j b, blk (c1.τ j) = some b → j < σ.length ∧ blk (c.τ (σ.getD j 0)) = some b := fun j b hb => by
    by_cases hj : j < σ.length
    · rw [hτ1 j hj] at hb; exact ⟨hj, hb⟩
    · rw [hτ0 j hj] at hb; cases hb
  have ht : Thru c c1 ρ σ Hs.length σ.length := ⟨rfl, fun _ _ => rfl, hτ1, rfl, rfl, fun j hj => by rw [hC.hlen]; exact hρb _ (hρm j hj), fun j hj => by rw [hC.nlen]; exact hσb _ (getD_mem hj)⟩
  have hC1 : Con (base c1 w Hs) c1 w Hs σ.length := by
    refine ⟨rfl, rfl, rfl, Nat.le_refl _, fun b _ _ => rfl, fun b hb => hb, fun b hb => ⟨(hC.immB b hb).1, .inl hb⟩, rfl, rfl, Nat.le_refl _, fun _ _ => rfl, fun j cs hj => ?_, fun j cs hj => ?_, fun i j cs ds hi hj e => ?_, fun j b hb => ?_, fun i j b hi hj => ?_, fun j hj => hτ0 j (by omega), hC.glob⟩
    · obtain ⟨h1, h2⟩ := hget j cs hj
      obtain ⟨C, T, e, hr⟩ := hC.objs _ _ h1
      exact ⟨C, T, e, RepL.thru ht cs _ h2 hr⟩
    · obtain ⟨h1, h2⟩ := hget j cs hj
      exact ⟨.inl (.inl ⟨j, cs, hj, rfl⟩), (hC.objM _ _ h1).2⟩
    · obtain ⟨h1, _⟩ := hget i cs hi
      obtain ⟨h2, _⟩ := hget j ds hj
      have := hC.inj _ _ _ _ h1 h2 e
      exact getD_inj hρ (by rw [hlen]; exact (List.getElem?_eq_some_iff.1 hi).1) (by rw [hlen]; exact (List.getElem?_eq_some_iff.1 hj).1) this
    · obtain ⟨hj, hb'⟩ := hτb j b hb
      obtain ⟨a1, a2, a3, a4⟩ := hC.tags _ b hb'
      exact ⟨a1, a2, .inl (.inr ⟨j, hb⟩), fun i cs hi => a4 _ _ (hget i cs hi).1⟩
    · obtain ⟨h1, hb1⟩ := hτb i b hi
      obtain ⟨h2, hb2⟩ := hτb j b hj
      exact getD_inj hσ h1 h2 (hC.tagInj _ _ b hb1 hb2)
  refine ⟨hC1, RepL.thru ht «as» vs href ha, ?_⟩
  intro w' d v Hs' c2 hl' hC2 hv
  -- what the callee may have turned
  have hmine : ∀ b, mine c1 Hs b → (∃ j cs, Hs[j]? = some (some cs) ∧ c.φ (ρ.getD j 0) = b) ∨ ∃ j, j < σ.length ∧ blk (c.τ (σ.getD j 0)) = some b := fun b hb => by
    rcases hb with ⟨j, cs, h1, h2⟩ | ⟨j, hb⟩
    · exact .inl ⟨j, cs, h1, h2⟩
    · exact .inr ⟨j, hτb j b hb⟩
  have hsame : ∀ b, b < w.heap.size → ¬ mine c1 Hs b → w'.heap[b]? = w.heap[b]? := hC2.old
  have himm : ImmKeep c.imm c2.imm w w' := fun b hb => ⟨hC2.imm0 b hb, hsame b (hC.immB b hb).1 (fun hm => by
    rcases hmine b hm with ⟨j, cs, h1, h2⟩ | ⟨j, _, h2⟩
    · exact (hC.objM _ _ (hget j cs h1).1).2 (h2 ▸ hb)
    · exact (hC.tags _ b h2).2.1 hb)⟩
  have htag : ∀ j b, j ∉ σ → blk (c.τ j) = some b → w'.heap[b]? = w.heap[b]? := fun j b hj hb => hsame b (hC.tags j b hb).1 (fun hm => by
    rcases hmine b hm with ⟨i, cs, h1, h2⟩ | ⟨i, h1, h2⟩
    · exact (hC.tags j b hb).2.2.2 _ _ (hget i cs h1).1 h2
    · exact hj (by rw [hC.tagInj j _ b hb h2]; exact getD_mem h1))
  let c' := c.merge c2 σ
  have hks : KeepS c c' w w' σ := ⟨himm, Nat.le_refl _, Nat.le_refl _, fun _ _ => rfl, fun j _ hj => ⟨merge_other hj, fun b hb => htag j b hj hb⟩⟩
  have hphi : ∀ j, j < Hs.length → c2.φ j = c.φ (ρ.getD j 0) := fun j hj => hC2.phi j hj
  have ht2 : Thru c' c2 ρ σ Hs.length σ.length := ⟨rfl, hphi, fun j hj => (merge_at hσ hj).symm, by rw [hC2.hlen, hl'], hC2.nlen, fun j hj => by rw [show c'.h = H.length from hC.hlen]; exact hρb _ (hρm j hj), fun j hj => by rw [show c'.n = n from hC.nlen]; exact hσb _ (getD_mem hj)⟩
  have hwsize : w.heap.size ≤ w'.heap.size := hC2.size
  -- the objects behind
  have hobj : ∀ q cs, (putH ρ σ ρ Hs' (killsH σ H))[q]? = some (some cs) → (∃ j ds, q = ρ.getD j 0 ∧ j < Hs.length ∧ Hs'[j]? = some (some ds) ∧ cs = renL ρ σ ds) ∨ (q ∉ ρ ∧ ∃ ds, H[q]? = some (some ds) ∧ cs = killsL σ ds) := fun q cs hq => by
    by_cases hqρ : q ∈ ρ
    · left
      obtain ⟨j, hj, rfl⟩ := List.getElem_of_mem hqρ
      have hj2 : j < Hs'.length := by omega
      have e1 : ρ[j] = ρ.getD j 0 := by rw [List.getD_eq_getElem?_getD, List.getElem?_eq_getElem hj]; simp
      rw [e1] at hq
      rw [putH_at ρ Hs' (killsH σ H) hρ (fun r hr => by rw [killsH_length]; exact hρb r hr) j hj hj2] at hq
      cases ho : Hs'[j] with
      | none => rw [ho] at hq; simp at hq
      | some ds =>
        rw [ho] at hq
        simp at hq
        exact ⟨j, ds, e1, by omega, by rw [List.getElem?_eq_getElem hj2, ho], hq.symm⟩
    · right
      rw [putH_other ρ Hs' _ q hqρ] at hq
      obtain ⟨ds, h1, h2⟩ := killsH_get hq
      exact ⟨hqρ, ds, h1, h2⟩
  have hlive : ∀ q cs, (putH ρ σ ρ Hs' (killsH σ H))[q]? = some (some cs) → (∃ j ds, q = ρ.getD j 0 ∧ j < Hs.length ∧ Hs'[j]? = some (some ds) ∧ c.φ q = c2.φ j) ∨ (q ∉ ρ ∧ ∃ ds, H[q]? = some (some ds)) := fun q cs hq => by
    rcases hobj q cs hq with ⟨j, ds, h1, h2, h3, _⟩ | ⟨h1, ds, h2, _⟩
    · exact .inl ⟨j, ds, h1, h2, h3, by rw [hphi j h2, h1]⟩
    · exact .inr ⟨h1, ds, h2⟩
  have hτc : ∀ q b, blk (c'.τ q) = some b → (∃ j, j < σ.length ∧ q = σ.getD j 0 ∧ blk (c2.τ j) = some b) ∨ (q ∉ σ ∧ blk (c.τ q) = some b) := fun q b hb => by
    by_cases hq : q ∈ σ
    · left
      obtain ⟨j, hj, rfl⟩ := List.getElem_of_mem hq
      have e1 : σ[j] = σ.getD j 0 := by rw [List.getD_eq_getElem?_getD, List.getElem?_eq_getElem hj]; simp
      rw [e1] at hb
      exact ⟨j, hj, e1, by rw [← merge_at hσ hj]; exact hb⟩
    · right
      rw [show c'.τ q = c.τ q from merge_other hq] at hb
      exact ⟨hq, hb⟩
  -- a block of the caller's that was not handed over is none of the callee's
  have hmineB : ∀ b, mine c1 Hs b → (B.m0 b ∨ B.w0.heap.size ≤ b) ∧ b < w.heap.size := fun b hb => by
    rcases hmine b hb with ⟨j, cs, h1, h2⟩ | ⟨j, h1, h2⟩
    · exact ⟨h2 ▸ (hC.objM _ _ (hget j cs h1).1).1, h2 ▸ hC.objLt (hget j cs h1).1⟩
    · exact ⟨(hC.tags _ b h2).2.2.1, (hC.tags _ b h2).1⟩
  have hcalleeB : ∀ b, (mine c1 Hs b ∨ w.heap.size ≤ b) → B.m0 b ∨ B.w0.heap.size ≤ b := fun b hb => by
    rcases hb with hb | hb
    · exact (hmineB b hb).1
    · exact .inr (Nat.le_trans hC.size hb)
  have hnotObj : ∀ q ds, q ∉ ρ → H[q]? = some (some ds) → ¬ mine c1 Hs (c.φ q) := fun q ds hq h1 hm => by
    rcases hmine _ hm with ⟨j, cs, h2, h3⟩ | ⟨j, h2, h3⟩
    · have := hC.inj _ _ _ _ (hget j cs h2).1 h1 h3
      exact hq (this ▸ hρm j (List.getElem?_eq_some_iff.1 h2).1)
    · exact (hC.tags _ _ h3).2.2.2 _ _ h1 rfl
  have hnotTag : ∀ q b, q ∉ σ → blk (c.τ q) = some b → ¬ mine c1 Hs b := fun q b hq h1 hm => by
    rcases hmine _ hm with ⟨j, cs, h2, h3⟩ | ⟨j, h2, h3⟩
    · exact (hC.tags _ b h1).2.2.2 _ _ (hget j cs h2).1 h3
    · exact hq (by rw [hC.tagInj q _ b h1 h3]; exact getD_mem h2)
  refine ⟨c', ?_, RepL.kills hks _ _ hE, Rep.back ht2 d v hv⟩
  refine ⟨hC2.os.trans hC.os, hC2.tape.trans hC.tape, hC2.output.trans hC.output, Nat.le_trans hC.size hwsize, fun b hb hm => ?_, fun b hb => (himm b (hC.imm0 b hb)).1, fun b hb => ?_, by rw [putH_length, killsH_length]; exact hC.hlen, hC.nlen, hC.hh, hC.phi, fun q cs hq => ?_, fun q cs hq => ?_, fun p q cs ds hp hq e => ?_, fun q b hb => ?_, fun p q b hp hq => ?_, fun q hq => ?_, hC2.glob⟩
  · rw [hsame b (Nat.lt_of_lt_of_le hb hC.size) (fun hm2 => ?_)]
    · exact hC.old b hb hm
    · rcases (hmineB b hm2).1 with h1 | h1
      · exact hm h1
      · omega
  · obtain ⟨h1, h2⟩ := hC2.immB b hb
    refine ⟨h1, ?_⟩
    rcases h2 with h2 | h2 | h2
    · exact (hC.immB b h2).2
    · rcases (hmineB b h2).1 with h3 | h3
      · exact .inr (.inl h3)
      · exact .inr (.inr h3)
    · exact .inr (.inr (Nat.le_trans hC.size h2))
  · rcases hobj q cs hq with ⟨j, ds, rfl, h2, h3, rfl⟩ | ⟨h1, ds, h2, rfl⟩
    · obtain ⟨C, T, e, hr⟩ := hC2.objs j ds h3
      rw [hphi j h2] at e
      exact ⟨C, T, e, RepL.back ht2 ds _ hr⟩
    · obtain ⟨C, T, e, hr⟩ := hC.objs q ds h2
      exact ⟨C, T, by
        show w'.heap[c.φ q]? = _
        rw [hsame _ (hC.objLt h2) (hnotObj q ds h1 h2)]; exact e, RepL.kills hks ds _ hr⟩
  · rcases hlive q cs hq with ⟨j, ds, h1, h2, h3, h4⟩ | ⟨h1, ds, h2⟩
    · obtain ⟨a1, a2⟩ := hC2.objM j ds h3
      show (_ ∨ _) ∧ ¬ c2.imm (c.φ q)
      rw [show (c'.φ q) = c2.φ j from h4, h4]
      exact ⟨hcalleeB _ a1, a2⟩
    · refine ⟨(hC.objM q ds h2).1, fun hi => ?_⟩
      rcases (hC2.immB _ hi).2 with h3 | h3 | h3
      · exact (hC.objM q ds h2).2 h3
      · exact hnotObj q ds h1 h2 h3
      · have := hC.objLt h2
        have h3' : w.heap.size ≤ c.φ q := h3
        omega
  · have e' : c.φ p = c.φ q := e
    rcases hlive p cs hp with ⟨j, xs, h1, h2, h3, h4⟩ | ⟨h1, xs, h2⟩ <;> rcases hlive q ds hq with ⟨i, ys, g1, g2, g3, g4⟩ | ⟨g1, ys, g2⟩
    · rw [h4, g4] at e'
      have := hC2.inj _ _ _ _ h3 g3 e'
      rw [h1, g1, this]
    · exfalso
      have h5 := (hC2.objM j xs h3).1
      rw [← h4, e'] at h5
      rcases h5 with h5 | h5
      · exact hnotObj q ys g1 g2 h5
      · have := hC.objLt g2
        have h5' : w.heap.size ≤ c.φ q := h5
        omega
    · exfalso
      have h5 := (hC2.objM i ys g3).1
      rw [← g4, ← e'] at h5
      rcases h5 with h5 | h5
      · exact hnotObj p xs h1 h2 h5
      · have := hC.objLt h2
        have h5' : w.heap.size ≤ c.φ p := h5
        omega
    · exact hC.inj p q xs ys h2 g2 e'
  · rcases hτc q b hb with ⟨j, h1, h2, h3⟩ | ⟨h1, h2⟩
    · obtain ⟨a1, a2, a3, a4⟩ := hC2.tags j b h3
      refine ⟨a1, a2, hcalleeB b a3, fun p cs hp e => ?_⟩
      have e' : c.φ p = b := e
      rcases hlive p cs hp with ⟨i, xs, g1, g2, g3, g4⟩ | ⟨g1, xs, g2⟩
      · exact a4 i xs g3 (by rw [← g4]; exact e')
      · rcases a3 with a3 | a3
        · exact hnotObj p xs g1 g2 (e' ▸ a3)
        · have := hC.objLt g2
          have a3' : w.heap.size ≤ b := a3
          omega
    · obtain ⟨a1, a2, a3, a4⟩ := hC.tags q b h2
      refine ⟨Nat.lt_of_lt_of_le a1 hwsize, fun hi => ?_, a3, fun p cs hp e => ?_⟩
      · rcases (hC2.immB _ hi).2 with h3 | h3 | h3
        · exact a2 h3
        · exact hnotTag q b h1 h2 h3
        · have h3' : w.heap.size ≤ b := h3
          omega
      · have e' : c.φ p = b := e
        rcases hlive p cs hp with ⟨i, xs, g1, g2, g3, g4⟩ | ⟨g1, xs, g2⟩
        · have h5 := (hC2.objM i xs g3).1
          rw [← g4, e'] at h5
          rcases h5 with h5 | h5
          · exact hnotTag q b h1 h2 h5
          · have h5' : w.heap.size ≤ b := h5
            omega
        · exact a4 p xs g2 e'
  · rcases hτc p b hp with ⟨j, h1, h2, h3⟩ | ⟨h1, h2⟩ <;> rcases hτc q b hq with ⟨i, g1, g2, g3⟩ | ⟨g1, g2⟩
    · rw [h2, g2, hC2.tagInj _ _ b h3 g3]
    · exfalso
      rcases (hC2.tags j b h3).2.2.1 with h5 | h5
      · exact hnotTag q b g1 g2 h5
      · have := (hC.tags q b g2).1
        have h5' : w.heap.size ≤ b := h5
        omega
    · exfalso
      rcases (hC2.tags i b g3).2.2.1 with h5 | h5
      · exact hnotTag p b h1 h2 h5
      · have := (hC.tags p b h2).1
        have h5' : w.heap.size ≤ b := h5
        omega
    · exact hC.tagInj p q b h2 g2
  · have hq' : q ∉ σ := fun h => by have := hσb q h; omega
    rw [show c'.τ q = c.τ q from merge_other hq']
    exact hC.high q hq
mutual
def unY : D → D
  | .yl _ _ _ _ _ => .junk
  | .agg cs => .agg (unYL cs)
  | .tup cs => .tup (unYL cs)
  | .fn g cs => .fn g (unYL cs)
  | d => d
def unYL : List D → List D
  | [] => []
  | d :: ds => unY d :: unYL ds
end
mutual
theorem noY_unY : ∀ d : D, noYD (unY d) = true
  | .junk => by simp [unY, noYD]
  | .f x => by simp [unY, noYD]
  | .nil => by simp [unY, noYD]
  | .agg cs => by simp [unY, noYD, noY_unYL cs]
  | .tup cs => by simp [unY, noYD, noY_unYL cs]
  | .own _ _ _ _ => by simp [unY, noYD]
  | .optr _ _ _ _ _ _ => by simp [unY, noYD]
  | .ptr _ _ => by simp [unY, noYD]
  | .ip _ => by simp [unY, noYD]
  | .fn _ cs => by simp [unY, noYD, noY_unYL cs]
  | .yl _ _ _ _ _ => by simp [unY, noYD]
theorem noY_unYL : ∀ ds : List D, noYL (unYL ds) = true
  | [] => by simp [unYL, noYL]
  | d :: ds => by simp [unYL, noYL, noY_unY d, noY_unYL ds]
end
mutual
theorem Rep.unY {c : Cx} {w : World} : ∀ (d : D) (v : Value), Rep c w d v → Rep c w (unY d) v
  | .junk, v, h => by simpa [Aw.unY] using h
  | .f x, v, h => by simpa [Aw.unY] using h
  | .nil, v, h => by simpa [Aw.unY] using h
  | .agg cs, v, h => by
    unfold Aw.unY; unfold Rep at *
    obtain ⟨vs, e, hl⟩ := h
    exact ⟨vs, e, RepL.unY cs vs hl⟩
  | .tup cs, v, h => by
    unfold Aw.unY; unfold Rep at *
    obtain ⟨vs, e, hl⟩ := h
    exact ⟨vs, e, RepL.unY cs vs hl⟩
  | .own _ _ _ _, v, h => by simpa [Aw.unY] using h
  | .optr _ _ _ _ _ _, v, h => by simpa [Aw.unY] using h
  | .ptr _ _, v, h => by simpa [Aw.unY] using h
  | .ip _, v, h => by simpa [Aw.unY] using h
  | .fn g cs, v, h => by
    unfold Aw.unY; unfold Rep at *
    obtain ⟨vs, e, hl⟩ := h
    exact ⟨vs, e, RepL.unY cs vs hl⟩
  | .yl _ _ _ _ _, v, h => by simp [Aw.unY, Rep]
theorem RepL.unY {c : Cx} {w : World} : ∀ (ds : List D) (vs : List Value), RepL c w ds vs → RepL c w (unYL ds) vs
  | [], vs, h => by unfold unYL; unfold RepL at *; exact h
  | d :: ds, vs, h => by
    unfold unYL; unfold RepL at *
    obtain ⟨v, vs', e, h1, h2⟩ := h
    exact ⟨v, vs', e, Rep.unY d v h1, RepL.unY ds vs' h2⟩
end
def Base.turn (B : Base) (l : Nat) (o : Obj) : Base := { B with w0 := B.w0.putObj l o }
def jumpOf : X → Code
  | .normal => .skip
  | .exit id => .exit id
  | .ret => .ret
def leftBy (rc : Loop) (x : X) : Obj := .loop { rc with state := .done, pending := some (jumpOf x) }
def InB (B : Base) (l : Nat) (s : Option X) (c : Cx) (w : World) (H : Hp) (n : Nat) : Prop := match s with
  | none => Con B c w H n
  | some x => ∃ rc : Loop, B.w0.heap[l]? = some (.loop rc) ∧ Con (B.turn l (leftBy rc x)) c w H n
def PostB (B : Base) (l : Nat) (Q : Option X → X → List D → Hp → Nat → Prop) (e : Exit) (a : Act) (w : World) : Prop :=
  ∃ s x E H n c, e = conv x ∧ Q s x E H n ∧ InB B l s c w H n ∧ RepL c w E a.tmps.toList ∧ a.defers = []
def CSemB (l : Nat) (P : Program) (k : Code) (Q : Option X → X → List D → Hp → Nat → Prop) (s : Option X) (E : List D) (H : Hp) (n : Nat) : Prop :=
  ∀ (B : Base) (c : Cx) (w : World) (a : Act), l < B.w0.heap.size → ¬ B.m0 l → InB B l s c w H n → RepL c w E a.tmps.toList → a.defers = [] → k.wpIn (Fw none) 0 P (PostB B l Q) a w
structure StepB (l : Nat) (P : Program) (k : Code) (Q : Option X → X → List D → Hp → Nat → Prop) (s : Option X) (E : List D) (H : Hp) (n : Nat) : Prop where of ::
  out : CSemB l P k Q s E H n
structure YStepB (P : Program) (lb : Nat) (ps : List Nat) (x y : Code) (cap args : List D) (E : List D) (H : Hp) (n : Nat) (K : Option X → KD) : Prop where of ::
  out : ∀ (r : Option Nat) (B : Base) (c : Cx) (w : World) (ts vs : List Value) (u : Value), lb < B.w0.heap.size → ¬ B.m0 lb → Con B c w H n → RepL c w E ts → Rep c w (.yl lb ps x y cap) u → RepL c w args vs →
    u = .func (.yield lb) #[] #[] ∧ YieldAt (Fw r) 0 P lb vs.toArray w (fun e w' => ∃ s d v E' H' n' c', K s d E' H' n' ∧ e = .returned v ∧ InB B lb s c' w' H' n' ∧ RepL c' w' E' ts ∧ Rep c' w' d v)
def opB (l : Nat) (P : Program) (T : Tab) (s : Option X) (o : Oper) (E : List D) (H : Hp) (n : Nat) (K : Option X → KD) : Prop :=
  match o.op with
  | .call c => (match c.callee with
    | .value f => (match ev E f with
      | .yl lb ps x y cap => Owes (lb = l ∧ s = none) (evs E c.args.toList fun l => YStepB P lb ps x y cap l E H n K)
      | _ => opD P T o E H n (K s))
    | _ => opD P T o E H n (K s))
  | _ => opD P T o E H n (K s)
def stepDB (l : Nat) (P : Program) (T : Tab) (all : List Oper) (o : Oper) (k : Option X → List D → Hp → Nat → Prop) (s : Option X) (E : List D) (H : Hp) (n : Nat) : Prop :=
  match o.guard with
    | none => opB l P T s o E H n (fun s d E H n => putK E o.dst d (fun E => k s E H n))
    | some (j, want) =>
      match slotOf all j with
      | some i => match E.getD i .junk with
        | .f (.v (.bool t)) =>
          bif want then Case t (opB l P T s o E H n (fun s d E H n => putK E o.dst d (fun E => k s E H n))) (putK E o.dst (.tup []) (fun E => k s E H n))
          else Case t (putK E o.dst (.tup []) (fun E => k s E H n)) (opB l P T s o E H n (fun s d E H n => putK E o.dst d (fun E => k s E H n)))
        | .tup [] => putK E o.dst (.tup []) (fun E => k s E H n)
        | _ => False
      | none => False
noncomputable def opsDB (lb : Nat) (P : Program) (T : Tab) (all : List Oper) (l : List Oper) (s : Option X) (E : List D) (H : Hp) (n : Nat) (K : Option X → List D → Hp → Nat → Prop) : Prop :=
  List.rec (motive := fun _ => Option X → List D → Hp → Nat → Prop) K (fun o _ k => stepDB lb P T all o k) l s E H n
theorem opsDB_cons {lb : Nat} {P : Program} {T : Tab} {all : List Oper} {o : Oper} {rest : List Oper} {s : Option X} {E : List D} {H : Hp} {n : Nat} {K : Option X → List D → Hp → Nat → Prop} : opsDB lb P T all (o :: rest) s E H n K = stepDB lb P T all o (fun s E H n => opsDB lb P T all rest s E H n K) s E H n := rfl
noncomputable def awpB (l : Nat) (P : Program) (T : Tab) : Code → (Option X → X → List D → Hp → Nat → Prop) → Option X → List D → Hp → Nat → Prop
  | .skip, Q, s, E, H, n => Q s .normal E H n
  | .region id ops d, Q, s, E, H, n => bif d then StepB l P (.region id ops true) Q s E H n else opsDB l P T ops.toList ops.toList s E H n (fun s => Q s .normal)
  | .seq a b, Q, s, E, H, n => awpB l P T a (fun s e E H n => match e with
      | .normal => awpB l P T b Q s E H n
      | e => Q s e E H n) s E H n
  | .cond c x y, Q, s, E, H, n => match ev E c with
      | .f (.v (.bool t)) => Case t (awpB l P T x Q s E H n) (awpB l P T y Q s E H n)
      | _ => False
  | .block id c, Q, s, E, H, n => awpB l P T c (fun s e E H n => match e with
      | .exit j => bif Nat.beq j id then Q s .normal E H n else Q s (.exit j) E H n
      | e => Q s e E H n) s E H n
  | .exit id, Q, s, E, H, n => Q s (.exit id) E H n
  | .ret, Q, s, E, H, n => Q s .ret E H n
  | k, Q, s, E, H, n => StepB l P k Q s E H n
theorem InB.base {B : Base} {l : Nat} {s : Option X} {c : Cx} {w : World} {H : Hp} {n : Nat} (h : InB B l s c w H n) : ∃ B' : Base, Con B' c w H n ∧ B'.h0 = B.h0 ∧ ∀ (c' : Cx) (w' : World) (H' : Hp) (n' : Nat), Con B' c' w' H' n' → InB B l s c' w' H' n' := by
  cases s with
  | none => exact ⟨B, h, rfl, fun _ _ _ _ h => h⟩
  | some x =>
    obtain ⟨rc, h1, h2⟩ := h
    exact ⟨B.turn l (leftBy rc x), h2, rfl, fun _ _ _ _ h => ⟨rc, h1, h⟩⟩
theorem opB_sound {T : Tab} (hT : TabOk P 0 T) {l : Nat} {s : Option X} {o : Oper} {E : List D} {H : Hp} {n : Nat} {K : Option X → KD} (h : opB l P T s o E H n K) {B : Base} {c : Cx} {w : World} {a : Act} (hl : l < B.w0.heap.size) (hm : ¬ B.m0 l) (hC : InB B l s c w H n) (hE : RepL c w E a.tmps.toList) {Q : Exit → Act → World → Prop} :
    o.wpIn (Fw none) 0 P a w (fun a' w' => ∃ v, a' = a.put o.dst v ∧ ∃ s d E' H' n' c', K s d E' H' n' ∧ InB B l s c' w' H' n' ∧ RepL c' w' E' a.tmps.toList ∧ Rep c' w' d v) Q := by
  have old : opD P T o E H n (K s) → o.wpIn (Fw none) 0 P a w (fun a' w' => ∃ v, a' = a.put o.dst v ∧ ∃ s d E' H' n' c', K s d E' H' n' ∧ InB B l s c' w' H' n' ∧ RepL c' w' E' a.tmps.toList ∧ Rep c' w' d v) Q := fun h => by
    obtain ⟨B', h1, _, h2⟩ := hC.base
    refine wpIn_of_op ?_
    refine Oper.wp_mono ?_ (opD_sound hT h B' c w { a with defers := [] } h1 hE rfl)
    rintro a' w' ⟨d, v, E', H', n', c', h3, rfl, h4, h5, h6⟩
    exact ⟨v, rfl, s, d, E', H', n', c', h3, h2 _ _ _ _ h4, h5, h6⟩
  unfold opB at h
  split at h
  · rename_i q ho
    split at h
    · rename_i f hf
      split at h
      · rename_i lb ps x y cap ef
        replace h := h.open
        obtain ⟨⟨rfl, rfl⟩, h⟩ := h
        rw [evs_eq] at h
        have hx := rep_ev hE f
        rw [ef] at hx
        have hC : Con B c w H n := hC
        obtain ⟨hu, fn, tmps, asg, bd, hy, hR⟩ := h.out none B c w a.tmps.toList (q.args.toList.map a.eval) (a.eval f) hl hm hC hE hx (repL_evs hE _)
        refine ⟨fun _ _ => trivial, ?_⟩
        have hs : (o.semAt (Fw none).round a.eval).run P w = .ok (.round lb fn tmps asg bd) w := by
          rw [Oper.semAt_eq _ _ _ (fun c hc => by rw [ho] at hc; cases hc)]
          have e1 : (q.args.toList.map a.eval).toArray = q.args.map a.eval := by apply Array.ext'; simp
          rw [e1] at hy
          obtain ⟨callee, args, argTypes⟩ := q
          simp only at hf hy
          subst hf
          simp [execOp, ho, resolve, hu, Deferred.ofValue, invoke, hy]
        rw [hs]
        refine ⟨fun h => (by cases h), RoundIn.mono hR fun e w' he => ?_⟩
        obtain ⟨s, d, v, E', H', n', c', h1, rfl, h2, h3, h4⟩ := he
        exact ⟨v, rfl, s, d, E', H', n', c', h1, h2, h3, h4⟩
      · exact old h
    · exact old h
  · exact old h
theorem opsDB_sound {T : Tab} (hT : TabOk P 0 T) {l : Nat} {all : Array Oper} {B : Base} {Q : Option X → X → List D → Hp → Nat → Prop} {K : Option X → List D → Hp → Nat → Prop} (hl : l < B.w0.heap.size) (hm : ¬ B.m0 l) (hK : ∀ s E H n, K s E H n → Q s .normal E H n) : ∀ (ops : List Oper) (s : Option X) (E : List D) (H : Hp) (n : Nat) (c : Cx) (w : World) (a : Act),
    opsDB l P T all.toList ops s E H n K → InB B l s c w H n → RepL c w E a.tmps.toList → a.defers = [] → wpListIn (Fw none) 0 P all (PostB B l Q) ops a w
  | [], s, E, H, n, c, w, a, h, hC, hE, hd => wpListIn_nil ⟨s, .normal, E, H, n, c, rfl, hK _ _ _ _ h, hC, hE, hd⟩
  | o :: rest, s, E, H, n, c, w, a, h, hC, hE, hd => by
    have go : opB l P T s o E H n (fun s d E H n => putK E o.dst d (fun E => opsDB l P T all.toList rest s E H n K)) → o.wpIn (Fw none) 0 P a w (wpListIn (Fw none) 0 P all (PostB B l Q) rest) (PostB B l Q) := fun h => by
      refine Oper.wpIn_mono ?_ (opB_sound hT h hl hm hC hE)
      rintro a' w' ⟨v, rfl, s', d, E', H', n', c', h2, h3, h4, h5⟩
      obtain ⟨E2, h6, h7⟩ := repL_put h4 h5 o.dst h2
      exact opsDB_sound hT hl hm hK rest s' E2 H' n' c' w' _ h6 h3 h7 (by rw [put_defers]; exact hd)
    have skip : putK E o.dst (.tup []) (fun E => opsDB l P T all.toList rest s E H n K) → wpListIn (Fw none) 0 P all (PostB B l Q) rest (a.put o.dst undef) w := fun h => by
      obtain ⟨E2, h6, h7⟩ := repL_put hE rep_undef o.dst h
      exact opsDB_sound hT hl hm hK rest s E2 H n c w _ h6 hC h7 (by rw [put_defers]; exact hd)
    rw [opsDB_cons] at h
    unfold stepDB at h
    unfold wpListIn
    split at h
    · rename_i hg
      rw [if_pos (by simp [Region.wanted, hg])]
      exact go h
    · rename_i j want hg
      split at h
      · rename_i i hs
        split at h
        · rename_i t he
          have hy := yielded_of hE hs he
          cases want with
          | true =>
            simp only [cond_true] at h
            replace h := Case.open h
            rcases h with ⟨rfl, h⟩ | ⟨rfl, h⟩
            · rw [if_pos (by simp [Region.wanted, hg, hy])]
              exact go h
            · rw [if_neg (by simp [Region.wanted, hg, hy])]
              exact ⟨fun _ _ => trivial, skip h⟩
          | false =>
            simp only [cond_false] at h
            replace h := Case.open h
            rcases h with ⟨rfl, h⟩ | ⟨rfl, h⟩
            · rw [if_neg (by simp [Region.wanted, hg, hy])]
              exact ⟨fun _ _ => trivial, skip h⟩
            · rw [if_pos (by simp [Region.wanted, hg, hy])]
              exact go h
        · rename_i he
          have hy := yielded_undef hE hs he
          rw [if_neg (by simp [Region.wanted, hg, hy])]
          exact ⟨fun _ _ => trivial, skip h⟩
        · exact h.elim
      · exact h.elim
theorem awpB_sound {T : Tab} (hT : TabOk P 0 T) {l : Nat} : ∀ (k : Code) {Q : Option X → X → List D → Hp → Nat → Prop} {s : Option X} {E : List D} {H : Hp} {n : Nat}, awpB l P T k Q s E H n → CSemB l P k Q s E H n := by
  intro k
  induction k with
  | skip => intro Q s E H n h B c w a hl hm hC hE hd; exact wpIn_skip ⟨s, .normal, E, H, n, c, rfl, h, hC, hE, hd⟩
  | region id ops d =>
    intro Q s E H n h
    unfold awpB at h
    cases d with
    | true => exact h.out
    | false =>
      intro B c w a hl hm hC hE hd
      exact wpIn_region_list (opsDB_sound hT hl hm (fun _ _ _ _ h => h) _ s E H n c w a h hC hE hd)
  | seq x y ihx ihy =>
    intro Q s E H n h B c w a hl hm hC hE hd
    unfold awpB at h
    refine wpIn_seq (wpIn_mono (ihx h B c w a hl hm hC hE hd) ?_)
    rintro e a' w' ⟨s', x', E', H', n', c', rfl, h1, h2, h3, h4⟩
    cases x' with
    | normal => exact ihy h1 B c' w' a' hl hm h2 h3 h4
    | exit id => exact ⟨s', .exit id, E', H', n', c', rfl, h1, h2, h3, h4⟩
    | ret => exact ⟨s', .ret, E', H', n', c', rfl, h1, h2, h3, h4⟩
  | cond q x y ihx ihy =>
    intro Q s E H n h B c w a hl hm hC hE hd
    unfold awpB at h
    split at h
    · rename_i t et
      have hq := rep_ev hE q
      rw [et] at hq
      have hq := rep_v hq
      replace h := Case.open h
      rcases h with ⟨rfl, h⟩ | ⟨rfl, h⟩
      · exact wpIn_cond_true hq (ihx h B c w a hl hm hC hE hd)
      · exact wpIn_cond_false hq (ihy h B c w a hl hm hC hE hd)
    · exact h.elim
  | block id k ih =>
    intro Q s E H n h B c w a hl hm hC hE hd
    unfold awpB at h
    refine wpIn_block (wpIn_mono (ih h B c w a hl hm hC hE hd) ?_)
    rintro e a' w' ⟨s', x', E', H', n', c', rfl, h1, h2, h3, h4⟩
    cases x' with
    | normal => exact ⟨s', .normal, E', H', n', c', rfl, h1, h2, h3, h4⟩
    | exit j =>
      simp only at h1
      show (if j = id then _ else _)
      cases hb : Nat.beq j id with
      | true =>
        rw [hb] at h1
        rw [if_pos (beq_eq hb)]
        exact ⟨s', .normal, E', H', n', c', rfl, h1, h2, h3, h4⟩
      | false =>
        rw [hb] at h1
        rw [if_neg (fun e => by subst e; have : Nat.beq j j = true := by simp
                                rw [this] at hb; cases hb)]
        exact ⟨s', .exit j, E', H', n', c', rfl, h1, h2, h3, h4⟩
    | ret => exact ⟨s', .ret, E', H', n', c', rfl, h1, h2, h3, h4⟩
  | exit id => intro Q s E H n h B c w a hl hm hC hE hd; exact wpIn_exit ⟨s, .exit id, E, H, n, c, rfl, h, hC, hE, hd⟩
  | ret => intro Q s E H n h B c w a hl hm hC hE hd; exact wpIn_ret ⟨s, .ret, E, H, n, c, rfl, h, hC, hE, hd⟩
  | _ => intro Q s E H n h; exact h.out
theorem step_loopB {T : Tab} (hT : TabOk P 0 T) {l : Nat} {k : Code} {Q : Option X → X → List D → Hp → Nat → Prop} {E : List D} {H : Hp} {n : Nat} {α : Type} (pat : α → List D) (hp : α → Hp) (n1 : Nat) (I : α → Prop) (μ : α → Nat) (a0 : α)
    (h0 : I a0) (hlen : ∀ a, (hp a).length = H.length) (hinto : Into E H n (pat a0) (hp a0) n1)
    (round : ∀ a, I a → layK (pat a) fun E => awpB l P T k (fun s x E' H' n' => match x with
      | .normal => s = none ∧ ∃ a', I a' ∧ μ a' < μ a ∧ Into E' H' n' (pat a') (hp a') n1
      | x => Q s x E' H' n') none E (hp a) n1) : StepB l P (.loop k) Q none E H n := by
  refine ⟨fun B c w a hl hm hC hE hd => ?_⟩
  have hC : Con B c w H n := hC
  have hB : B.h0 ≤ H.length := by rw [← hC.hlen]; exact hC.hh
  obtain ⟨hC1, hE1⟩ := hC.into (by rw [hlen]; exact hB) hinto hE
  refine wpIn_loop_ghost (fun m a w => ∃ x c, μ x = m ∧ I x ∧ Con B c w (hp x) n1 ∧ RepL c w (pat x) a.tmps.toList ∧ a.defers = []) (μ a0) ⟨a0, _, rfl, h0, hC1, hE1, hd⟩ ?_
  rintro m a w ⟨x, c, rfl, hI, hC, hE, hd⟩
  have hr := round x hI
  rw [layK_eq] at hr
  refine wpIn_mono (awpB_sound hT k hr B c w a hl hm hC hE hd) ?_
  rintro e a' w' ⟨s', x', E', H', n', c', rfl, h1, h2, h3, h4⟩
  cases x' with
  | normal =>
    obtain ⟨rfl, a2, g1, g2, g3⟩ := h1
    have h2 : Con B c' w' H' n' := h2
    obtain ⟨hC2, hE2⟩ := h2.into (by rw [hlen]; exact hB) g3 h3
    exact ⟨_, g2, a2, _, rfl, g1, hC2, hE2, h4⟩
  | exit id => exact ⟨s', .exit id, E', H', n', c', rfl, h1, h2, h3, h4⟩
  | ret => exact ⟨s', .ret, E', H', n', c', rfl, h1, h2, h3, h4⟩
theorem StepB.plain {l : Nat} {k : Code} {Q : Option X → X → List D → Hp → Nat → Prop} {s : Option X} {E : List D} {H : Hp} {n : Nat} (h : Step P k (Q s) E H n) : StepB l P k Q s E H n :=
  ⟨fun B c w a hl hm hC hE hd => by
    obtain ⟨B', h1, _, h2⟩ := hC.base
    refine wpIn_wide.2 (wp_mono (h.open B' c w a h1 hE hd) ?_)
    rintro e a' w' ⟨x, E', H', n', c', rfl, h3, h4, h5, h6⟩
    exact ⟨s, x, E', H', n', c', rfl, h3, h2 _ _ _ _ h4, h5, h6⟩⟩
def YSpecB (P : Program) (lb : Nat) (ps : List Nat) (x y : Code) (cap args : List D) (H : Hp) (n : Nat) (R : D → Hp → Prop) (Rx : X → Hp → Prop) : Prop :=
  ∀ (r : Option Nat) (c : Cx) (w : World) (vs : List Value) (u : Value), Con (base c w H) c w H n → Rep c w (.yl lb ps x y cap) u → RepL c w args vs →
    u = .func (.yield lb) #[] #[] ∧ YieldAt (Fw r) 0 P lb vs.toArray w (fun e w' => (∃ d v H' c', R d H' ∧ e = .returned v ∧ H'.length = H.length ∧ Con (base c w H) c' w' H' n ∧ Rep c' w' d v) ∨
      ∃ x' H' c' rc, Rx x' H' ∧ e = .returned (.bool false) ∧ H'.length = H.length ∧ w.heap[lb]? = some (.loop rc) ∧ Con (base c (w.putObj lb (leftBy rc x')) H) c' w' H' n)
theorem yspecB_mk {T : Tab} (hT : TabOk P 0 T) {l : Nat} {ps : List Nat} {x y : Code} {cap args : List D} {H : Hp} {n : Nat} {R : D → Hp → Prop} {Rx : X → Hp → Prop} (hps : args.length = ps.length) (hny : noYH H = true)
    (h : layK (setPs ps args cap) fun E => awpY (some l) [] P T x (fun e E1 H1 n1 => match e with
      | .normal => noYL E1 = true ∧ noYH H1 = true ∧ awpY (some l) [] P T y (fun e E2 H2 n2 => match e with
        | .normal => noYH H2 = true ∧ Fin (.f (.v (.bool true))) H2 n2 H.length n R
        | .ret => noYH H2 = true ∧ Fin (.f (.v (.bool false))) H2 n2 H.length n (fun _ H' => Rx .ret H')
        | .exit id => noYH H2 = true ∧ Fin (.f (.v (.bool false))) H2 n2 H.length n (fun _ H' => Rx (.exit id) H')) E1 H1 n1
      | _ => False) E H n) : YSpecB P l ps x y cap args H n R Rx := by
  intro r c w vs u hC hu ha
  unfold Rep at hu
  obtain ⟨fn, df, ts, rfl, hi, hw, hcap⟩ := hu
  refine ⟨rfl, ?_⟩
  have hlw : l < w.heap.size := (Array.getElem?_eq_some_iff.1 hw).1
  have hsz : vs.toArray.size = ps.toArray.size := by simp [ha.length, hps]
  have hy := run_yield (P := P) (args := vs.toArray) hw hsz
  refine ⟨fn, _, x, y, hy, roundIn_of_wpIn (F := Fw r) trivial ?_⟩
  have hE0 : RepL c w (setPs ps args cap) (((ps.toArray.zip vs.toArray).foldl (fun (t : Array Value) (q : Nat × Value) => t.setIfInBounds q.1 q.2) ts.toArray).toList) := by
    have e : (ps.toArray.zip vs.toArray).foldl (fun (t : Array Value) (q : Nat × Value) => t.setIfInBounds q.1 q.2) ts.toArray = (ps.zip vs).foldl (fun (t : Array Value) (q : Nat × Value) => t.setIfInBounds q.1 q.2) ts.toArray := by simp
    rw [e, foldl_sets]
    exact setPs_rep ps args cap vs ts ha hcap
  have h1 := h
  rw [layK_eq] at h1
  refine wpIn_mono (awpY_sound hT x h1 (base c w H) c w { tmps := _, defers := [] } hC hE0 rfl) ?_
  rintro e a1 w1 ⟨x', E1, H1, n1, c1, rfl, hq, hC1, hE1, hd1⟩
  cases x' with
  | exit id => exact hq.elim
  | ret => exact hq.elim
  | normal =>
    obtain ⟨hy1, hy2, hq⟩ := hq
    have hnm : ¬ mine c H l := fun hm => (hC.mineB hm).2.2 hi
    have hl1 := (hC1.old l hlw hnm).trans hw
    have hi1 : c1.imm l := hC1.imm0 l hi
    have hlw1 : l < w1.heap.size := (Array.getElem?_eq_some_iff.1 hl1).1
    refine ⟨_, run_beginRound hl1 rfl, ?_⟩
    have hC2 := hC1.self.off (o := .loop { state := .busy, pending := none, fn := fn, tmps := ts.toArray, params := ps.toArray, assign := x, body := y, defers := df }) hl1 hy2 (B' := base c1 (w1.putObj l (.loop { state := .busy, pending := none, fn := fn, tmps := ts.toArray, params := ps.toArray, assign := x, body := y, defers := df })) H1) ⟨rfl, rfl, rfl, putObj_size _ _ _⟩ ⟨rfl, rfl, rfl, rfl⟩ (fun b hb hm => rfl)
    have hE2 := RepL.off (Off.putObj hl1 (.loop { state := .busy, pending := none, fn := fn, tmps := ts.toArray, params := ps.toArray, assign := x, body := y, defers := df })) E1 _ hy1 hE1
    refine wpIn_mono (awpY_sound hT y hq _ c1 _ a1 hC2 hE2 hd1) ?_
    rintro e a2 w3 ⟨x2, E2, H2, n2, c2, rfl, hq2, hC3, hE3, hd3⟩
    have hnm1 : ¬ mine c1 H1 l := fun hm => (hC1.mineB hm).2.2 hi1
    have hl3 := (hC3.old l (by show l < (w1.putObj l _).heap.size; rw [putObj_size]; exact hlw1) hnm1).trans (World.putObj_heap_same hlw1)
    have hlw3 : l < w3.heap.size := (Array.getElem?_eq_some_iff.1 hl3).1
    -- a way out by a jump
    have out : ∀ x' : X, noYH H2 = true → Fin (.f (.v (.bool false))) H2 n2 H.length n (fun _ H' => Rx x' H') → ∃ v w', (Instr.endRound l (some (jumpOf x'))).run P w3 = .ok v w' ∧ ((∃ d v' H' c', R d H' ∧ Ending.returned v = .returned v' ∧ H'.length = H.length ∧ Con (base c w H) c' w' H' n ∧ Rep c' w' d v') ∨
        ∃ x' H' c' rc, Rx x' H' ∧ Ending.returned v = .returned (.bool false) ∧ H'.length = H.length ∧ w.heap[l]? = some (.loop rc) ∧ Con (base c (w.putObj l (leftBy rc x')) H) c' w' H' n) := fun x' hy3 hfin => by
      refine ⟨_, _, run_endRound (some (jumpOf x')) hl3, .inr ?_⟩
      have hCa : Con (base c (w.putObj l (leftBy { state := .ready, pending := none, fn := fn, tmps := ts.toArray, params := ps.toArray, assign := x, body := y, defers := df } x')) H) c1 (w1.putObj l (leftBy { state := .ready, pending := none, fn := fn, tmps := ts.toArray, params := ps.toArray, assign := x, body := y, defers := df } x')) H1 n1 :=
        hC1.off hl1 hy2 ⟨rfl, rfl, rfl, putObj_size _ _ _⟩ ⟨rfl, rfl, rfl, rfl⟩ (fun b hb hm => by
          show _ = (w.putObj l _).heap[b]?
          by_cases e : b = l
          · subst e
            rw [World.putObj_heap_same hlw1, World.putObj_heap_same hlw]
          · rw [World.putObj_heap_other e, World.putObj_heap_other e]
            exact hC1.old b hb hm)
      have hCb : Con (base c1 (w1.putObj l (leftBy { state := .ready, pending := none, fn := fn, tmps := ts.toArray, params := ps.toArray, assign := x, body := y, defers := df } x')) H1) c2 (w3.putObj l (leftBy { state := .ready, pending := none, fn := fn, tmps := ts.toArray, params := ps.toArray, assign := x, body := y, defers := df } x')) H2 n2 :=
        hC3.off hl3 hy3 ⟨rfl, rfl, rfl, by show (w1.putObj l _).heap.size = (w1.putObj l _).heap.size; rw [putObj_size, putObj_size]⟩ ⟨rfl, rfl, rfl, rfl⟩ (fun b hb hm => by
          have hb2 : b < w1.heap.size := by rw [← putObj_size w1 l]; exact hb
          show _ = (w1.putObj l _).heap[b]?
          by_cases e : b = l
          · subst e
            rw [World.putObj_heap_same hlw3, World.putObj_heap_same hlw1]
          · rw [World.putObj_heap_other e, World.putObj_heap_other e]
            exact (hC3.old b hb hm).trans (World.putObj_heap_other e))
      obtain ⟨d', H', c', g1, g2, g3, g4⟩ := hfin.out _ c2 _ (.bool false) rfl (hCa.trans hCb) (rep_of _ rfl)
      exact ⟨x', H', c', _, g1, rfl, g2, hw, g3⟩
    cases x2 with
    | exit id => exact out (.exit id) hq2.1 hq2.2
    | ret => exact out .ret hq2.1 hq2.2
    | normal =>
      obtain ⟨hy3, hfin⟩ := hq2
      refine ⟨_, _, run_endRound none hl3, .inl ?_⟩
      have hC4 := hC1.trans (hC3.off (o := .loop { state := .ready, pending := none, fn := fn, tmps := ts.toArray, params := ps.toArray, assign := x, body := y, defers := df }) hl3 hy3 (B' := base c1 w1 H1) ⟨rfl, rfl, rfl, (putObj_size _ _ _).symm⟩ ⟨rfl, rfl, rfl, rfl⟩ (fun b hb hm => by
        have hb2 : b < w1.heap.size := by rw [← putObj_size w1 l]; exact hb
        by_cases e : b = l
        · subst e
          rw [World.putObj_heap_same (Array.getElem?_eq_some_iff.1 hl3).1]
          exact hl1.symm
        · rw [World.putObj_heap_other e]
          refine (hC3.old b hb hm).trans ?_
          exact World.putObj_heap_other e))
      obtain ⟨d', H', c', g1, g2, g3, g4⟩ := hfin.out _ c2 _ (.bool true) rfl hC4 (rep_of _ rfl)
      exact ⟨d', .bool true, H', c', g1, rfl, g2, g3, g4⟩
theorem YSpecB.step {lb : Nat} {ps : List Nat} {x y : Code} {cap «as» : List D} {Hs : Hp} {R : D → Hp → Prop} {Rx : X → Hp → Prop} {E : List D} {H : Hp} {n : Nat} {K : Option X → KD} (ρ σ : List Nat) (hs : YSpecB P lb ps x y cap «as» Hs σ.length R Rx)
    (hρ : ρ.Nodup) (hσ : σ.Nodup) (hρb : ∀ r ∈ ρ, r < H.length) (hσb : ∀ k ∈ σ, k < n) (hfit : fitH ρ σ Hs.length σ.length ρ Hs H) (href : refL Hs.length σ.length (.yl lb ps x y cap :: «as»)) (hny : noYH H = true)
    (k : ∀ d Hs', R d Hs' → Hs'.length = Hs.length → K none (d.ren ρ σ) (killsL σ E) (putH ρ σ ρ Hs' (killsH σ H)) n)
    (kx : ∀ x' Hs', Rx x' Hs' → Hs'.length = Hs.length → K (some x') (.f (.v (.bool false))) (killsL σ (unYL E)) (putH ρ σ ρ Hs' (killsH σ H)) n) : YStepB P lb ps x y (renL ρ σ cap) (renL ρ σ «as») E H n K := by
  refine ⟨fun r B c w ts vs u hl hm hC hE hu ha => ?_⟩
  have hu0 := hu
  unfold Rep at hu0
  obtain ⟨fn0, df0, ts0, _, hi0, hw0, _⟩ := hu0
  have hall : RepL c w (renL ρ σ (.yl lb ps x y cap :: «as»)) (u :: vs) := by
    unfold renL D.ren
    exact repL_cons hu ha
  obtain ⟨hC1, hr1, hback⟩ := core_at ρ σ hρ hσ hρb hσb hfit href hC hE hall
  obtain ⟨hlu, fn, tmps, asg, bd, hy, hR⟩ := hs r _ w vs u hC1 (repL_cons_iff.1 hr1).1 (repL_cons_iff.1 hr1).2
  refine ⟨hlu, fn, tmps, asg, bd, hy, RoundIn.mono hR fun e w' he => ?_⟩
  rcases he with ⟨d, v, H', c2, h1, h2, h3, h4, h5⟩ | ⟨x', H', c2, rc, h1, h2, h3, h4, h5⟩
  · obtain ⟨c', g1, g2, g3⟩ := hback w' d v H' c2 h3 h4 h5
    exact ⟨none, _, v, _, _, n, c', k d H' h1 h3, h2, g1, g2, g3⟩
  · have hw1 := hw0
    have hlw : lb < w.heap.size := (Array.getElem?_eq_some_iff.1 hw0).1
    have hCt : Con (B.turn lb (leftBy rc x')) c (w.putObj lb (leftBy rc x')) H n :=
      hC.off hw0 hny ⟨rfl, rfl, rfl, putObj_size _ _ _⟩ ⟨rfl, rfl, rfl, rfl⟩ (fun b hb hm2 => by
        show _ = (B.w0.putObj lb _).heap[b]?
        by_cases e : b = lb
        · subst e
          rw [World.putObj_heap_same hlw, World.putObj_heap_same hl]
        · rw [World.putObj_heap_other e, World.putObj_heap_other e]
          exact hC.old b hb hm2)
    have hEt : RepL c (w.putObj lb (leftBy rc x')) (unYL E) ts := RepL.off (Off.putObj hw0 _) _ _ (noY_unYL E) (RepL.unY E ts hE)
    obtain ⟨_, _, hback2⟩ := core_at (vs := []) («as» := []) ρ σ hρ hσ hρb hσb hfit trivial hCt hEt (by unfold renL RepL; rfl)
    obtain ⟨c', g1, g2, g3⟩ := hback2 w' (.f (.v (.bool false))) (.bool false) H' c2 h3 h5 (rep_of _ rfl)
    exact ⟨some x', _, _, _, _, n, c', kx x' H' h1 h3, h2, ⟨rc, (hC.old lb hl hm).symm.trans h4, g1⟩, g2, g3⟩
def SpecB (P : Program) (g : FuncId) (lb : Nat) (args : List D) (H : Hp) (n : Nat) (R : D → Hp → Prop) (Rx : X → Hp → Prop) : Prop :=
  FnOk P g ∧ ∀ (c : Cx) (w : World) (vs : List Value), Con (base c w H) c w H n → c.imm lb → RepL c w args vs →
    Calls P g vs.toArray w (fun e w' => (∃ d v H' c', R d H' ∧ e = .returned v ∧ H'.length = H.length ∧ Con (base c w H) c' w' H' n ∧ Rep c' w' d v) ∨
      ∃ x v H' c' rc, Rx x H' ∧ e = .returned v ∧ H'.length = H.length ∧ w.heap[lb]? = some (.loop rc) ∧ Con (base c (w.putObj lb (leftBy rc x)) H) c' w' H' n)
theorem spec_mkB {T : Tab} (hT : TabOk P 0 T) {g : FuncId} {fn : Func} {k : Code} {lb : Nat} {args : List D} {H : Hp} {n : Nat} {R : D → Hp → Prop} {Rx : X → Hp → Prop} (hf : P.funcs[g]? = some fn) (hnm : (fn.name == "runtime.NumGoroutine") = false) (hb : fn.body = some k)
    (h : layK (padK args fn.ntmps) fun E => awpB lb P T k (fun s => match s with
      | none => Ends T fn.results.toList H.length n R
      | some x => Ends T fn.results.toList H.length n (fun _ H' => Rx x H')) none E H n) : SpecB P g lb args H n R Rx := by
  rw [layK_eq] at h
  refine ⟨⟨fn, hf, hnm, by rw [hb]; rfl⟩, fun c w vs hC hi hr => ?_⟩
  refine callsIn_wide.1 (callsIn_of_wp_marks (F := Fence.wide) (n := 0) hf hb trivial ?_)
  have hE : RepL c w (padK args fn.ntmps) (vs.toArray ++ Array.replicate (fn.ntmps - vs.toArray.size) undef).toList := by
    rw [padK_eq]
    simp only [Array.toList_append, Array.toList_replicate, List.size_toArray]
    rw [hr.length]
    refine hr.append ?_
    have := repL_junk (c := c) (w := w) (List.replicate (fn.ntmps - args.length) undef)
    simpa using this
  have hlw := (hC.immB lb hi).1
  have hnm2 : ¬ mine c H lb := fun hm => (hC.mineB hm).2.2 hi
  refine wpIn_mono (awpB_sound hT k h (base c w H) c w _ hlw hnm2 hC hE rfl) ?_
  rintro e a w' ⟨s, x, E', H', n', c', rfl, h1, hC', hE', hd⟩
  cases s with
  | none =>
    have hC' : Con (base c w H) c' w' H' n' := hC'
    have fin : (retK T fn.results.toList E' H' fun ds => oneK ds fun d => Fin d H' n' H.length n R) → LeavesInM Fence.wide 0 P fn a.tmps (fun e w' => (∃ d v H' c', R d H' ∧ e = .returned v ∧ H'.length = H.length ∧ Con (base c w H) c' w' H' n ∧ Rep c' w' d v) ∨ ∃ x v H' c' rc, Rx x H' ∧ e = .returned v ∧ H'.length = H.length ∧ w.heap[lb]? = some (.loop rc) ∧ Con (base c (w.putObj lb (leftBy rc x)) H) c' w' H' n) a.defers .returning w' := fun h1 => by
      obtain ⟨v, g1, d', H'', c'', g2, g3, g4, g5⟩ := ends_fin hT h1 hC' rfl hE'
      rw [hd]
      exact ⟨v, g1, .inl ⟨d', v, H'', c'', g2, rfl, g3, g4, g5⟩⟩
    cases x with
    | normal => exact fin h1
    | exit id => exact h1.elim
    | ret => exact fin h1
  | some x0 =>
    obtain ⟨rc, hrc, hC'⟩ := hC'
    have fin : (retK T fn.results.toList E' H' fun ds => oneK ds fun d => Fin d H' n' H.length n (fun _ H' => Rx x0 H')) → LeavesInM Fence.wide 0 P fn a.tmps (fun e w' => (∃ d v H' c', R d H' ∧ e = .returned v ∧ H'.length = H.length ∧ Con (base c w H) c' w' H' n ∧ Rep c' w' d v) ∨ ∃ x v H' c' rc, Rx x H' ∧ e = .returned v ∧ H'.length = H.length ∧ w.heap[lb]? = some (.loop rc) ∧ Con (base c (w.putObj lb (leftBy rc x)) H) c' w' H' n) a.defers .returning w' := fun h1 => by
      obtain ⟨v, g1, d', H'', c'', g2, g3, g4, g5⟩ := ends_fin hT h1 hC' rfl hE'
      rw [hd]
      exact ⟨v, g1, .inr ⟨x0, v, H'', c'', rc, g2, rfl, g3, hrc, g4⟩⟩
    cases x with
    | normal => exact fin h1
    | exit id => exact h1.elim
    | ret => exact fin h1
structure RangeB (P : Program) (g : Operand) (ps : Array Tmp) (x y : Code) (E : List D) (H : Hp) (n : Nat) (K : X → List D → Hp → Nat → Prop) : Prop where of ::
  out : ∀ (B : Base) (c : Cx) (w : World) (a : Act), Con B c w H n → RepL c w E a.tmps.toList → a.defers = [] →
    (Code.rangeFunc g ps x y).wpIn (Fw none) 0 P (fun e a' w' => ∃ x, e = conv x ∧ ∃ D E' H' n' c', K x E' H' n' ∧ Con B c' w' H' n' ∧ RepL c' w' E' a'.tmps.toList ∧ a'.defers = [markOf D] ∧ Left B c' w' H' D) a w
theorem RangeB.into {g : Operand} {ps : Array Tmp} {x y : Code} {E E' : List D} {H H' : Hp} {n n' : Nat} {K : X → List D → Hp → Nat → Prop} (hl : H'.length = H.length) (hi : Into E H n E' H' n') (h : RangeB P g ps x y E' H' n' K) : RangeB P g ps x y E H n K :=
  ⟨fun B c w a hC hE hd => by
    obtain ⟨h1, h2⟩ := hC.into (by rw [hl, ← hC.hlen]; exact hC.hh) hi hE
    exact h.out B _ w a h1 h2 hd⟩
theorem range_mkB {g : Operand} {ps : Array Tmp} {x y : Code} {E : List D} {H : Hp} {n : Nat} {K : X → List D → Hp → Nat → Prop} {gf : FuncId} {capg : List D} {«as» : Nat → List D} {Hs : Hp} {R : D → Hp → Prop} {Rx : X → Hp → Prop} (ρ σ : List Nat) (hg : ev E g = .fn gf capg)
    (hs : ∀ l, SpecB P gf l («as» l) Hs σ.length R Rx) (has : ∀ l, renL ρ σ («as» l) = .yl l ps.toList x y E :: capg)
    (hρ : ρ.Nodup) (hσ : σ.Nodup) (hρb : ∀ r ∈ ρ, r < H.length) (hσb : ∀ k ∈ σ, k < n) (hfit : fitH ρ σ Hs.length σ.length ρ Hs H) (href : ∀ l, refL Hs.length σ.length («as» l)) (hnyH : noYH H = true) (hnyE : noYL E = true)
    (k : ∀ d Hs', R d Hs' → Hs'.length = Hs.length → noYH (putH ρ σ ρ Hs' (killsH σ H)) = true ∧ noYL (killsL σ E) = true ∧ K .normal (killsL σ E) (putH ρ σ ρ Hs' (killsH σ H)) n)
    (kx : ∀ x Hs', Rx x Hs' → Hs'.length = Hs.length → x ≠ .normal ∧ noYH (putH ρ σ ρ Hs' (killsH σ H)) = true ∧ noYL (killsL σ E) = true ∧ K x (killsL σ E) (putH ρ σ ρ Hs' (killsH σ H)) n) : RangeB P g ps x y E H n K := by
  refine ⟨fun B c w a hC hE hd => wpIn_rangeFunc (fun fn hfn => ?_)⟩
  have hx := rep_ev hE g
  rw [hg] at hx
  unfold Rep at hx
  obtain ⟨lb, hgv, hlb⟩ := hx
  have hb1 : Below w.heap.size w (w.alloc (.deferred (some []))) := (Below.refl _ _).alloc (Nat.le_refl _) _
  obtain ⟨rc, hrc⟩ : ∃ rc : Loop, rc = { state := .ready, pending := none, fn := fn, tmps := a.tmps, params := ps, assign := x, body := y, defers := w.heap.size } := ⟨_, rfl⟩
  obtain ⟨W1, hW1⟩ : ∃ W1, (w.alloc (.deferred (some []))).alloc (.loop rc) = W1 := ⟨_, rfl⟩
  have hb2 : Below w.heap.size w W1 := by rw [← hW1]; exact hb1.alloc (by simp) _
  have hL1 : W1.heap[w.heap.size + 1]? = some (.loop rc) := by
    rw [← hW1]
    have := World.alloc_heap_new (w.alloc (.deferred (some []))) (.loop rc)
    rwa [World.size_alloc] at this
  have hK1 : W1.heap[w.heap.size]? = some (.deferred (some [])) := by
    rw [← hW1]; exact (Below.heap_alloc _ _ _ (by simp)).trans (World.alloc_heap_new w _)
  have hsz : W1.heap.size = w.heap.size + 2 := by rw [← hW1, World.size_alloc, World.size_alloc]
  obtain ⟨hC1, hk1⟩ := hC.grow hb2
  have hnm : ∀ b, w.heap.size ≤ b → ¬ mine c H b := fun b hb hm => by
    have := (hC.mineB hm).2.1
    omega
  obtain ⟨hC2, hk2⟩ := hC1.addImm (b := w.heap.size + 1) (by omega) (by have := hC.size; omega) (hnm _ (by omega))
  have hE2 : RepL (c.addImm (w.heap.size + 1)) W1 E a.tmps.toList := (hE.mono hk1).mono hk2
  have hlb2 : RepL (c.addImm (w.heap.size + 1)) W1 capg lb := (hlb.mono hk1).mono hk2
  have hyl : Rep (c.addImm (w.heap.size + 1)) W1 (.yl (w.heap.size + 1) ps.toList x y E) (.func (.yield (w.heap.size + 1)) #[] #[]) := by
    unfold Rep
    refine ⟨fn, w.heap.size, a.tmps.toList, rfl, .inr rfl, ?_, hE2⟩
    rw [hL1, hrc]
  have hall : RepL (c.addImm (w.heap.size + 1)) W1 (renL ρ σ («as» (w.heap.size + 1))) (.func (.yield (w.heap.size + 1)) #[] #[] :: lb) := by
    rw [has]
    exact repL_cons hyl hlb2
  obtain ⟨hCc, hrc1, hback⟩ := core_at ρ σ hρ hσ hρb hσb hfit (href _) hC2.self hE2 hall
  obtain ⟨fg, hf, hnm2, hbd⟩ := (hs 0).1
  have eg : ∀ args w, (callFunc gf args).run P w = .ok (.enter gf args) w := fun args w => by
    have hn2 : fg.name ≠ "runtime.NumGoroutine" := by simpa using hnm2
    have hb2 : ¬ fg.body = none := fun e => by rw [e] at hbd; cases hbd
    simp [callFunc, hf, hn2, hb2]
  have hmm : ∀ b, w.heap.size ≤ b → ¬ mine (c.addImm (w.heap.size + 1)) H b := fun b hb hm => hnm b hb hm
  refine ⟨w.heap.size + 1, [markOf w.heap.size], W1, { target := .fn (.func gf) lb.toArray, args := #[.func (.yield (w.heap.size + 1)) #[] #[]] }, W1, gf, #[.func (.yield (w.heap.size + 1)) #[] #[]] ++ lb.toArray, W1, ?_, ?_, fun _ _ => trivial, ?_, fun h => (by cases h), ?_⟩
  · rw [← hW1, hrc]; exact run_enterLoop_outer _ _ _ _ _
  · simp only [resolve, hgv]
    simp [go_sem]
  · simp [invoke, go_sem, eg]
  · have hargs : (#[.func (.yield (w.heap.size + 1)) #[] #[]] ++ lb.toArray : Array Value) = (Value.func (.yield (w.heap.size + 1)) #[] #[] :: lb).toArray := by simp
    rw [hargs]
    refine callsFw (Calls.mono ((hs _).2 _ W1 _ hCc (.inr rfl) hrc1) ?_)
    -- what is left behind, from any world that the call may have been told from
    have behind : ∀ (W' w3 : World) (c' : Cx) (H' : Hp) (r' : Loop), W'.heap.size = W1.heap.size → W'.heap[w.heap.size]? = some (.deferred (some [])) → Con (base (c.addImm (w.heap.size + 1)) W' H) c' w3 H' n → Con B c' w3 H' n → w3.heap[w.heap.size + 1]? = some (.loop r') → ∀ o, noYH H' = true →
        Con B c' (w3.putObj (w.heap.size + 1) o) H' n ∧ Left B c' (w3.putObj (w.heap.size + 1) o) H' w.heap.size := fun W' w3 c' H' r' hs1 hD1 hC3 hC4 hl3 o n1 => by
      have hD3 : w3.heap[w.heap.size]? = some (.deferred (some [])) := (hC3.old _ (by show _ < W'.heap.size; omega) (hmm _ (by omega))).trans hD1
      refine ⟨hC4.off hl3 n1 ⟨rfl, rfl, rfl, rfl⟩ ⟨rfl, rfl, rfl, rfl⟩ (fun b hb hm => ?_), ?_⟩
      · rw [World.putObj_heap_other (by have := hC.size; omega)]
        exact hC4.old b hb hm
      · have hsz3 : W'.heap.size ≤ w3.heap.size := hC3.size
        refine ⟨by rw [putObj_size]; omega, hC.size, by rw [World.putObj_heap_other (by omega)]; exact hD3, fun hm => ?_, fun hi => ?_⟩
        · rcases (hC3.mineB hm).1 with h1 | h1
          · exact hmm _ (Nat.le_refl _) h1
          · have h1' : W'.heap.size ≤ w.heap.size := h1
            omega
        · rcases (hC3.immB _ hi).2 with h1 | h1 | h1
          · rcases h1 with h1 | h1
            · have := (hC.immB _ h1).1
              omega
            · omega
          · exact hmm _ (Nat.le_refl _) h1
          · have h1' : W'.heap.size ≤ w.heap.size := h1
            omega
    have hdef : ∀ D, [markOf D] ++ a.defers = [markOf D] := fun D => by rw [hd]; rfl
    rintro e w3 (⟨d, v, Hs', c2, hR, rfl, hl', hCr, hv⟩ | ⟨x', v, Hs', c2, rc', hR, rfl, hl', hrw, hCr⟩)
    · obtain ⟨c', hC3, hE3, _⟩ := hback w3 d v Hs' c2 hl' hCr hv
      obtain ⟨n1, n2, hK⟩ := k d Hs' hR hl'
      have hC4 := hC2.trans hC3
      have hl3 : w3.heap[w.heap.size + 1]? = some (.loop rc) := (hC3.old _ (by show _ < W1.heap.size; omega) (hmm _ (by omega))).trans hL1
      obtain ⟨g1, g2⟩ := behind W1 w3 c' _ rc rfl hK1 hC3 hC4 hl3 (.loop { rc with state := .exhausted }) n1
      have hend : (Instr.endLoop (w.heap.size + 1)).run P w3 = .ok none (w3.putObj (w.heap.size + 1) (.loop { rc with state := .exhausted })) := by
        rw [run_endLoop (P := P) hl3 (by rw [hrc]; simp), show rc.pending = none by rw [hrc]]
      exact ⟨none, _, hend, .normal, rfl, w.heap.size, _, _, n, c', hK, g1, RepL.off (Off.putObj hl3 _) _ _ n2 hE3, hdef _, g2⟩
    · have hrr : rc' = rc := by
        rw [hL1] at hrw
        cases hrw
        rfl
      subst hrr
      obtain ⟨hxn, n1, n2, hK⟩ := kx x' Hs' hR hl'
      have hCt : Con B (c.addImm (w.heap.size + 1)) (W1.putObj (w.heap.size + 1) (leftBy rc' x')) H n := hC2.off hL1 hnyH ⟨rfl, rfl, rfl, rfl⟩ ⟨rfl, rfl, rfl, rfl⟩ (fun b hb hm => by
        rw [World.putObj_heap_other (by have := hC.size; omega)]
        exact hC2.old b hb hm)
      have hEt : RepL (c.addImm (w.heap.size + 1)) (W1.putObj (w.heap.size + 1) (leftBy rc' x')) E a.tmps.toList := RepL.off (Off.putObj hL1 _) _ _ hnyE hE2
      obtain ⟨_, _, hback2⟩ := core_at (vs := []) («as» := []) ρ σ hρ hσ hρb hσb hfit trivial hCt.self hEt (by unfold renL RepL; rfl)
      obtain ⟨c', hC3, hE3, _⟩ := hback2 w3 .junk (.bool false) Hs' c2 hl' hCr (by simp [Rep])
      have hC4 := hCt.trans hC3
      have hl3 : w3.heap[w.heap.size + 1]? = some (leftBy rc' x') := (hC3.old _ (by show _ < (W1.putObj _ _).heap.size; rw [putObj_size]; omega) (hmm _ (by omega))).trans (World.putObj_heap_same (by omega))
      have hl3' : w3.heap[w.heap.size + 1]? = some (.loop { rc' with state := .done, pending := some (jumpOf x') }) := hl3
      obtain ⟨g1, g2⟩ := behind (W1.putObj (w.heap.size + 1) (leftBy rc' x')) w3 c' _ _ (putObj_size _ _ _) (by rw [World.putObj_heap_other (by omega)]; exact hK1) hC3 hC4 hl3' (.loop { rc' with state := .exhausted, pending := some (jumpOf x') }) n1
      have hE4 := RepL.off (Off.putObj hl3' (.loop { rc' with state := .exhausted, pending := some (jumpOf x') })) _ _ n2 hE3
      refine ⟨some (jumpOf x'), _, run_endLoop (P := P) hl3' (by simp), ?_⟩
      show (jumpOf x').wpIn _ _ _ _ _ _
      cases x' with
      | normal => exact absurd rfl hxn
      | exit id => exact wpIn_exit ⟨.exit id, rfl, w.heap.size, _, _, n, c', hK, g1, hE4, hdef _, g2⟩
      | ret => exact wpIn_ret ⟨.ret, rfl, w.heap.size, _, _, n, c', hK, g1, hE4, hdef _, g2⟩
noncomputable def awpMB (P : Program) (T : Tab) : Code → (X → List D → Hp → Nat → Prop) → List D → Hp → Nat → Prop
  | .seq a b, Q, E, H, n => match rangeOf a with
    | some (a', id, g, ps, x, y) => awpY none [] P T a' (fun e E H n => match e with
      | .normal => RangeB P g ps x y E H n (fun e E' H' n' => match e with
        | .normal => ∀ D, awpY none [markOf D] P T b (fun x E H n => noYL E = true ∧ noYH H = true ∧ Q x E H n) E' H' n'
        | .ret => noYL E' = true ∧ noYH H' = true ∧ Q .ret E' H' n'
        | .exit j => bif Nat.beq j id then (∀ D, awpY none [markOf D] P T b (fun x E H n => noYL E = true ∧ noYH H = true ∧ Q x E H n) E' H' n') else False)
      | _ => False) E H n
    | none => awpY none [] P T a (fun e E H n => match e with
      | .normal => awpMB P T b Q E H n
      | _ => False) E H n
  | _, _, _, _, _ => False
theorem awpMB_sound {T : Tab} (hT : TabOk P 0 T) : ∀ (k : Code) {Q : X → List D → Hp → Nat → Prop} {E : List D} {H : Hp} {n : Nat}, awpMB P T k Q E H n → ∀ (B : Base) (c : Cx) (w : World) (a : Act), Con B c w H n → RepL c w E a.tmps.toList → a.defers = [] → k.wpIn (Fw none) 0 P (PostM B Q) a w := by
  intro k
  induction k with
  | seq p q ihp ihq =>
    intro Q E H n h B c w a hC hE hd
    unfold awpMB at h
    split at h
    · rename_i a' id g ps x y hr
      rw [rangeOf_is hr]
      refine wpIn_seq (wpIn_seq (wpIn_mono (awpY_sound hT a' h B c w a hC hE hd) ?_))
      rintro e a1 w1 ⟨x1, E1, H1, n1, c1, rfl, h1, hC1, hE1, hd1⟩
      cases x1 with
      | exit id => exact h1.elim
      | ret => exact h1.elim
      | normal =>
        refine wpIn_block (wpIn_mono (h1.out B c1 w1 a1 hC1 hE1 hd1) ?_)
        rintro e a2 w2 ⟨x2, rfl, D, E2, H2, n2, c2, h2, hC2, hE2, hd2, hL⟩
        have on : (∀ D, awpY none [markOf D] P T q (fun x E H n => noYL E = true ∧ noYH H = true ∧ Q x E H n) E2 H2 n2) → q.wpIn (Fw none) 0 P (PostM B Q) a2 w2 := fun h2 => by
          refine wpIn_mono (awpY_sound hT q (h2 D) _ c2 w2 a2 hC2.self hE2 hd2) ?_
          rintro e a3 w3 ⟨x3, E3, H3, n3, c3, rfl, ⟨h3, h4, h5⟩, hC3, hE3, hd3⟩
          exact ⟨x3, E3, H3, n3, c3, D, rfl, h5, h3, h4, hC2.trans hC3, hE3, hd3, hL.run hC3⟩
        cases x2 with
        | normal => exact on h2
        | ret =>
          obtain ⟨h3, h4, h5⟩ := h2
          exact ⟨.ret, E2, H2, n2, c2, D, rfl, h5, h3, h4, hC2, hE2, hd2, hL⟩
        | exit j =>
          simp only at h2
          show (if j = id then _ else _)
          cases hb : Nat.beq j id with
          | true =>
            rw [hb] at h2
            rw [if_pos (beq_eq hb)]
            exact on h2
          | false =>
            rw [hb] at h2
            exact h2.elim
    · refine wpIn_seq (wpIn_mono (awpY_sound hT p h B c w a hC hE hd) ?_)
      rintro e a1 w1 ⟨x1, E1, H1, n1, c1, rfl, h1, hC1, hE1, hd1⟩
      cases x1 with
      | exit id => exact h1.elim
      | ret => exact h1.elim
      | normal => exact ihq h1 B c1 w1 a1 hC1 hE1 hd1
  | _ => intro Q E H n h; unfold awpMB at h; exact h.elim
theorem spec_mkMB {T : Tab} (hT : TabOk P 0 T) {g : FuncId} {fn : Func} {k : Code} {args : List D} {H : Hp} {n : Nat} {R : D → Hp → Prop} (hf : P.funcs[g]? = some fn) (hnm : (fn.name == "runtime.NumGoroutine") = false) (hb : fn.body = some k)
    (h : layK (padK args fn.ntmps) fun E => awpMB P T k (Ends T fn.results.toList H.length n R) E H n) : Spec P g args H n R := by
  rw [layK_eq] at h
  refine ⟨⟨fn, hf, hnm, by rw [hb]; rfl⟩, fun c w vs hC hr => ?_⟩
  refine callsIn_wide.1 (callsIn_of_wp_marks (F := Fence.wide) (n := 0) hf hb trivial ?_)
  have hE : RepL c w (padK args fn.ntmps) (vs.toArray ++ Array.replicate (fn.ntmps - vs.toArray.size) undef).toList := by
    rw [padK_eq]
    simp only [Array.toList_append, Array.toList_replicate, List.size_toArray]
    rw [hr.length]
    refine hr.append ?_
    have := repL_junk (c := c) (w := w) (List.replicate (fn.ntmps - args.length) undef)
    simpa using this
  refine wpIn_mono (awpMB_sound hT k h _ c w _ hC hE rfl) ?_
  rintro e a w' ⟨x, E', H', n', c', D, rfl, h1, hy1, hy2, hC', hE', hd, hL⟩
  have hof : Off w' (w'.putObj D (.deferred none)) D := ⟨fun C T z e => (by rw [hL.here] at e; cases e), fun b hb => World.putObj_heap_other hb⟩
  have hC2 : Con (base c w H) c' (w'.putObj D (.deferred none)) H' n' := hC'.offG hof (tabP_mono (fun b hb => World.putObj_heap_other (fun e => hL.turns (e ▸ hC'.glob.imm b hb))) hC'.glob.tab) hy2 ⟨rfl, rfl, rfl, rfl⟩ ⟨rfl, rfl, rfl, rfl⟩ (fun b hb hm => by
    have hn : w.heap.size ≤ D := hL.new
    have hb' : b < w.heap.size := hb
    rw [World.putObj_heap_other (by omega)]
    exact hC'.old b hb hm)
  have hE2 := RepL.off hof E' _ hy1 hE'
  have fin : (retK T fn.results.toList E' H' fun ds => oneK ds fun d => Fin d H' n' H.length n R) → LeavesInM Fence.wide 0 P fn a.tmps (fun e w' => ∃ d v H' c', R d H' ∧ e = .returned v ∧ H'.length = H.length ∧ Con (base c w H) c' w' H' n ∧ Rep c' w' d v) a.defers .returning w' := fun h1 => by
    obtain ⟨v, g1, d', H'', c'', g2, g3, g4, g5⟩ := ends_fin hT h1 hC2 rfl hE2
    rw [hd]
    exact ⟨by simp, .inl ⟨D, _, rfl, run_takeDeferred hL.here, v, g1, d', v, H'', c'', g2, rfl, g3, g4, g5⟩⟩
  cases x with
  | normal => exact fin h1
  | exit id => exact h1.elim
  | ret => exact fin h1
end
section
variable {P : Program}
def boxW (w : World) : List Value → List TypeId → World
 | v :: vs, t :: ts => boxW (w.alloc (.cells #[v] t)) vs ts
 | _, _ => w
def boxH (H : Hp) : List D → Hp
 | [] => H
 | d :: ds => boxH (H ++ [some [d]]) ds
theorem Con.boxes {B : Base} {n : Nat} : ∀ (ds : List D) (vs : List Value) (ts : List TypeId) (c : Cx) (w : World) (H : Hp), Con B c w H n → RepL c w ds vs → ts.length = ds.length →
  ∃ c', Con B c' (boxW w vs ts) (boxH H ds) n ∧ Keep c c' w (boxW w vs ts) none ∧ c'.h = c.h + ds.length ∧ (∀ i, i < ds.length → c'.φ (c.h + i) = w.heap.size + i)
 | [], vs, ts, c, w, H, hC, hr, hl => by
  unfold RepL at hr
  subst hr
  refine ⟨c, hC, ⟨fun b hb => ⟨hb, ?_⟩, Nat.le_refl _, Nat.le_refl _, fun _ _ => rfl, fun j _ _ => ⟨rfl, fun b hb => ?_⟩⟩, rfl, fun i hi => by simp at hi⟩
  ·cases ts <;> rfl
  ·cases ts <;> rfl
 | d :: ds, vs, ts, c, w, H, hC, hr, hl => by
  unfold RepL at hr
  obtain ⟨v, vs', rfl, h1, h2⟩ := hr
  match ts, hl with
  | t :: ts, hl =>
   obtain ⟨hC1, hk1⟩ := hC.push (C := #[v]) (T := t) (cs := [d]) (repL_cons h1 repL_nil)
   obtain ⟨c', hC2, hk2, hh, hφ⟩ := Con.boxes ds vs' ts _ _ _ hC1 (h2.mono hk1) (by simpa using hl)
   have e0 : (c.push w.heap.size).h = c.h + 1 := rfl
   refine ⟨c', hC2, ?_, by rw [hh, e0]; simp; omega, fun i hi => ?_⟩
   ·refine ⟨fun b hb => ⟨(hk2.imm b (hk1.imm b hb).1).1, (hk2.imm b (hk1.imm b hb).1).2.trans (hk1.imm b hb).2⟩, Nat.le_trans hk1.h hk2.h, Nat.le_trans hk1.n hk2.n, fun j hj => (hk2.φ j (Nat.lt_of_lt_of_le hj hk1.h)).trans (hk1.φ j hj), fun j hj h0 => ?_⟩
    obtain ⟨a1, a2⟩ := hk1.τ j hj h0
    obtain ⟨b1, b2⟩ := hk2.τ j (Nat.lt_of_lt_of_le hj hk1.n) h0
    exact ⟨b1.trans a1, fun b hb => (b2 b (by rw [a1]; exact hb)).trans (a2 b hb)⟩
   ·cases i with
    | zero =>
     have := hk2.φ c.h (by rw [e0]; omega)
     rw [Nat.add_zero, Nat.add_zero, this]
     show (if c.h = c.h then _ else _) = _
     rw [if_pos rfl]
    | succ i =>
     have := hφ i (by simpa using hi)
     rw [e0, World.size_alloc] at this
     rw [show c.h + (i + 1) = c.h + 1 + i by omega, this]
     omega
def ptrsV (b : Nat) (is : List Nat) : List Value := is.map fun i => .pointer (some ⟨b + i, 0, none⟩)
def ptrsD (h : Nat) : List Nat → List D
 | [] => []
 | i :: is => .ptr (h + i) 0 :: ptrsD h is
theorem ptrs_rep {c : Cx} {w : World} {h b m : Nat} (hh : c.h = h + m) (hφ : ∀ i, i < m → c.φ (h + i) = b + i) : ∀ is : List Nat, (∀ i ∈ is, i < m) → RepL c w (ptrsD h is) (ptrsV b is)
 | [], _ => repL_nil
 | i :: is, hi => by
  have h0 := hi i (by simp)
  refine repL_cons ?_ (ptrs_rep hh hφ is fun j hj => hi j (by simp [hj]))
  unfold Rep
  exact ⟨by omega, by rw [hφ i h0]⟩
theorem boxes_call {g gf : FuncId} {ts : List TypeId} {is : List Nat} (hf : FnOk P g) {as' : List D} (hlen : ts.length = as'.length) (his : ∀ i ∈ is, i < as'.length)
  (hok : okL as' = true) (h : ∀ vs w, vs.length = as'.length → (∀ v ∈ vs, v.oneCell' = true) → Calls P g vs.toArray w fun e w' => e = .returned (.func (.func gf) #[] (ptrsV w.heap.size is).toArray) ∧ w' = boxW w vs ts) {E : List D} {H : Hp} {n : Nat} {K : KD} (k : K (.fn gf (ptrsD H.length is)) E (boxH H as') n) : Call P g as' E H n K := by
 refine Call.mk ⟨hf, fun B c w us vs hC hE ha => ?_⟩
 refine (h vs w ha.length (okL_mem hok ha)).mono ?_
 rintro e w' ⟨rfl, rfl⟩
 obtain ⟨c', hC2, hk2, hh, hφ⟩ := Con.boxes as' vs ts c w H hC ha hlen
 refine ⟨_, _, E, _, n, c', k, rfl, hC2, hE.mono hk2, ?_⟩
 unfold Rep
 refine ⟨ptrsV w.heap.size is, rfl, ptrs_rep (m := as'.length) (by rw [hh, hC.hlen]) (fun i hi => ?_) is his⟩
 rw [← hC.hlen]
 exact hφ i hi
end
section
variable {P : Program}
def noDefer (ops : Array Oper) : Bool := ops.all fun o => match o.op with | .defer _ => false | _ => true
theorem wpIn_of_op2 {r : Option Nat} {o : Oper} {a : Act} {w : World} {K0 K : Act → World → Prop} {B : Base} {Q0 : X → List D → Hp → Nat → Prop} {Q : Exit → Act → World → Prop} (hnd : ∀ c, o.op ≠ .defer c)
  (h : o.wp P { a with defers := [] } w K0 (Post B Q0)) (hdef : ∀ d w', ¬ K0 (({ a with defers := [d] } : Act).put o.dst undef) w') (hK : ∀ v w', K0 (({ a with defers := [] } : Act).put o.dst v) w' → K (a.put o.dst v) w') : o.wpIn (Fw r) 0 P a w K Q := by
 have hev : ({ a with defers := [] } : Act).eval = a.eval := by funext x; cases x <;> rfl
 unfold Oper.wp at h
 rw [hev] at h
 refine ⟨fun _ _ => trivial, ?_⟩
 have hs : (o.semAt (Fw r).round a.eval).run P w = (execOp a.eval o).run P w := by rw [Oper.semAt_eq _ _ _ hnd]
 rw [hs]
 generalize (execOp a.eval o).run P w = z at h
 cases z with
 | ok nx w' =>
  cases nx with
  | value v => exact hK v w' h
  | skip => exact hK undef w' h
  | defer d => exact (hdef d w' h).elim
  | enter f args =>
   refine ⟨fun h => (by cases h), callsFw (Calls.mono h fun e w'' he => ?_)⟩
   cases e with
   | returned v => exact hK v w'' he
   | panicked c => exact (post_panic he).elim
   | outgrown =>
    obtain ⟨_, _, x, _, _, _, _, hx, _⟩ := he
    cases x <;> cases hx
  | row rw args => exact ⟨fun h => (by cases h), rowsFw (Rows.mono h fun v w'' he => hK v w'' he)⟩
  | _ => exact h.elim
 | halt x w' => cases x <;> first | exact h.elim | exact (post_panic h).elim
theorem put_nil {a : Act} {dst : Option Nat} {v : Value} : ({ (a.put dst v) with defers := [] } : Act) = ({ a with defers := [] } : Act).put dst v := by cases dst <;> rfl
theorem no_wpAny {ops : Array Oper} {B : Base} {Q : X → List D → Hp → Nat → Prop} : ∀ (f : Nat) (listed : Array Bool) (a : Act) (w : World), a.defers ≠ [] → ¬ wpAny P .any ops (Post B Q) f listed a w
 | 0, listed, a, w, hd, h => by
  obtain ⟨_, x, E, H, n, c, h1, h2, h3, h4, h5⟩ := h
  exact hd h5
 | f + 1, listed, a, w, hd, h => by
  have ih := fun listed a w => no_wpAny (ops := ops) (B := B) (Q := Q) f listed a w
  have hlo : ¬ LetsOut (Post B Q) := fun hl => by
   obtain ⟨_, _, x, _, _, _, _, hx, _⟩ := hl
   cases x <;> cases hx
  by_cases hr : Region.ready .any ops listed = []
  ·obtain ⟨x, E, H, n, c, h1, h2, h3, h4, h5⟩ := h.1 hr
   exact hd h5
  ·obtain ⟨i, hi⟩ := List.exists_mem_of_ne_nil _ hr
   have h1 := h.2 i hi
   unfold wpOp at h1
   cases ho : ops[i]? with
   | none => rw [ho] at h1; exact ih _ _ _ hd h1
   | some o =>
    rw [ho] at h1
    simp only at h1
    split at h1
    ·rcases h1 with h1 | ⟨_, h1⟩
     ·unfold Oper.wp at h1
      generalize (execOp a.eval o).run P w = z at h1
      cases z with
      | ok nx w' =>
       cases nx with
       | value v => exact ih _ _ _ (by rw [put_defers]; exact hd) h1
       | skip => exact ih _ _ _ (by rw [put_defers]; exact hd) h1
       | defer d => exact ih _ _ _ (by rw [put_defers]; simp) h1
       | enter g args =>
        obtain ⟨e, w'', fr, he, _⟩ := h1 []
        cases e with
        | returned v => exact ih _ _ _ (by rw [put_defers]; exact hd) he
        | panicked c => exact post_panic he
        | outgrown => exact hlo he
       | row rw args =>
        obtain ⟨v, w'', he, _⟩ := h1 default []
        exact ih _ _ _ (by rw [put_defers]; exact hd) he
       | _ => exact h1
      | halt x w' => cases x <;> first | exact h1 | exact post_panic h1
     ·exact hlo h1
    ·exact ih _ _ _ (by rw [put_defers]; exact hd) h1
theorem wpAnyIn_of {r : Option Nat} {ds : List Deferred} {ops : Array Oper} {B : Base} {Q : X → List D → Hp → Nat → Prop} (hnd : noDefer ops = true) : ∀ (f : Nat) (listed : Array Bool) (a : Act) (w : World), a.defers = ds →
  wpAny P .any ops (Post B Q) f listed { a with defers := [] } w → wpAnyIn (Fw r) 0 P .any ops (PostY ds B Q) f listed a w
 | 0, listed, a, w, hd, h => by
  obtain ⟨h0, x, E, H, n, c, h1, h2, h3, h4, h5⟩ := h
  exact ⟨h0, x, E, H, n, c, h1, h2, h3, h4, hd⟩
 | f + 1, listed, a, w, hd, h => by
  refine ⟨fun h0 => ?_, fun i hi => ?_⟩
  ·obtain ⟨x, E, H, n, c, h1, h2, h3, h4, h5⟩ := h.1 h0
   exact ⟨x, E, H, n, c, h1, h2, h3, h4, hd⟩
  ·have h1 := h.2 i hi
   unfold wpOp at h1
   unfold wpOpIn
   cases ho : ops[i]? with
   | none =>
    rw [ho] at h1
    exact wpAnyIn_of hnd f _ a w hd h1
   | some o =>
    rw [ho] at h1
    simp only at h1 ⊢
    have hno : ∀ c, o.op ≠ .defer c := fun c e => by
     unfold noDefer at hnd
     rw [Array.all_eq_true_iff_forall_mem] at hnd
     have := hnd o (Array.mem_of_getElem? ho)
     rw [e] at this
     cases this
    by_cases hw : Region.wanted o (yielded ops a.tmps) = true
    ·rw [if_pos hw] at h1 ⊢
     rcases h1 with h1 | ⟨_, h1⟩
     ·refine wpIn_of_op2 hno h1 (fun d w' => no_wpAny _ _ _ _ (by rw [put_defers]; simp)) fun v w' hk => ?_
      refine wpAnyIn_of hnd f _ _ w' (by rw [put_defers]; exact hd) ?_
      rw [put_nil]
      exact hk
     ·exfalso
      obtain ⟨_, _, x, _, _, _, _, hx, _⟩ := h1
      cases x <;> cases hx
    ·rw [if_neg hw] at h1 ⊢
     exact ⟨fun _ _ => trivial, wpAnyIn_of hnd f _ _ w (by rw [put_defers]; exact hd) (by rw [put_nil]; exact h1)⟩
theorem V3.step_drawsY {T : Tab} (hT : TabOk P 0 T) (hm : P.follows .mixedOrders = true) {r : Option Nat} {ds : List Deferred} {id : Nat} {ops : Array Oper} (s : V3.Tr) (L : List Nat) {Q : X → List D → Hp → Nat → Prop} {E : List D} {H : Hp} {n : Nat}
  (hs : (Region.noSelect ops && s.size == ops.size && s.even && V3.okU ops L s (Array.replicate ops.size false) && noDefer ops) = true) (h : V3.drawV P T ops.toList s (Q .normal) E H n) : StepY r ds P (.region id ops true) Q E H n := by
 refine ⟨fun B c w a hC hE hd => ?_⟩
 simp only [Bool.and_eq_true] at hs
 obtain ⟨⟨⟨⟨h1, h2⟩, h3⟩, h4⟩, h6⟩ := hs
 obtain ⟨hC2, hk2⟩ := hC.grow (w' := w.drew) (Below.refl _ _).drew
 have h5 := V3.drawV_sound hT (B := B) (Q := Q) (L := L) h1 s (Array.replicate ops.size false) E H n c w.drew { a with defers := [] } h4 h3 (fun j o hj hl => by
  exfalso
  rcases Nat.lt_or_ge j ops.size with h' | h'
  ·simp [h'] at hl
  ·simp [Array.getElem?_eq_none, h'] at hl) h hC2 (hE.mono hk2) rfl
 rw [eq_of_beq h2] at h5
 exact wpIn_region_any hm (wpAnyIn_of h6 _ _ _ _ hd (wpAny_of_B _ _ _ _ h5))
end
theorem V3.step_autoY {r : Option Nat} {ds : List Deferred} (q : Nat) {id : Nat} {ops : Array Oper} {Q : X → List D → Hp → Nat → Prop} {E : List D} {H : Hp} {n : Nat}
  (hs : (Region.noSelect ops && (V3.treeU (V3.rowsU q ops.toList 0) ops.toList.length []).size == ops.size && (V3.treeU (V3.rowsU q ops.toList 0) ops.toList.length []).even && V3.okU ops (V3.loudsU (V3.rowsU q ops.toList 0)) (V3.treeU (V3.rowsU q ops.toList 0) ops.toList.length []) (Array.replicate ops.size false) && noDefer ops) = true)
  (h : V3.drawV P tab ops.toList (V3.treeU (V3.rowsU q ops.toList 0) ops.toList.length []) (Q .normal) E H n) : StepY r ds P (.region id ops true) Q E H n :=
 V3.step_drawsY tab_ok mix _ _ hs h
end Go.Proofs.YtlhegfkpgchaeaaGreatDoor.Aw
