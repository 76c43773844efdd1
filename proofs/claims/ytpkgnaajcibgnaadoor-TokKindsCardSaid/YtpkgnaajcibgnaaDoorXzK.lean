/- TokKinds. -/
import Derived.Test.YtpkgnaajcibgnaaDoorXzR
namespace Go.Proofs.YtpkgnaajcibgnaaDoor.Aw
open Go Go.RowKit Go.Lib
set_option linter.unusedVariables false
set_option linter.unusedSimpArgs false
set_option maxRecDepth 100000
/-- May there be a comment? -/
def comB : List UInt8 → Bool
  | [] => false
  | [_] => false
  | a :: b :: r => (a.toNat == 47 && b.toNat == 42) || comB (b :: r)
theorem comB_at : ∀ (bs : List UInt8) (i : Nat), comB bs = false → (bAt bs i = 47 ∧ bAt bs (i + 1) = 42) → False
  | [], i, _, h => by simp [bAt] at h
  | [a], i, _, h => by
    cases i with
    | zero => simp [bAt] at h
    | succ i => simp [bAt] at h
  | a :: b :: r, i, hc, h => by
    unfold comB at hc
    simp only [Bool.or_eq_false_iff, Bool.and_eq_false_imp, beq_iff_eq, beq_eq_false_iff_ne] at hc
    cases i with
    | zero =>
      have h1 : (a.toNat : Int) = 47 := h.1
      have h2 : (b.toNat : Int) = 42 := h.2
      exact hc.1 (by omega) (by omega)
    | succ i => exact comB_at (b :: r) i hc.2 h
/-- The points of bytes hold a sign and a star side by side only if the bytes do. -/
theorem ptsRun_adj (bs : List UInt8) (hc : comB bs = false) : ∀ (f i : Nat) (out : List Int), (∀ q : Nat, ¬ (out[q]? = some 47 ∧ out[q + 1]? = some 42)) → (out.getLast? = some 47 → bAt bs i ≠ 42) →
    ∀ q : Nat, ¬ ((ptsRun bs f i out)[q]? = some 47 ∧ (ptsRun bs f i out)[q + 1]? = some 42)
  | 0, i, out, h, _ => h
  | f + 1, i, out, h, hl => by
    unfold ptsRun
    split
    · rename_i hi
      have hb : bAt (bs.drop i) 0 = bAt bs i := by simp [bAt, List.getD_eq_getElem?_getD]
      have hb1 : ∀ j, bAt (bs.drop i) j = bAt bs (i + j) := fun j => by simp [bAt, List.getD_eq_getElem?_getD]
      refine ptsRun_adj bs hc f _ _ ?_ ?_
      · intro q hq
        rcases Nat.lt_or_ge (q + 1) out.length with h1 | h1
        · rw [List.getElem?_append_left (by omega), List.getElem?_append_left h1] at hq
          exact h q hq
        · rw [List.getElem?_append_right h1] at hq
          have hlen := (List.getElem?_eq_some_iff.1 hq.2).1
          have h2 : q + 1 - out.length = 0 := by simp at hlen; omega
          rw [h2, List.getElem?_append_left (by omega)] at hq
          have hp : (pointV (bs.drop i)).1 = 42 := by simpa using hq.2
          have hlow := pointV_low (bs := bs.drop i) (by rw [hp]; decide)
          refine hl ?_ ?_
          · rw [List.getLast?_eq_getElem?, show out.length - 1 = q by omega]; exact hq.1
          · rw [← hb, ← hlow, hp]
      · intro hlast
        rw [List.getLast?_concat] at hlast
        have hp : (pointV (bs.drop i)).1 = 47 := by simpa using hlast
        have hlow := pointV_low (bs := bs.drop i) (by rw [hp]; decide)
        have hp2 : (pointV (bs.drop i)).2 = 1 := by
          unfold pointV
          rw [if_pos (by rw [← hlow, hp]; decide)]
        intro h42
        rw [hp2] at h42
        exact comB_at bs i hc ⟨by rw [← hb, ← hlow, hp], h42⟩
    · exact h
def Adj (l : List Int) : Prop := ∀ q : Nat, ¬ (l[q]? = some 47 ∧ l[q + 1]? = some 42)
theorem Adj.tail {c : Int} {r : List Int} (h : Adj (c :: r)) : Adj r := fun q hq => h (q + 1) (by simpa using hq)
theorem adj_cons {c x : Int} {r p : List Int} (h : Adj (c :: r)) (h1 : Adj p) (h2 : p[0]? = some 42 → r[0]? = some 42) (hx : x = 47 → c = 47) : Adj (x :: p) := by
  intro q hq
  cases q with
  | zero => exact h 0 ⟨by have := hx (by simpa using hq.1); simp [this], by simpa using h2 (by simpa using hq.2)⟩
  | succ q => exact h1 q (by simpa using hq)
theorem prep_adj : ∀ (l : List Int), Adj l → Adj (prep l) ∧ ((prep l)[0]? = some 42 → l[0]? = some 42)
  | [], h => ⟨h, fun h => by simp [prep] at h⟩
  | c :: r, h => by
    obtain ⟨h1, h2⟩ := prep_adj r h.tail
    unfold prep
    split
    · rename_i hc
      refine ⟨h1, fun h42 => ?_⟩
      have := h2 h42
      obtain ⟨_, hc⟩ := hc
      rw [List.head?_eq_getElem?, this] at hc
      cases hc
    · split
      · exact ⟨adj_cons h h1 h2 (by omega), fun h => by simp at h⟩
      · split
        · exact ⟨adj_cons h h1 h2 (by omega), fun h => by simp at h⟩
        · exact ⟨adj_cons h h1 h2 (fun h => h), fun h => by simpa using h⟩
theorem prepare_adj {bs : List UInt8} (hc : comB bs = false) : Adj (prepare bs) := by
  unfold prepare points
  exact (prep_adj _ (ptsRun_adj bs hc _ 0 [] (fun q h => by simp at h) (fun h => by simp at h))).1
theorem ofB_ww {bs : List UInt8} (hc : comB bs = false) : NoWW (ofB bs) := by
  refine tokens_ww (fun q hq => prepare_adj hc q ?_)
  have key : ∀ i (c : Int), see (prepare bs) i = c → 0 ≤ c → c ≠ 65533 → (prepare bs)[i]? = some c := fun i c h h0 hr => by
    unfold see at h
    split at h
    · omega
    · rename_i x hx
      split at h
      · rw [hx, h]
      · omega
  exact ⟨key _ _ hq.1 (by decide) (by decide), key _ _ hq.2 (by decide) (by decide)⟩
theorem comB_drop : ∀ (bs : List UInt8) (i : Nat), i + 1 < bs.length → comB (bs.drop i) = ((bAt bs i == 47 && bAt bs (i + 1) == 42) || comB (bs.drop (i + 1)))
  | [], i, h => by simp at h
  | [_], i, h => by simp at h
  | a :: b :: r, 0, h => by
    show comB (a :: b :: r) = _
    rw [comB]
    have h1 : (bAt (a :: b :: r) 0 == 47) = (a.toNat == 47) := by
      rw [Bool.eq_iff_iff, beq_iff_eq, beq_iff_eq]
      show ((a.toNat : Int) = 47) ↔ _
      omega
    have h2 : (bAt (a :: b :: r) (0 + 1) == 42) = (b.toNat == 42) := by
      rw [Bool.eq_iff_iff, beq_iff_eq, beq_iff_eq]
      show ((b.toNat : Int) = 42) ↔ _
      omega
    rw [h1, h2]
    rfl
  | a :: b :: r, i + 1, h => by
    have := comB_drop (b :: r) i (by simpa using h)
    simpa [bAt, List.getD_eq_getElem?_getD] using this
theorem comB_end {bs : List UInt8} {i : Nat} (h : bs.length ≤ i + 1) : comB (bs.drop i) = false := by
  have : (bs.drop i).length ≤ 1 := by rw [List.length_drop]; omega
  match hd : bs.drop i, this with
  | [], _ => rfl
  | [_], _ => rfl
set_option maxHeartbeats 1000000 in
theorem comment_spec (bs : List UInt8) (hl : bs.length < 1000000) : Pure 24 [.f (.sl (bs.map byteRow))] (bool (comB bs)) := by
  have hbl : (bs.map byteRow).length = bs.length := List.length_map ..
  refine ⟨trivial, spec_mk tab_ok Tryd.func24 (by rfl) rfl ?_⟩
  conv => whnf
  refine step_loop tab_ok (fun i : Nat => padK [.f (.sl (bs.map byteRow)), .junk, .junk, int i] 24) (fun _ => []) 0 (fun i : Nat => i ≤ bs.length ∧ comB bs = comB (bs.drop i)) (fun i => bs.length - i) 0 ⟨by simp, by simp⟩ (fun _ => rfl) ?_ ?_
  ·
    repeat' first | exact trivial | exact rfl | exact Nat.zero_le _ | exact Nat.zero_lt_succ _ | exact (by decide : (0 : Nat) < 1) | exact (by decide : (1 : Nat) < 4) | exact (by decide : (2 : Nat) < 4) | exact (by decide : (3 : Nat) < 4) | exact (by decide : (1 : Nat) < 2) | exact (by decide : (2 : Nat) < 3) | exact congrArg int (by (try dsimp only); omega) | exact congrArg bool (by (try dsimp only); simp; omega) | (show _ < List.length _; simp; done) | apply And.intro
  · rintro i ⟨h1, h2⟩
    dsimp only
    conv => whnf
    repeat' first
      | (refine Case.not ?_; conv => whnf)
      | (refine Case.yes ?_; conv => whnf)
      | (refine Case.no ?_; conv => whnf)
      | (refine Case.isTrue (by assumption) ?_; conv => whnf)
      | (refine Case.isFalse (by assumption) ?_; conv => whnf)
      | (refine Case.decT (by assumption) ?_; conv => whnf)
      | (refine Case.decF (by assumption) ?_; conv => whnf)
      | (refine Case.decT (by omega) ?_; conv => whnf)
      | (refine Case.decF (by omega) ?_; conv => whnf)
      | (refine Case.beqT (by omega) ?_; conv => whnf)
      | (refine Case.beqF (by omega) ?_; conv => whnf)
      | (refine Case.strT (by assumption) ?_; conv => whnf)
      | (refine Case.strF (by assumption) ?_; conv => whnf)
      | (refine Case.strF (by simp only [*]; decide) ?_; conv => whnf)
      | (refine Owes.mk byteRow_len ?_; conv => whnf)
      | (refine Elem.mk i _ rfl (rowAt (by omega)) ?_; conv => whnf)
      | (refine Elem.mk (i + 1) _ (by omega) (rowAt (by omega)) ?_; conv => whnf)
      | (refine step_kinds 2 ?hk ?_; (case hk => decide +kernel); conv => whnf)
      | (refine step_kinds 3 ?hk ?_; (case hk => decide +kernel); conv => whnf)
      | (refine step_auto 2 ?hk ?_; (case hk => decide +kernel); conv => whnf)
      | (refine step_auto 3 ?hk ?_; (case hk => decide +kernel); conv => whnf)
      | (refine Num.id (by omega) (by omega) ?_; conv => whnf)
      | (refine Case.strI (fun _ => ?_) (fun _ => ?_) <;> conv => whnf)
      | (refine Both.mk ?_ ?_ <;> conv => whnf)
      | (refine Case.dec (fun _ => ?_) (fun _ => ?_) <;> conv => whnf)
      | (refine Case.beqI (fun _ => ?_) (fun _ => ?_) <;> conv => whnf)
      | (refine Case.mk (fun _ => ?_) (fun _ => ?_) <;> conv => whnf)
      | (refine Way.fst ?_; conv => whnf)
    · have e := comB_drop bs i (by omega)
      rw [show (bAt bs i == 47) = true by simp [*], show (bAt bs (i + 1) == 42) = true by simp [*]] at e
      exact Fin.isB (by rw [h2, e]; rfl)
    · have e := comB_drop bs i (by omega)
      rw [show (bAt bs (i + 1) == 42) = false by simp [*], Bool.and_false, Bool.false_or] at e
      refine ⟨i + 1, ⟨by omega, by rw [h2, e]⟩, by omega, ?_⟩
      repeat' first | exact trivial | exact rfl | exact Nat.zero_le _ | exact Nat.zero_lt_succ _ | exact (by decide : (0 : Nat) < 1) | exact (by decide : (1 : Nat) < 4) | exact (by decide : (2 : Nat) < 4) | exact (by decide : (3 : Nat) < 4) | exact (by decide : (1 : Nat) < 2) | exact (by decide : (2 : Nat) < 3) | exact congrArg int (by (try dsimp only); omega) | exact congrArg bool (by (try dsimp only); simp; omega) | (show _ < List.length _; simp; done) | apply And.intro
    · have e := comB_drop bs i (by omega)
      rw [show (bAt bs i == 47) = false by simp [*], Bool.false_and, Bool.false_or] at e
      refine ⟨i + 1, ⟨by omega, by rw [h2, e]⟩, by omega, ?_⟩
      repeat' first | exact trivial | exact rfl | exact Nat.zero_le _ | exact Nat.zero_lt_succ _ | exact (by decide : (0 : Nat) < 1) | exact (by decide : (1 : Nat) < 4) | exact (by decide : (2 : Nat) < 4) | exact (by decide : (3 : Nat) < 4) | exact (by decide : (1 : Nat) < 2) | exact (by decide : (2 : Nat) < 3) | exact congrArg int (by (try dsimp only); omega) | exact congrArg bool (by (try dsimp only); simp; omega) | (show _ < List.length _; simp; done) | apply And.intro
    · exact Fin.isB (by rw [h2, comB_end (by omega)])
end Go.Proofs.YtpkgnaajcibgnaaDoor.Aw
