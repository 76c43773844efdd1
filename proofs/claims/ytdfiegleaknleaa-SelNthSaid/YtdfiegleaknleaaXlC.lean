/- What the picker reads is not too deep and not too long; SelParse, SelBytes. -/
import Derived.Test.YtdfiegleaknleaaXlR
import Derived.Test.YtdfiegleaknleaaXlF
namespace Go.Proofs.Ytdfiegleaknleaa.Aw
open Go Go.RowKit Go.Lib
set_option linter.unusedVariables false
set_option linter.unusedSimpArgs false
set_option maxRecDepth 100000
/-- A compound of so many things at most, whose lists are well. -/
structure CmpOkN (Q : List (List F) → Prop) (m : Nat) (c : Cmp) : Prop where
  ids : c.ids.length ≤ m
  cls : c.cls.length ≤ m
  atts : c.atts.length ≤ m
  pss : c.pss.length ≤ m
  list : ∀ x ∈ c.pss, Q x.list
theorem CmpOkN.mono {Q : List (List F) → Prop} {m n : Nat} {c : Cmp} (h : CmpOkN Q m c) (hmn : m ≤ n) : CmpOkN Q n c := by
  obtain ⟨h1, h2, h3, h4, h5⟩ := h
  exact ⟨by omega, by omega, by omega, by omega, h5⟩
theorem rPseudo_ok {Q : List (List F) → Prop} {rn : Nest} {t : List Tok} (hnil : Q []) (hN : ∀ i, Q ((rn i).1.map selRow)) (i : Nat) : Q (rPseudo rn t i).1.list := by
  unfold rPseudo
  split
  · split <;> exact hnil
  split
  · exact hnil
  split
  · rw [rNth_list]; exact hnil
  split
  · exact hN _
  split
  · exact hN _
  · exact hnil
theorem rCmpRun_ok {Q : List (List F) → Prop} {rn : Nest} {t : List Tok} (hnil : Q []) (hN : ∀ i, Q ((rn i).1.map selRow)) : ∀ (f i n m : Nat) (c : Cmp), CmpOkN Q m c → CmpOkN Q (m + f) (rCmpRun rn t f i n c).1
  | 0, i, n, m, c, h => h
  | f + 1, i, n, m, c, h => by
    obtain ⟨h1, h2, h3, h4, h5⟩ := h
    have ep : ∀ v : Psd, Q v.list → ∀ x ∈ c.pss ++ [v], Q x.list := fun v hv x hx => by
      rcases List.mem_append.1 hx with hx | hx
      · exact h5 x hx
      · simp at hx; subst hx; exact hv
    unfold rCmpRun
    rw [show m + (f + 1) = (m + 1) + f by omega]
    split
    · exact rCmpRun_ok hnil hN f _ _ _ _ ⟨by dsimp only; rw [List.length_append]; simp; omega, by dsimp only; omega, by dsimp only; omega, by dsimp only; omega, h5⟩
    split
    · exact rCmpRun_ok hnil hN f _ _ _ _ ⟨by dsimp only; omega, by dsimp only; rw [List.length_append]; simp; omega, by dsimp only; omega, by dsimp only; omega, h5⟩
    split
    · split
      · exact CmpOkN.mono (m := m + 1) ⟨by dsimp only; omega, by dsimp only; omega, by dsimp only; rw [List.length_append]; simp; omega, by dsimp only; omega, h5⟩ (by omega)
      · exact rCmpRun_ok hnil hN f _ _ _ _ ⟨by dsimp only; omega, by dsimp only; omega, by dsimp only; rw [List.length_append]; simp; omega, by dsimp only; omega, h5⟩
    split
    · have hq := rPseudo_ok (t := t) hnil hN (i + 1)
      split
      · exact CmpOkN.mono (m := m + 1) ⟨by dsimp only; omega, by dsimp only; omega, by dsimp only; omega, by dsimp only; rw [List.length_append]; simp; omega, ep _ hq⟩ (by omega)
      · exact rCmpRun_ok hnil hN f _ _ _ _ ⟨by dsimp only; omega, by dsimp only; omega, by dsimp only; omega, by dsimp only; rw [List.length_append]; simp; omega, ep _ hq⟩
    · exact ⟨by dsimp only; omega, by dsimp only; omega, by dsimp only; omega, by dsimp only; omega, h5⟩
theorem rCmp_ok {Q : List (List F) → Prop} {rn : Nest} {t : List Tok} (hnil : Q []) (hN : ∀ i, Q ((rn i).1.map selRow)) (i : Nat) : CmpOkN Q (t.length + 1) (rCmp rn t i).1 := by
  have h0 : ∀ tag, CmpOkN Q 0 { tag := tag } := fun _ => ⟨by simp, by simp, by simp, by simp, by simp⟩
  unfold rCmp
  split
  · simpa using rCmpRun_ok hnil hN (t.length + 1) (i + 1) 1 0 _ (h0 _)
  split
  · simpa using rCmpRun_ok hnil hN (t.length + 1) (i + 1) 1 0 _ (h0 _)
  · simpa using rCmpRun_ok hnil hN (t.length + 1) i 0 0 _ (h0 _)
structure SelrOk (Q : List (List F) → Prop) (m n : Nat) (s : Selr) : Prop where
  len : s.length ≤ n
  each : ∀ p ∈ s, CmpOkN Q m p.2
theorem rSelRun_ok {Q : List (List F) → Prop} {rn : Nest} {t : List Tok} (hnil : Q []) (hN : ∀ i, Q ((rn i).1.map selRow)) : ∀ (f i n : Nat) (cb : Int) (ps : Selr), SelrOk Q (t.length + 1) n ps → SelrOk Q (t.length + 1) (n + f) (rSelRun rn t f i cb ps).1
  | 0, i, n, cb, ps, h => h
  | f + 1, i, n, cb, ps, h => by
    have h1 : SelrOk Q (t.length + 1) (n + 1) (ps ++ [(cb, (rCmp rn t i).1)]) := ⟨by rw [List.length_append]; have := h.len; simp; omega, fun p hp => by
      rcases List.mem_append.1 hp with hp | hp
      · exact h.each p hp
      · simp at hp; subst hp; exact rCmp_ok hnil hN i⟩
    have h2 : SelrOk Q (t.length + 1) (n + (f + 1)) (ps ++ [(cb, (rCmp rn t i).1)]) := ⟨by have := h1.len; omega, h1.each⟩
    unfold rSelRun
    split
    · exact h2
    split
    · rw [show n + (f + 1) = (n + 1) + f by omega]; exact rSelRun_ok hnil hN f _ _ _ _ h1
    split
    · exact h2
    split
    · exact h2
    · rw [show n + (f + 1) = (n + 1) + f by omega]; exact rSelRun_ok hnil hN f _ _ _ _ h1
structure ListOk (Q : List (List F) → Prop) (m n : Nat) (l : List Selr) : Prop where
  len : l.length ≤ n
  each : ∀ s ∈ l, SelrOk Q m m s
theorem rListRun_ok {Q : List (List F) → Prop} {rn : Nest} {t : List Tok} {q : Int} (hnil : Q []) (hN : ∀ i, Q ((rn i).1.map selRow)) : ∀ (f i n : Nat) (out : List Selr), ListOk Q (t.length + 1) n out → ListOk Q (t.length + 1) (n + f) (rListRun rn t q f i out).1
  | 0, i, n, out, h => ⟨by simp [rListRun], by simp [rListRun]⟩
  | f + 1, i, n, out, h => by
    have hs : SelrOk Q (t.length + 1) (t.length + 1) (rSel rn t (ws t i)).1 := by simpa [rSel] using rSelRun_ok hnil hN (t.length + 1) (ws t i) 0 0 [] ⟨by simp, by simp⟩
    have h1 : ListOk Q (t.length + 1) (n + 1) (out ++ [(rSel rn t (ws t i)).1]) := ⟨by rw [List.length_append]; have := h.len; simp; omega, fun p hp => by
      rcases List.mem_append.1 hp with hp | hp
      · exact h.each p hp
      · simp at hp; subst hp; exact hs⟩
    have h2 : ListOk Q (t.length + 1) (n + (f + 1)) (out ++ [(rSel rn t (ws t i)).1]) := ⟨by have := h1.len; omega, h1.each⟩
    have h0 : ListOk Q (t.length + 1) (n + (f + 1)) [] := ⟨by simp, by simp⟩
    unfold rListRun
    split
    · exact h0
    split
    · rw [show n + (f + 1) = (n + 1) + f by omega]; exact rListRun_ok hnil hN f _ _ _ h1
    split
    · exact h2
    split
    · exact h2
    · exact h0
theorem listOk_0 {m n : Nat} {l : List Selr} (hm : m < 1000000000) (hn : n < 1000000000) (h : ListOk (fun r => r = []) m n l) : SelOk 0 l := by
  unfold SelOk
  refine ⟨by have := h.len; omega, fun s hs => ⟨by have := (h.each s hs).len; omega, fun p hp => ?_⟩⟩
  obtain ⟨g1, g2, g3, g4, g5⟩ := (h.each s hs).each p hp
  exact ⟨by omega, by omega, by omega, by omega, g5⟩
theorem listOk_s {k m n : Nat} {l : List Selr} (hm : m < 1000000000) (hn : n < 1000000000) (h : ListOk (fun r => ∃ l', r = l'.map selRow ∧ SelOk k l') m n l) : SelOk (k + 1) l := by
  unfold SelOk
  refine ⟨by have := h.len; omega, fun s hs => ⟨by have := (h.each s hs).len; omega, fun p hp => ?_⟩⟩
  obtain ⟨g1, g2, g3, g4, g5⟩ := (h.each s hs).each p hp
  exact ⟨by omega, by omega, by omega, by omega, g5⟩
theorem selOk_nil : ∀ k, SelOk k []
  | 0 => by unfold SelOk; simp
  | k + 1 => by unfold SelOk; simp
theorem rNest_ok {t : List Tok} (ht : t.length < 100000000) : ∀ (k : Nat) (q : Int) (i : Nat), SelOk k (rNest t (k + 1) q i).1
  | 0, q, i => by
    have := rListRun_ok (Q := fun r => r = []) (rn := rNest t 0 (q + 1)) (t := t) (q := q) rfl (fun i => by simp [rNest]) (t.length + 1) i 0 [] ⟨by simp, by simp⟩
    exact listOk_0 (by omega) (by omega) this
  | k + 1, q, i => by
    have := rListRun_ok (Q := fun r => ∃ l', r = l'.map selRow ∧ SelOk k l') (rn := rNest t (k + 1) (q + 1)) (t := t) (q := q) ⟨[], rfl, selOk_nil k⟩ (fun i => ⟨_, rfl, rNest_ok ht k (q + 1) i⟩) (t.length + 1) i 0 [] ⟨by simp, by simp⟩
    exact listOk_s (by omega) (by omega) this
theorem rSelectors_ok {t : List Tok} (ht : t.length < 100000000) : SelOk 8 (rSelectors t).1 := by
  unfold rSelectors
  split
  · exact selOk_nil 8
  split
  · exact selOk_nil 8
  · exact rNest_ok ht 8 0 0
set_option maxHeartbeats 2000000 in
theorem selBytes_spec (bs : List UInt8) : Pure 4 [.f (.sl (bs.map byteRow))] (bool true) := by
  have hlen : (bs.map byteRow).length = bs.length := by simp
  refine ⟨trivial, spec_mk tab_ok Try.func4 (by rfl) rfl ?_⟩
  conv => whnf
  repeat' first
    | (refine Case.not ?_; conv => whnf)
    | (refine Case.yes ?_; conv => whnf)
    | (refine Case.no ?_; conv => whnf)
    | (refine Case.isTrue (by assumption) ?_; conv => whnf)
    | (refine Case.isFalse (by assumption) ?_; conv => whnf)
    | (refine Case.decT (by assumption) ?_; conv => whnf)
    | (refine Case.decF (by assumption) ?_; conv => whnf)
    | (refine Case.decT (by omega) ?_; conv => whnf)
    | (refine Case.decF (by omega) ?_; conv => whnf)
    | (refine Case.beqT (by omega) ?_; conv => whnf)
    | (refine Case.beqF (by omega) ?_; conv => whnf)
    | (refine Case.strT (by assumption) ?_; conv => whnf)
    | (refine Case.strF (by assumption) ?_; conv => whnf)
    | (refine Case.strF (by simp only [*]; decide) ?_; conv => whnf)
    | (refine alive_spec.call rfl ?_; conv => whnf)
    | (refine step_kinds 2 ?hk ?_; (case hk => decide +kernel); conv => whnf)
    | (refine step_kinds 3 ?hk ?_; (case hk => decide +kernel); conv => whnf)
    | (refine Num.id (by omega) (by omega) ?_; conv => whnf)
    | (refine Case.strI (fun _ => ?_) (fun _ => ?_) <;> conv => whnf)
    | (refine Both.mk ?_ ?_ <;> conv => whnf)
    | (refine Case.dec (fun _ => ?_) (fun _ => ?_) <;> conv => whnf)
    | (refine Case.beqI (fun _ => ?_) (fun _ => ?_) <;> conv => whnf)
    | (refine Case.mk (fun _ => ?_) (fun _ => ?_) <;> conv => whnf)
    | (refine Way.fst ?_; conv => whnf)
  · exact Fin.isB rfl
  · have ho := of_spec ⟨bs.toArray⟩ (by show bs.length < _; omega)
    have hf : Fit (ofT ⟨bs.toArray⟩) := ofT_fit _ (by show bs.length < _; omega)
    have hp := parse_spec hf
    have hs := selectors_spec hf
    have hq := sameSelectors_spec 8 _ (rSelectors_ok hf.len)
    rw [parse_same] at hp
    repeat' first
      | (refine Case.not ?_; conv => whnf)
      | (refine Case.yes ?_; conv => whnf)
      | (refine Case.no ?_; conv => whnf)
      | (refine Case.isTrue (by assumption) ?_; conv => whnf)
      | (refine Case.isFalse (by assumption) ?_; conv => whnf)
      | (refine Case.decT (by assumption) ?_; conv => whnf)
      | (refine Case.decF (by assumption) ?_; conv => whnf)
      | (refine Case.decT (by omega) ?_; conv => whnf)
      | (refine Case.decF (by omega) ?_; conv => whnf)
      | (refine Case.beqT (by omega) ?_; conv => whnf)
      | (refine Case.beqF (by omega) ?_; conv => whnf)
      | (refine Case.strT (by assumption) ?_; conv => whnf)
      | (refine Case.strF (by assumption) ?_; conv => whnf)
      | (refine Case.strF (by simp only [*]; decide) ?_; conv => whnf)
      | (refine Owes.mk rfl ?_; conv => whnf)
      | (refine AsBytes.mk bs rfl ?_; conv => whnf)
      | (refine ho.call ?_; conv => whnf)
      | (refine hp.call ?_; conv => whnf)
      | (refine hs.call ?_; conv => whnf)
      | (refine hq.call ⟨rfl, rfl, rfl⟩ ?_; conv => whnf)
      | (refine hq.callB ⟨rfl, rfl, rfl⟩ ?_; conv => whnf)
      | (refine Case.boolT ?_; conv => whnf)
      | (refine step_kinds 2 ?hk ?_; (case hk => decide +kernel); conv => whnf)
      | (refine step_kinds 3 ?hk ?_; (case hk => decide +kernel); conv => whnf)
      | (refine Num.id (by omega) (by omega) ?_; conv => whnf)
      | (refine Case.strI (fun _ => ?_) (fun _ => ?_) <;> conv => whnf)
      | (refine Both.mk ?_ ?_ <;> conv => whnf)
      | (refine Case.dec (fun _ => ?_) (fun _ => ?_) <;> conv => whnf)
      | (refine Case.beqI (fun _ => ?_) (fun _ => ?_) <;> conv => whnf)
      | (refine Case.mk (fun _ => ?_) (fun _ => ?_) <;> conv => whnf)
      | (refine Way.fst ?_; conv => whnf)
    exact Fin.isB rfl
theorem walkSelBytes (bs : List UInt8) (W : World) {v : Value} (hv : RepF (fun b => b < W.heap.size) W (.sl (bs.map byteRow)) v) : Calls Try.prog 4 #[v] W fun e w' => e = .returned (.bool true) ∧ Below W.heap.size W w' :=
  calls_of_spec (selBytes_spec bs).2 W (laidOk W) [v] (repL_cons (by unfold Rep; exact hv) repL_nil)
/-- A round of SelParse's look at the texts. -/
structure ParseI (t : List Tok) (i : Nat) : Prop where
  le : i ≤ t.length
  text : ∀ j k, j < i → t[j]? = some k → k.text.length ≤ 100
set_option maxHeartbeats 2000000 in
theorem selParse_spec (t : List Tok) (hn : ∀ k ∈ t, -9223372036854775808 ≤ k.n ∧ k.n < 9223372036854775808) : Pure 3 [.f (.sl (toksF t))] (bool true) := by
  have hlen : (toksF t).length = t.length := by simp
  refine ⟨trivial, spec_mk tab_ok Try.func3 (by rfl) rfl ?_⟩
  conv => whnf
  repeat' first
    | (refine Case.not ?_; conv => whnf)
    | (refine Case.yes ?_; conv => whnf)
    | (refine Case.no ?_; conv => whnf)
    | (refine Case.isTrue (by assumption) ?_; conv => whnf)
    | (refine Case.isFalse (by assumption) ?_; conv => whnf)
    | (refine Case.decT (by assumption) ?_; conv => whnf)
    | (refine Case.decF (by assumption) ?_; conv => whnf)
    | (refine Case.decT (by omega) ?_; conv => whnf)
    | (refine Case.decF (by omega) ?_; conv => whnf)
    | (refine Case.beqT (by omega) ?_; conv => whnf)
    | (refine Case.beqF (by omega) ?_; conv => whnf)
    | (refine Case.strT (by assumption) ?_; conv => whnf)
    | (refine Case.strF (by assumption) ?_; conv => whnf)
    | (refine Case.strF (by simp only [*]; decide) ?_; conv => whnf)
    | (refine alive_spec.call rfl ?_; conv => whnf)
    | (refine step_kinds 2 ?hk ?_; (case hk => decide +kernel); conv => whnf)
    | (refine step_kinds 3 ?hk ?_; (case hk => decide +kernel); conv => whnf)
    | (refine Num.id (by omega) (by omega) ?_; conv => whnf)
    | (refine Case.strI (fun _ => ?_) (fun _ => ?_) <;> conv => whnf)
    | (refine Both.mk ?_ ?_ <;> conv => whnf)
    | (refine Case.dec (fun _ => ?_) (fun _ => ?_) <;> conv => whnf)
    | (refine Case.beqI (fun _ => ?_) (fun _ => ?_) <;> conv => whnf)
    | (refine Case.mk (fun _ => ?_) (fun _ => ?_) <;> conv => whnf)
    | (refine Way.fst ?_; conv => whnf)
  · exact Fin.isB rfl
  · refine step_loop tab_ok (fun i : Nat => padK [.f (.sl (toksF t)), .junk, .junk, .junk, int i] 57) (fun _ => []) 0 (ParseI t) (fun i => t.length - i) 0 ⟨by omega, fun j k h => by omega⟩ (fun _ => rfl) ?_ ?_
    ·
      repeat' first | exact trivial | exact rfl | exact Nat.zero_le _ | exact Nat.zero_lt_succ _ | exact (by decide : (0 : Nat) < 1) | exact (by decide : (1 : Nat) < 4) | exact (by decide : (2 : Nat) < 4) | exact (by decide : (3 : Nat) < 4) | exact (by decide : (1 : Nat) < 2) | exact (by decide : (2 : Nat) < 3) | exact congrArg int (by (try dsimp only); omega) | exact congrArg bool (by (try dsimp only); simp; omega) | (show _ < List.length _; simp; done) | apply And.intro
    · rintro i ⟨h1, h2⟩
      conv => whnf
      refine Case.dec (fun h0 => ?_) (fun h0 => ?_)
      · obtain ⟨k, hk⟩ : ∃ k, t[i]? = some k := ⟨_, List.getElem?_eq_getElem (by omega)⟩
        have hz : ((⟨k.text.toArray⟩ : ByteArray).size : Int) = k.text.length := rfl
        conv => whnf
        repeat' first
          | (refine Case.not ?_; conv => whnf)
          | (refine Case.yes ?_; conv => whnf)
          | (refine Case.no ?_; conv => whnf)
          | (refine Case.isTrue (by assumption) ?_; conv => whnf)
          | (refine Case.isFalse (by assumption) ?_; conv => whnf)
          | (refine Case.decT (by assumption) ?_; conv => whnf)
          | (refine Case.decF (by assumption) ?_; conv => whnf)
          | (refine Case.decT (by omega) ?_; conv => whnf)
          | (refine Case.decF (by omega) ?_; conv => whnf)
          | (refine Case.beqT (by omega) ?_; conv => whnf)
          | (refine Case.beqF (by omega) ?_; conv => whnf)
          | (refine Case.strT (by assumption) ?_; conv => whnf)
          | (refine Case.strF (by assumption) ?_; conv => whnf)
          | (refine Case.strF (by simp only [*]; decide) ?_; conv => whnf)
          | (refine Owes.mk toksF_row ?_; conv => whnf)
          | (refine Elem.mk i _ rfl (toksF_get hk) ?_; conv => whnf)
          | (refine step_kinds 2 ?hk ?_; (case hk => decide +kernel); conv => whnf)
          | (refine step_kinds 3 ?hk ?_; (case hk => decide +kernel); conv => whnf)
          | (refine Num.id (by omega) (by omega) ?_; conv => whnf)
          | (refine Case.strI (fun _ => ?_) (fun _ => ?_) <;> conv => whnf)
          | (refine Both.mk ?_ ?_ <;> conv => whnf)
          | (refine Case.dec (fun _ => ?_) (fun _ => ?_) <;> conv => whnf)
          | (refine Case.beqI (fun _ => ?_) (fun _ => ?_) <;> conv => whnf)
          | (refine Case.mk (fun _ => ?_) (fun _ => ?_) <;> conv => whnf)
          | (refine Way.fst ?_; conv => whnf)
        · exact Fin.isB rfl
        · refine ⟨i + 1, ⟨by omega, fun j k' hj hk' => ?_⟩, by omega, ?_⟩
          · by_cases hji : j = i
            · subst hji
              rw [hk] at hk'
              cases hk'
              rename_i h3
              have h3 : ¬ ((⟨k.text.toArray⟩ : ByteArray).size : Int) > 100 := h3
              omega
            · exact h2 j k' (by omega) hk'
          ·
            repeat' first | exact trivial | exact rfl | exact Nat.zero_le _ | exact Nat.zero_lt_succ _ | exact (by decide : (0 : Nat) < 1) | exact (by decide : (1 : Nat) < 4) | exact (by decide : (2 : Nat) < 4) | exact (by decide : (3 : Nat) < 4) | exact (by decide : (1 : Nat) < 2) | exact (by decide : (2 : Nat) < 3) | exact congrArg int (by (try dsimp only); omega) | exact congrArg bool (by (try dsimp only); simp; omega) | (show _ < List.length _; simp; done) | apply And.intro
      · have hf : Fit t := by
          refine ⟨by omega, fun j => ?_, fun j => ?_⟩
          · unfold tk
            split
            · simp
            · rename_i k hk
              have := h2 j k (by have := (List.getElem?_eq_some_iff.1 hk).1; omega) hk
              omega
          · unfold tk
            split
            · simp
            · rename_i k hk
              exact hn k (List.mem_of_getElem? hk)
        have hp := parse_spec hf
        have hs := selectors_spec hf
        have hq := sameSelectors_spec 8 _ (rSelectors_ok hf.len)
        have ht := sameTokens_spec t (by omega)
        rw [parse_same] at hp
        conv => whnf
        repeat' first
          | (refine Case.not ?_; conv => whnf)
          | (refine Case.yes ?_; conv => whnf)
          | (refine Case.no ?_; conv => whnf)
          | (refine Case.isTrue (by assumption) ?_; conv => whnf)
          | (refine Case.isFalse (by assumption) ?_; conv => whnf)
          | (refine Case.decT (by assumption) ?_; conv => whnf)
          | (refine Case.decF (by assumption) ?_; conv => whnf)
          | (refine Case.decT (by omega) ?_; conv => whnf)
          | (refine Case.decF (by omega) ?_; conv => whnf)
          | (refine Case.beqT (by omega) ?_; conv => whnf)
          | (refine Case.beqF (by omega) ?_; conv => whnf)
          | (refine Case.strT (by assumption) ?_; conv => whnf)
          | (refine Case.strF (by assumption) ?_; conv => whnf)
          | (refine Case.strF (by simp only [*]; decide) ?_; conv => whnf)
          | (refine Owes.mk rfl ?_; conv => whnf)
          | (refine Owes.mk toksF_row ?_; conv => whnf)
          | (refine Owes.mk (by dsimp only; omega) ?_; conv => whnf)
          | (refine step_kinds 2 ?hk ?_; (case hk => decide +kernel); conv => whnf)
          | (refine step_kinds 3 ?hk ?_; (case hk => decide +kernel); conv => whnf)
          | (refine Num.id (by omega) (by omega) ?_; conv => whnf)
          | (refine Case.strI (fun _ => ?_) (fun _ => ?_) <;> conv => whnf)
          | (refine Both.mk ?_ ?_ <;> conv => whnf)
          | (refine Case.dec (fun _ => ?_) (fun _ => ?_) <;> conv => whnf)
          | (refine Case.beqI (fun _ => ?_) (fun _ => ?_) <;> conv => whnf)
          | (refine Case.mk (fun _ => ?_) (fun _ => ?_) <;> conv => whnf)
          | (refine Way.fst ?_; conv => whnf)
        refine call_freeze 0 (hp.call ?_)
        conv => whnf
        repeat' first
          | (refine Case.not ?_; conv => whnf)
          | (refine Case.yes ?_; conv => whnf)
          | (refine Case.no ?_; conv => whnf)
          | (refine Case.isTrue (by assumption) ?_; conv => whnf)
          | (refine Case.isFalse (by assumption) ?_; conv => whnf)
          | (refine Case.decT (by assumption) ?_; conv => whnf)
          | (refine Case.decF (by assumption) ?_; conv => whnf)
          | (refine Case.decT (by omega) ?_; conv => whnf)
          | (refine Case.decF (by omega) ?_; conv => whnf)
          | (refine Case.beqT (by omega) ?_; conv => whnf)
          | (refine Case.beqF (by omega) ?_; conv => whnf)
          | (refine Case.strT (by assumption) ?_; conv => whnf)
          | (refine Case.strF (by assumption) ?_; conv => whnf)
          | (refine Case.strF (by simp only [*]; decide) ?_; conv => whnf)
          | (refine hs.call ?_; conv => whnf)
          | (refine hq.call ⟨rfl, rfl, rfl⟩ ?_; conv => whnf)
          | (refine hq.callB ⟨rfl, rfl, rfl⟩ ?_; conv => whnf)
          | (refine ht.call ⟨rfl, rfl, rfl⟩ ?_; conv => whnf)
          | (refine ht.callB ⟨rfl, rfl, rfl⟩ ?_; conv => whnf)
          | (refine Case.boolT ?_; conv => whnf)
          | (refine step_kinds 2 ?hk ?_; (case hk => decide +kernel); conv => whnf)
          | (refine step_kinds 3 ?hk ?_; (case hk => decide +kernel); conv => whnf)
          | (refine Num.id (by omega) (by omega) ?_; conv => whnf)
          | (refine Case.strI (fun _ => ?_) (fun _ => ?_) <;> conv => whnf)
          | (refine Both.mk ?_ ?_ <;> conv => whnf)
          | (refine Case.dec (fun _ => ?_) (fun _ => ?_) <;> conv => whnf)
          | (refine Case.beqI (fun _ => ?_) (fun _ => ?_) <;> conv => whnf)
          | (refine Case.mk (fun _ => ?_) (fun _ => ?_) <;> conv => whnf)
          | (refine Way.fst ?_; conv => whnf)
        exact Fin.isB rfl
theorem walkSelParse (t : List Tok) (W : World) {v : Value} (hv : RepF (fun b => b < W.heap.size) W (.sl (toksF t)) v) (hn : ∀ k ∈ t, -9223372036854775808 ≤ k.n ∧ k.n < 9223372036854775808) : Calls Try.prog 3 #[v] W fun e w' => e = .returned (.bool true) ∧ Below W.heap.size W w' :=
  calls_of_spec (selParse_spec t hn).2 W (laidOk W) [v] (repL_cons (by unfold Rep; exact hv) repL_nil)
end Go.Proofs.Ytdfiegleaknleaa.Aw
