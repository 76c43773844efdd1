/- Tokens of a text are not too long, and their numbers not too great. -/
import Derived.Test.YtdfiegleaknleaaXlA
namespace Go.Proofs.Ytdfiegleaknleaa.Aw
open Go Go.RowKit Go.Lib
set_option linter.unusedVariables false
set_option linter.unusedSimpArgs false
structure TokFit (m : Nat) (k : Tok) : Prop where
  text : k.text.length ≤ m
  lo : -2147483647 ≤ k.n
  hi : k.n ≤ 2147483647
theorem nameRun_len (l : List Int) : ∀ (f p : Nat) (bs : List UInt8), (nameRun l f p bs).1.length ≤ bs.length + 4 * f
  | 0, p, bs => by simp [nameRun]
  | f + 1, p, bs => by
    unfold nameRun
    split
    · have := nameRun_len l f (p + 1) (bs ++ putB (see l p))
      have := putB_le (see l p)
      rw [List.length_append] at *
      omega
    split
    · have := nameRun_len l f (escapedP l p) (bs ++ putB (escapedV l p))
      have := putB_le (escapedV l p)
      rw [List.length_append] at *
      omega
    · dsimp only; omega
theorem nameS_len (l : List Int) (p : Nat) : (nameS l p).length ≤ 4 * (l.length + 1) := by
  have := nameRun_len l (l.length + 1) p []
  unfold nameS
  simp at this
  omega
theorem strRun_fit (l : List Int) (e : Int) (m : Nat) : ∀ (f p : Nat) (bs : List UInt8), bs.length + 4 * f ≤ m → TokFit m (strRun l e f p bs).1
  | 0, p, bs, h => ⟨by simp [strRun], by simp [strRun], by simp [strRun]⟩
  | f + 1, p, bs, h => by
    have h1 := putB_le (see l p)
    have h2 := putB_le (escapedV l p)
    unfold strRun
    split
    · exact ⟨by dsimp only; omega, by dsimp only; omega, by dsimp only; omega⟩
    split
    · exact ⟨by dsimp only; omega, by dsimp only; omega, by dsimp only; omega⟩
    split
    · exact ⟨by simp, by dsimp only; omega, by dsimp only; omega⟩
    split
    · split
      · exact strRun_fit l e m f _ _ (by omega)
      split
      · exact strRun_fit l e m f _ _ (by omega)
      · exact strRun_fit l e m f _ _ (by rw [List.length_append]; omega)
    · exact strRun_fit l e m f _ _ (by rw [List.length_append]; omega)
theorem cap_le (n : Int) : -2147483647 ≤ cap n ∧ cap n ≤ 2147483647 := by
  unfold cap
  repeat' split
  all_goals omega
theorem numTail_le (b : Bool) (n : Int) (x : Bool) : -2147483647 ≤ (numTail b n x).1 ∧ (numTail b n x).1 ≤ 2147483647 := by
  unfold numTail
  split
  · exact ⟨by dsimp only; omega, by dsimp only; omega⟩
  · exact cap_le _
theorem numV_le (bs : List UInt8) : -2147483647 ≤ (numV bs).1 ∧ (numV bs).1 ≤ 2147483647 := by
  unfold numV
  generalize wholeRun (bs.drop (numSign bs).2) 0 0 = x
  obtain ⟨r, n, k⟩ := x
  dsimp only
  unfold numPoint
  split
  · exact numTail_le ..
  · split
    · rename_i b r' _
      generalize fracRun r' (n * 1000) 100 0 = y
      obtain ⟨r2, n2, k2⟩ := y
      exact numTail_le ..
    · exact ⟨by dsimp only; omega, by dsimp only; omega⟩
theorem numericT_fit (l : List Int) (p : Nat) : TokFit (4 * (l.length + 1)) (numericT l p) := by
  unfold numericT
  generalize numB l p = x
  obtain ⟨bs, q, w⟩ := x
  have h := numV_le bs
  dsimp only
  split
  · exact ⟨nameS_len l q, h.1, h.2⟩
  split
  · exact ⟨by simp, h.1, h.2⟩
  · exact ⟨by simp, h.1, h.2⟩
theorem tokNext_fit (l : List Int) (p : Nat) : ∀ k ∈ (tokNext l p).1, TokFit (4 * (l.length + 1)) k := by
  have plain : ∀ (kd c : Int), TokFit (4 * (l.length + 1)) { kind := kd, c := c } := fun _ _ => ⟨by simp, by simp, by simp⟩
  have named : ∀ (kd : Int) (q : Nat), TokFit (4 * (l.length + 1)) { kind := kd, text := nameS l q } := fun _ q => ⟨nameS_len l q, by simp, by simp⟩
  intro k hk
  have hC := tokC l p
  generalize tokNext l p = Y at hk hC
  cases hC
  case comment => simp at hk
  case quote => simp at hk; subst hk; exact strRun_fit l _ _ _ _ [] (by simp)
  case quote1 => simp at hk; subst hk; exact strRun_fit l _ _ _ _ [] (by simp)
  case num => simp at hk; subst hk; exact numericT_fit l p
  case hash => simp at hk; subst hk; exact named _ _
  case hashE => simp at hk; subst hk; exact named _ _
  case atk => simp at hk; subst hk; exact named _ _
  case name => simp at hk; subst hk; exact named _ _
  case name1 => simp at hk; subst hk; exact named _ _
  all_goals (simp at hk; subst hk; exact plain _ _)
theorem tokRun_fit (l : List Int) : ∀ (f p : Nat) (ts : List Tok), (∀ k ∈ ts, TokFit (4 * (l.length + 1)) k) → (∀ k ∈ tokRun l f p ts, TokFit (4 * (l.length + 1)) k) ∧ (tokRun l f p ts).length ≤ ts.length + f
  | 0, p, ts, h => ⟨h, by simp [tokRun]⟩
  | f + 1, p, ts, h => by
    unfold tokRun
    split
    · rename_i h0
      have hl := (tokNext_gt h0).2.2
      obtain ⟨h1, h2⟩ := tokRun_fit l f (tokNext l p).2 (ts ++ (tokNext l p).1) (fun k hk => by
        rcases List.mem_append.1 hk with hk | hk
        · exact h k hk
        · exact tokNext_fit l p k hk)
      refine ⟨h1, ?_⟩
      rw [List.length_append] at h2
      omega
    · exact ⟨h, by omega⟩
theorem tokens_fit (l : List Int) (hl : l.length < 10000000) : Fit (tokens l) := by
  obtain ⟨h1, h2⟩ := tokRun_fit l (l.length + 1) 0 [] (by simp)
  rw [← tokens] at h1 h2
  simp at h2
  refine ⟨by omega, fun i => ?_, fun i => ?_⟩
  · unfold tk
    split
    · simp
    · rename_i k hk
      have := (h1 k (List.mem_of_getElem? hk)).text
      omega
  · unfold tk
    split
    · simp
    · rename_i k hk
      have := h1 k (List.mem_of_getElem? hk)
      exact ⟨by have := this.lo; omega, by have := this.hi; omega⟩
theorem ofT_fit (b : ByteArray) (hb : b.size < 1000000) : Fit (ofT b) := by
  have h1 : b.data.toList.length < 1000000 := hb
  have h2 := prepare_len b.data.toList
  exact tokens_fit _ (by omega)
end Go.Proofs.Ytdfiegleaknleaa.Aw
