/- TokNumbers: helpers. -/
import Derived.Test.YtdenafhfngnlfaaDoorXzN
namespace Go.Proofs.YtdenafhfngnlfaaDoor.Aw
open Go Go.RowKit Go.Lib
set_option linter.unusedVariables false
set_option linter.unusedSimpArgs false
set_option maxRecDepth 100000
theorem numT_asc (neg : Bool) (w x : Nat) : ∀ b ∈ numT neg w x, 45 ≤ b.toNat ∧ b.toNat ≤ 57 := by
  have hd : ∀ u, ∀ b ∈ Lib.decDigits u, 45 ≤ b.toNat ∧ b.toNat ≤ 57 := fun u b hb => by
    have := dgB_le (List.all_eq_true.1 (dec_all u) b hb)
    unfold dgI at this
    omega
  intro b hb
  unfold numT sgB frT at hb
  simp only [List.mem_append] at hb
  rcases hb with hb | hb | hb
  · cases neg
    · simp at hb
    · simp at hb; subst hb; decide
  · exact hd _ b hb
  · split at hb
    · rcases List.mem_cons.1 hb with rfl | hb
      · decide
      · exact hd _ b (List.mem_of_mem_drop hb)
    · simp at hb
theorem numT_len (neg : Bool) (w x : Nat) (hw : w ≤ 2000000) (hx : x ≤ 999) : (numT neg w x).length ≤ 20 := by
  have h1 := dec_len' 6 w (by omega)
  have h2 := dec_len' 3 (1000 + x) (by omega)
  unfold numT sgB frT
  simp only [List.length_append]
  have h3 : (if neg = true then [(45 : UInt8)] else []).length ≤ 1 := by cases neg <;> simp
  have h4 : (if 0 < x then 46 :: List.drop 1 (Lib.decDigits (1000 + x)) else []).length ≤ 5 := by
    split
    · simp; omega
    · simp
  omega
theorem ofNum (neg : Bool) (w x : Nat) (hw : w ≤ 2000000) (hx : x ≤ 999) (T : List UInt8) (hT : ∀ b ∈ T, b.toNat < 128 ∧ b.toNat ≠ 13 ∧ b.toNat ≠ 12 ∧ b.toNat ≠ 0) (hl : T.length ≤ 3) (us : List Tok) (ht : tokens (ints (numT neg w x) ++ ints T) = us) (X : ByteArray) (hX : X.data.toList = numT neg w x ++ T) : Val 14 [.f (.sl (X.data.toList.map byteRow))] (.f (.sl (us.map tokRow))) := by
  have hn := numT_len neg w x hw hx
  rw [hX]
  refine of4_asc _ (by simp; omega) (fun b hb => ?_) (by rw [← ht]; simp [ints])
  rcases List.mem_append.1 hb with hb | hb
  · have := numT_asc neg w x b hb
    omega
  · exact hT b hb
/-- The four texts. -/
theorem txt_a {w x : Nat} (h0 : x = 0) (T : List UInt8) : (⟨(Lib.decDigits w).toArray⟩ ++ ⟨T.toArray⟩ : ByteArray).data.toList = numT false w x ++ T := by
  subst h0
  simp [numT, sgB, frT]
theorem txt_b {w x : Nat} (h0 : x = 0) (T : List UInt8) : (⟨#[45]⟩ ++ ⟨(Lib.decDigits w).toArray⟩ ++ ⟨T.toArray⟩ : ByteArray).data.toList = numT true w x ++ T := by
  subst h0
  simp [numT, sgB, frT]
theorem txt_f (x : Nat) : ((⟨(Lib.decDigits (1000 + x)).toArray⟩ : ByteArray).extract (1 : Int).toNat (((⟨(Lib.decDigits (1000 + x)).toArray⟩ : ByteArray).size : Nat) : Int).toNat) = ⟨((Lib.decDigits (1000 + x)).drop 1).toArray⟩ := by
  rw [ext_mk, Int.toNat_natCast, bszB, List.size_toArray, List.take_length]
  rfl
theorem txt_c {w x : Nat} (h0 : 0 < x) (T : List UInt8) : (⟨(Lib.decDigits w).toArray⟩ ++ ⟨#[46]⟩ ++ ((⟨(Lib.decDigits (1000 + x)).toArray⟩ : ByteArray).extract (1 : Int).toNat (((⟨(Lib.decDigits (1000 + x)).toArray⟩ : ByteArray).size : Nat) : Int).toNat) ++ ⟨T.toArray⟩ : ByteArray).data.toList = numT false w x ++ T := by
  rw [txt_f]
  simp [numT, sgB, frT, h0]
theorem txt_d {w x : Nat} (h0 : 0 < x) (T : List UInt8) : (⟨#[45]⟩ ++ (⟨(Lib.decDigits w).toArray⟩ ++ ⟨#[46]⟩ ++ ((⟨(Lib.decDigits (1000 + x)).toArray⟩ : ByteArray).extract (1 : Int).toNat (((⟨(Lib.decDigits (1000 + x)).toArray⟩ : ByteArray).size : Nat) : Int).toNat)) ++ ⟨T.toArray⟩ : ByteArray).data.toList = numT true w x ++ T := by
  rw [txt_f]
  simp [numT, sgB, frT, h0]
theorem digs_call (x : Nat) (hx : x ≤ 999) : Pure 15 [int (1000 + (x : Int))] (.str ⟨(Lib.decDigits (1000 + x)).toArray⟩) := by
  have := digits_spec 3 (1000 + x) (by omega) (by omega)
  rwa [show (((1000 + x : Nat)) : Int) = 1000 + (x : Int) by omega] at this
theorem digs_len (x : Nat) : 1 ≤ (Lib.decDigits (1000 + x)).length := by
  rw [dec_big' (by omega)]
  simp
set_option maxHeartbeats 4000000 in
theorem numbers4_0 (w x : Nat) (hw : w ≤ 2000000) (hx : x ≤ 999) (neg : Bool) : Pure 5 [int w, int x, bool neg, int 0] (bool true) := by
  have tk : ∀ (neg : Bool) (N : Int) (B : Bool), numN neg w x = N → decide (x = 0) = B → tokens (ints (numT neg w x) ++ ints []) = [({ kind := 6, n := N, whole := B } : Tok)] := by
    rintro neg N B rfl rfl
    exact by have := law_num0 neg w x hw hx; simpa [ints] using this
  have key : ∀ (neg : Bool) (N : Int) (B : Bool), numN neg w x = N → decide (x = 0) = B → ∀ X : ByteArray, X.data.toList = numT neg w x ++ [] → Val 14 [.f (.sl (X.data.toList.map byteRow))] (.f (.sl (([({ kind := 6, n := N, whole := B } : Tok)]).map tokRow))) := fun neg N B hN hB X hX => ofNum neg w x hw hx [] (by decide) (by decide) _ (tk neg N B hN hB) X hX
  have sm : ∀ (N : Int) (B : Bool), Pure 13 [.f (.sl (toksF ([({ kind := 6, n := N, whole := B } : Tok)]))), .f (.sl (toksF ([({ kind := 6, n := N, whole := B } : Tok)])))] (bool true) := fun N B => sameTokens_spec _ (by simp)
  clear tk
  have d1 := digits_spec 6 w (by omega) (by omega)
  have d2 := digs_call x hx
  have l1 := dec_len' 6 w (by omega)
  have l2 := dec_len' 3 (1000 + x) (by omega)
  have l3 := digs_len x
  refine .mk trivial (spec_mk tab_ok Tryd.func5 (by rfl) rfl ?_)
  conv => whnf
  rcases Nat.eq_zero_or_pos x with h0 | h0
  · subst h0
    cases neg
    ·
      repeat' first
        | (refine Case.not ?_; conv => whnf)
        | (refine Case.yes ?_; conv => whnf)
        | (refine Case.no ?_; conv => whnf)
        | (refine Case.isTrue (by assumption) ?_; conv => whnf)
        | (refine Case.isFalse (by assumption) ?_; conv => whnf)
        | (refine Case.decT (by assumption) ?_; conv => whnf)
        | (refine Case.decF (by assumption) ?_; conv => whnf)
        | (refine Case.decT (by omega) ?_; conv => whnf)
        | (refine Case.decF (by omega) ?_; conv => whnf)
        | (refine Case.beqT (by omega) ?_; conv => whnf)
        | (refine Case.beqF (by omega) ?_; conv => whnf)
        | (refine Case.strT (by assumption) ?_; conv => whnf)
        | (refine Case.strF (by assumption) ?_; conv => whnf)
        | (refine Case.strF (by simp only [*]; decide) ?_; conv => whnf)
        | (refine alive4_spec.call rfl ?_; conv => whnf)
        | (refine d1.call ⟨rfl, rfl⟩ ?_; conv => whnf)
        | (refine d2.call ⟨rfl, rfl⟩ ?_; conv => whnf)
        | (refine (key false (((w : Int) * 1000)) true (by unfold numN; rw [if_neg (by simp)]; omega) rfl _ (txt_a rfl _)).callB ?_; conv => whnf)
        | (refine Elem.mk 0 _ rfl rfl ?_; conv => whnf)
        | (refine (sm (((w : Int) * 1000)) true).call ⟨rfl, rfl, rfl⟩ ?_; conv => whnf)
        | (refine (sm (((w : Int) * 1000)) true).callB ⟨rfl, rfl, rfl⟩ ?_; conv => whnf)
        | (refine Owes.mk (by first | (simp only [ByteArray.size_append, ByteArray.size_extract, bszB, List.size_toArray, List.length_cons, List.length_nil, List.length_append, List.length_map]; omega) | (simp only [ByteArray.size_append, bszB, List.size_toArray, List.length_cons, List.length_nil]; done) | fail "x") ?_; conv => whnf)
        | (refine step_kinds 2 ?hk ?_; (case hk => decide +kernel); conv => whnf)
        | (refine step_kinds 3 ?hk ?_; (case hk => decide +kernel); conv => whnf)
        | (refine step_auto 2 ?hk ?_; (case hk => decide +kernel); conv => whnf)
        | (refine step_auto 3 ?hk ?_; (case hk => decide +kernel); conv => whnf)
        | (refine V2.step_auto 2 ?hk ?_; (case hk => decide +kernel); conv => whnf)
        | (refine V2.step_auto 3 ?hk ?_; (case hk => decide +kernel); conv => whnf)
        | (refine Num.id (by omega) (by omega) ?_; conv => whnf)
        | (refine Case.strI (fun _ => ?_) (fun _ => ?_) <;> conv => whnf)
        | (refine Both.mk ?_ ?_ <;> conv => whnf)
        | (refine Case.dec (fun _ => ?_) (fun _ => ?_) <;> conv => whnf)
        | (refine Case.beqI (fun _ => ?_) (fun _ => ?_) <;> conv => whnf)
        | (refine Case.mk (fun _ => ?_) (fun _ => ?_) <;> conv => whnf)
        | (refine Way.fst ?_; conv => whnf)
      all_goals exact Fin.isB rfl
    ·
      repeat' first
        | (refine Case.not ?_; conv => whnf)
        | (refine Case.yes ?_; conv => whnf)
        | (refine Case.no ?_; conv => whnf)
        | (refine Case.isTrue (by assumption) ?_; conv => whnf)
        | (refine Case.isFalse (by assumption) ?_; conv => whnf)
        | (refine Case.decT (by assumption) ?_; conv => whnf)
        | (refine Case.decF (by assumption) ?_; conv => whnf)
        | (refine Case.decT (by omega) ?_; conv => whnf)
        | (refine Case.decF (by omega) ?_; conv => whnf)
        | (refine Case.beqT (by omega) ?_; conv => whnf)
        | (refine Case.beqF (by omega) ?_; conv => whnf)
        | (refine Case.strT (by assumption) ?_; conv => whnf)
        | (refine Case.strF (by assumption) ?_; conv => whnf)
        | (refine Case.strF (by simp only [*]; decide) ?_; conv => whnf)
        | (refine alive4_spec.call rfl ?_; conv => whnf)
        | (refine d1.call ⟨rfl, rfl⟩ ?_; conv => whnf)
        | (refine d2.call ⟨rfl, rfl⟩ ?_; conv => whnf)
        | (refine (key true (0 - ((w : Int) * 1000)) true (by unfold numN; rw [if_pos rfl]; omega) rfl _ (txt_b rfl _)).callB ?_; conv => whnf)
        | (refine Elem.mk 0 _ rfl rfl ?_; conv => whnf)
        | (refine (sm (0 - ((w : Int) * 1000)) true).call ⟨rfl, rfl, rfl⟩ ?_; conv => whnf)
        | (refine (sm (0 - ((w : Int) * 1000)) true).callB ⟨rfl, rfl, rfl⟩ ?_; conv => whnf)
        | (refine Owes.mk (by first | (simp only [ByteArray.size_append, ByteArray.size_extract, bszB, List.size_toArray, List.length_cons, List.length_nil, List.length_append, List.length_map]; omega) | (simp only [ByteArray.size_append, bszB, List.size_toArray, List.length_cons, List.length_nil]; done) | fail "x") ?_; conv => whnf)
        | (refine step_kinds 2 ?hk ?_; (case hk => decide +kernel); conv => whnf)
        | (refine step_kinds 3 ?hk ?_; (case hk => decide +kernel); conv => whnf)
        | (refine step_auto 2 ?hk ?_; (case hk => decide +kernel); conv => whnf)
        | (refine step_auto 3 ?hk ?_; (case hk => decide +kernel); conv => whnf)
        | (refine V2.step_auto 2 ?hk ?_; (case hk => decide +kernel); conv => whnf)
        | (refine V2.step_auto 3 ?hk ?_; (case hk => decide +kernel); conv => whnf)
        | (refine Num.id (by omega) (by omega) ?_; conv => whnf)
        | (refine Case.strI (fun _ => ?_) (fun _ => ?_) <;> conv => whnf)
        | (refine Both.mk ?_ ?_ <;> conv => whnf)
        | (refine Case.dec (fun _ => ?_) (fun _ => ?_) <;> conv => whnf)
        | (refine Case.beqI (fun _ => ?_) (fun _ => ?_) <;> conv => whnf)
        | (refine Case.mk (fun _ => ?_) (fun _ => ?_) <;> conv => whnf)
        | (refine Way.fst ?_; conv => whnf)
      all_goals exact Fin.isB rfl
  · cases neg
    ·
      repeat' first
        | (refine Case.not ?_; conv => whnf)
        | (refine Case.yes ?_; conv => whnf)
        | (refine Case.no ?_; conv => whnf)
        | (refine Case.isTrue (by assumption) ?_; conv => whnf)
        | (refine Case.isFalse (by assumption) ?_; conv => whnf)
        | (refine Case.decT (by assumption) ?_; conv => whnf)
        | (refine Case.decF (by assumption) ?_; conv => whnf)
        | (refine Case.decT (by omega) ?_; conv => whnf)
        | (refine Case.decF (by omega) ?_; conv => whnf)
        | (refine Case.beqT (by omega) ?_; conv => whnf)
        | (refine Case.beqF (by omega) ?_; conv => whnf)
        | (refine Case.strT (by assumption) ?_; conv => whnf)
        | (refine Case.strF (by assumption) ?_; conv => whnf)
        | (refine Case.strF (by simp only [*]; decide) ?_; conv => whnf)
        | (refine alive4_spec.call rfl ?_; conv => whnf)
        | (refine d1.call ⟨rfl, rfl⟩ ?_; conv => whnf)
        | (refine d2.call ⟨rfl, rfl⟩ ?_; conv => whnf)
        | (refine (key false (((w : Int) * 1000 + (x : Int))) (decide ((x : Int) = 0)) (by unfold numN; rw [if_neg (by simp)]; omega) (by simp) _ (txt_c h0 _)).callB ?_; conv => whnf)
        | (refine Elem.mk 0 _ rfl rfl ?_; conv => whnf)
        | (refine (sm (((w : Int) * 1000 + (x : Int))) (decide ((x : Int) = 0))).call ⟨rfl, rfl, rfl⟩ ?_; conv => whnf)
        | (refine (sm (((w : Int) * 1000 + (x : Int))) (decide ((x : Int) = 0))).callB ⟨rfl, rfl, rfl⟩ ?_; conv => whnf)
        | (refine Owes.mk (by first | (simp only [ByteArray.size_append, ByteArray.size_extract, bszB, List.size_toArray, List.length_cons, List.length_nil, List.length_append, List.length_map]; omega) | (simp only [ByteArray.size_append, bszB, List.size_toArray, List.length_cons, List.length_nil]; done) | fail "x") ?_; conv => whnf)
        | (refine step_kinds 2 ?hk ?_; (case hk => decide +kernel); conv => whnf)
        | (refine step_kinds 3 ?hk ?_; (case hk => decide +kernel); conv => whnf)
        | (refine step_auto 2 ?hk ?_; (case hk => decide +kernel); conv => whnf)
        | (refine step_auto 3 ?hk ?_; (case hk => decide +kernel); conv => whnf)
        | (refine V2.step_auto 2 ?hk ?_; (case hk => decide +kernel); conv => whnf)
        | (refine V2.step_auto 3 ?hk ?_; (case hk => decide +kernel); conv => whnf)
        | (refine Num.id (by omega) (by omega) ?_; conv => whnf)
        | (refine Case.strI (fun _ => ?_) (fun _ => ?_) <;> conv => whnf)
        | (refine Both.mk ?_ ?_ <;> conv => whnf)
        | (refine Case.dec (fun _ => ?_) (fun _ => ?_) <;> conv => whnf)
        | (refine Case.beqI (fun _ => ?_) (fun _ => ?_) <;> conv => whnf)
        | (refine Case.mk (fun _ => ?_) (fun _ => ?_) <;> conv => whnf)
        | (refine Way.fst ?_; conv => whnf)
      all_goals exact Fin.isB rfl
    ·
      repeat' first
        | (refine Case.not ?_; conv => whnf)
        | (refine Case.yes ?_; conv => whnf)
        | (refine Case.no ?_; conv => whnf)
        | (refine Case.isTrue (by assumption) ?_; conv => whnf)
        | (refine Case.isFalse (by assumption) ?_; conv => whnf)
        | (refine Case.decT (by assumption) ?_; conv => whnf)
        | (refine Case.decF (by assumption) ?_; conv => whnf)
        | (refine Case.decT (by omega) ?_; conv => whnf)
        | (refine Case.decF (by omega) ?_; conv => whnf)
        | (refine Case.beqT (by omega) ?_; conv => whnf)
        | (refine Case.beqF (by omega) ?_; conv => whnf)
        | (refine Case.strT (by assumption) ?_; conv => whnf)
        | (refine Case.strF (by assumption) ?_; conv => whnf)
        | (refine Case.strF (by simp only [*]; decide) ?_; conv => whnf)
        | (refine alive4_spec.call rfl ?_; conv => whnf)
        | (refine d1.call ⟨rfl, rfl⟩ ?_; conv => whnf)
        | (refine d2.call ⟨rfl, rfl⟩ ?_; conv => whnf)
        | (refine (key true (0 - ((w : Int) * 1000 + (x : Int))) (decide ((x : Int) = 0)) (by unfold numN; rw [if_pos rfl]; omega) (by simp) _ (txt_d h0 _)).callB ?_; conv => whnf)
        | (refine Elem.mk 0 _ rfl rfl ?_; conv => whnf)
        | (refine (sm (0 - ((w : Int) * 1000 + (x : Int))) (decide ((x : Int) = 0))).call ⟨rfl, rfl, rfl⟩ ?_; conv => whnf)
        | (refine (sm (0 - ((w : Int) * 1000 + (x : Int))) (decide ((x : Int) = 0))).callB ⟨rfl, rfl, rfl⟩ ?_; conv => whnf)
        | (refine Owes.mk (by first | (simp only [ByteArray.size_append, ByteArray.size_extract, bszB, List.size_toArray, List.length_cons, List.length_nil, List.length_append, List.length_map]; omega) | (simp only [ByteArray.size_append, bszB, List.size_toArray, List.length_cons, List.length_nil]; done) | fail "x") ?_; conv => whnf)
        | (refine step_kinds 2 ?hk ?_; (case hk => decide +kernel); conv => whnf)
        | (refine step_kinds 3 ?hk ?_; (case hk => decide +kernel); conv => whnf)
        | (refine step_auto 2 ?hk ?_; (case hk => decide +kernel); conv => whnf)
        | (refine step_auto 3 ?hk ?_; (case hk => decide +kernel); conv => whnf)
        | (refine V2.step_auto 2 ?hk ?_; (case hk => decide +kernel); conv => whnf)
        | (refine V2.step_auto 3 ?hk ?_; (case hk => decide +kernel); conv => whnf)
        | (refine Num.id (by omega) (by omega) ?_; conv => whnf)
        | (refine Case.strI (fun _ => ?_) (fun _ => ?_) <;> conv => whnf)
        | (refine Both.mk ?_ ?_ <;> conv => whnf)
        | (refine Case.dec (fun _ => ?_) (fun _ => ?_) <;> conv => whnf)
        | (refine Case.beqI (fun _ => ?_) (fun _ => ?_) <;> conv => whnf)
        | (refine Case.mk (fun _ => ?_) (fun _ => ?_) <;> conv => whnf)
        | (refine Way.fst ?_; conv => whnf)
      all_goals exact Fin.isB rfl
set_option maxHeartbeats 4000000 in
theorem numbers4_1 (w x : Nat) (hw : w ≤ 2000000) (hx : x ≤ 999) (neg : Bool) : Pure 5 [int w, int x, bool neg, int 1] (bool true) := by
  have tk : ∀ (neg : Bool) (N : Int) (B : Bool), numN neg w x = N → decide (x = 0) = B → tokens (ints (numT neg w x) ++ ints [37]) = [({ kind := 7, n := N } : Tok)] := by
    rintro neg N B rfl rfl
    exact law_num1 neg w x hw hx
  have key : ∀ (neg : Bool) (N : Int) (B : Bool), numN neg w x = N → decide (x = 0) = B → ∀ X : ByteArray, X.data.toList = numT neg w x ++ [37] → Val 14 [.f (.sl (X.data.toList.map byteRow))] (.f (.sl (([({ kind := 7, n := N } : Tok)]).map tokRow))) := fun neg N B hN hB X hX => ofNum neg w x hw hx [37] (by decide) (by decide) _ (tk neg N B hN hB) X hX
  have sm : ∀ (N : Int) (B : Bool), Pure 13 [.f (.sl (toksF ([({ kind := 7, n := N } : Tok)]))), .f (.sl (toksF ([({ kind := 7, n := N } : Tok)])))] (bool true) := fun N B => sameTokens_spec _ (by simp)
  clear tk
  have d1 := digits_spec 6 w (by omega) (by omega)
  have d2 := digs_call x hx
  have l1 := dec_len' 6 w (by omega)
  have l2 := dec_len' 3 (1000 + x) (by omega)
  have l3 := digs_len x
  refine .mk trivial (spec_mk tab_ok Tryd.func5 (by rfl) rfl ?_)
  conv => whnf
  rcases Nat.eq_zero_or_pos x with h0 | h0
  · subst h0
    cases neg
    ·
      repeat' first
        | (refine Case.not ?_; conv => whnf)
        | (refine Case.yes ?_; conv => whnf)
        | (refine Case.no ?_; conv => whnf)
        | (refine Case.isTrue (by assumption) ?_; conv => whnf)
        | (refine Case.isFalse (by assumption) ?_; conv => whnf)
        | (refine Case.decT (by assumption) ?_; conv => whnf)
        | (refine Case.decF (by assumption) ?_; conv => whnf)
        | (refine Case.decT (by omega) ?_; conv => whnf)
        | (refine Case.decF (by omega) ?_; conv => whnf)
        | (refine Case.beqT (by omega) ?_; conv => whnf)
        | (refine Case.beqF (by omega) ?_; conv => whnf)
        | (refine Case.strT (by assumption) ?_; conv => whnf)
        | (refine Case.strF (by assumption) ?_; conv => whnf)
        | (refine Case.strF (by simp only [*]; decide) ?_; conv => whnf)
        | (refine alive4_spec.call rfl ?_; conv => whnf)
        | (refine d1.call ⟨rfl, rfl⟩ ?_; conv => whnf)
        | (refine d2.call ⟨rfl, rfl⟩ ?_; conv => whnf)
        | (refine (key false (((w : Int) * 1000)) true (by unfold numN; rw [if_neg (by simp)]; omega) rfl _ (txt_a rfl _)).callB ?_; conv => whnf)
        | (refine Elem.mk 1 _ rfl rfl ?_; conv => whnf)
        | (refine (sm (((w : Int) * 1000)) true).call ⟨rfl, rfl, rfl⟩ ?_; conv => whnf)
        | (refine (sm (((w : Int) * 1000)) true).callB ⟨rfl, rfl, rfl⟩ ?_; conv => whnf)
        | (refine Owes.mk (by first | (simp only [ByteArray.size_append, ByteArray.size_extract, bszB, List.size_toArray, List.length_cons, List.length_nil, List.length_append, List.length_map]; omega) | (simp only [ByteArray.size_append, bszB, List.size_toArray, List.length_cons, List.length_nil]; done) | fail "x") ?_; conv => whnf)
        | (refine step_kinds 2 ?hk ?_; (case hk => decide +kernel); conv => whnf)
        | (refine step_kinds 3 ?hk ?_; (case hk => decide +kernel); conv => whnf)
        | (refine step_auto 2 ?hk ?_; (case hk => decide +kernel); conv => whnf)
        | (refine step_auto 3 ?hk ?_; (case hk => decide +kernel); conv => whnf)
        | (refine V2.step_auto 2 ?hk ?_; (case hk => decide +kernel); conv => whnf)
        | (refine V2.step_auto 3 ?hk ?_; (case hk => decide +kernel); conv => whnf)
        | (refine Num.id (by omega) (by omega) ?_; conv => whnf)
        | (refine Case.strI (fun _ => ?_) (fun _ => ?_) <;> conv => whnf)
        | (refine Both.mk ?_ ?_ <;> conv => whnf)
        | (refine Case.dec (fun _ => ?_) (fun _ => ?_) <;> conv => whnf)
        | (refine Case.beqI (fun _ => ?_) (fun _ => ?_) <;> conv => whnf)
        | (refine Case.mk (fun _ => ?_) (fun _ => ?_) <;> conv => whnf)
        | (refine Way.fst ?_; conv => whnf)
      all_goals exact Fin.isB rfl
    ·
      repeat' first
        | (refine Case.not ?_; conv => whnf)
        | (refine Case.yes ?_; conv => whnf)
        | (refine Case.no ?_; conv => whnf)
        | (refine Case.isTrue (by assumption) ?_; conv => whnf)
        | (refine Case.isFalse (by assumption) ?_; conv => whnf)
        | (refine Case.decT (by assumption) ?_; conv => whnf)
        | (refine Case.decF (by assumption) ?_; conv => whnf)
        | (refine Case.decT (by omega) ?_; conv => whnf)
        | (refine Case.decF (by omega) ?_; conv => whnf)
        | (refine Case.beqT (by omega) ?_; conv => whnf)
        | (refine Case.beqF (by omega) ?_; conv => whnf)
        | (refine Case.strT (by assumption) ?_; conv => whnf)
        | (refine Case.strF (by assumption) ?_; conv => whnf)
        | (refine Case.strF (by simp only [*]; decide) ?_; conv => whnf)
        | (refine alive4_spec.call rfl ?_; conv => whnf)
        | (refine d1.call ⟨rfl, rfl⟩ ?_; conv => whnf)
        | (refine d2.call ⟨rfl, rfl⟩ ?_; conv => whnf)
        | (refine (key true (0 - ((w : Int) * 1000)) true (by unfold numN; rw [if_pos rfl]; omega) rfl _ (txt_b rfl _)).callB ?_; conv => whnf)
        | (refine Elem.mk 1 _ rfl rfl ?_; conv => whnf)
        | (refine (sm (0 - ((w : Int) * 1000)) true).call ⟨rfl, rfl, rfl⟩ ?_; conv => whnf)
        | (refine (sm (0 - ((w : Int) * 1000)) true).callB ⟨rfl, rfl, rfl⟩ ?_; conv => whnf)
        | (refine Owes.mk (by first | (simp only [ByteArray.size_append, ByteArray.size_extract, bszB, List.size_toArray, List.length_cons, List.length_nil, List.length_append, List.length_map]; omega) | (simp only [ByteArray.size_append, bszB, List.size_toArray, List.length_cons, List.length_nil]; done) | fail "x") ?_; conv => whnf)
        | (refine step_kinds 2 ?hk ?_; (case hk => decide +kernel); conv => whnf)
        | (refine step_kinds 3 ?hk ?_; (case hk => decide +kernel); conv => whnf)
        | (refine step_auto 2 ?hk ?_; (case hk => decide +kernel); conv => whnf)
        | (refine step_auto 3 ?hk ?_; (case hk => decide +kernel); conv => whnf)
        | (refine V2.step_auto 2 ?hk ?_; (case hk => decide +kernel); conv => whnf)
        | (refine V2.step_auto 3 ?hk ?_; (case hk => decide +kernel); conv => whnf)
        | (refine Num.id (by omega) (by omega) ?_; conv => whnf)
        | (refine Case.strI (fun _ => ?_) (fun _ => ?_) <;> conv => whnf)
        | (refine Both.mk ?_ ?_ <;> conv => whnf)
        | (refine Case.dec (fun _ => ?_) (fun _ => ?_) <;> conv => whnf)
        | (refine Case.beqI (fun _ => ?_) (fun _ => ?_) <;> conv => whnf)
        | (refine Case.mk (fun _ => ?_) (fun _ => ?_) <;> conv => whnf)
        | (refine Way.fst ?_; conv => whnf)
      all_goals exact Fin.isB rfl
  · cases neg
    ·
      repeat' first
        | (refine Case.not ?_; conv => whnf)
        | (refine Case.yes ?_; conv => whnf)
        | (refine Case.no ?_; conv => whnf)
        | (refine Case.isTrue (by assumption) ?_; conv => whnf)
        | (refine Case.isFalse (by assumption) ?_; conv => whnf)
        | (refine Case.decT (by assumption) ?_; conv => whnf)
        | (refine Case.decF (by assumption) ?_; conv => whnf)
        | (refine Case.decT (by omega) ?_; conv => whnf)
        | (refine Case.decF (by omega) ?_; conv => whnf)
        | (refine Case.beqT (by omega) ?_; conv => whnf)
        | (refine Case.beqF (by omega) ?_; conv => whnf)
        | (refine Case.strT (by assumption) ?_; conv => whnf)
        | (refine Case.strF (by assumption) ?_; conv => whnf)
        | (refine Case.strF (by simp only [*]; decide) ?_; conv => whnf)
        | (refine alive4_spec.call rfl ?_; conv => whnf)
        | (refine d1.call ⟨rfl, rfl⟩ ?_; conv => whnf)
        | (refine d2.call ⟨rfl, rfl⟩ ?_; conv => whnf)
        | (refine (key false (((w : Int) * 1000 + (x : Int))) (decide ((x : Int) = 0)) (by unfold numN; rw [if_neg (by simp)]; omega) (by simp) _ (txt_c h0 _)).callB ?_; conv => whnf)
        | (refine Elem.mk 1 _ rfl rfl ?_; conv => whnf)
        | (refine (sm (((w : Int) * 1000 + (x : Int))) (decide ((x : Int) = 0))).call ⟨rfl, rfl, rfl⟩ ?_; conv => whnf)
        | (refine (sm (((w : Int) * 1000 + (x : Int))) (decide ((x : Int) = 0))).callB ⟨rfl, rfl, rfl⟩ ?_; conv => whnf)
        | (refine Owes.mk (by first | (simp only [ByteArray.size_append, ByteArray.size_extract, bszB, List.size_toArray, List.length_cons, List.length_nil, List.length_append, List.length_map]; omega) | (simp only [ByteArray.size_append, bszB, List.size_toArray, List.length_cons, List.length_nil]; done) | fail "x") ?_; conv => whnf)
        | (refine step_kinds 2 ?hk ?_; (case hk => decide +kernel); conv => whnf)
        | (refine step_kinds 3 ?hk ?_; (case hk => decide +kernel); conv => whnf)
        | (refine step_auto 2 ?hk ?_; (case hk => decide +kernel); conv => whnf)
        | (refine step_auto 3 ?hk ?_; (case hk => decide +kernel); conv => whnf)
        | (refine V2.step_auto 2 ?hk ?_; (case hk => decide +kernel); conv => whnf)
        | (refine V2.step_auto 3 ?hk ?_; (case hk => decide +kernel); conv => whnf)
        | (refine Num.id (by omega) (by omega) ?_; conv => whnf)
        | (refine Case.strI (fun _ => ?_) (fun _ => ?_) <;> conv => whnf)
        | (refine Both.mk ?_ ?_ <;> conv => whnf)
        | (refine Case.dec (fun _ => ?_) (fun _ => ?_) <;> conv => whnf)
        | (refine Case.beqI (fun _ => ?_) (fun _ => ?_) <;> conv => whnf)
        | (refine Case.mk (fun _ => ?_) (fun _ => ?_) <;> conv => whnf)
        | (refine Way.fst ?_; conv => whnf)
      all_goals exact Fin.isB rfl
    ·
      repeat' first
        | (refine Case.not ?_; conv => whnf)
        | (refine Case.yes ?_; conv => whnf)
        | (refine Case.no ?_; conv => whnf)
        | (refine Case.isTrue (by assumption) ?_; conv => whnf)
        | (refine Case.isFalse (by assumption) ?_; conv => whnf)
        | (refine Case.decT (by assumption) ?_; conv => whnf)
        | (refine Case.decF (by assumption) ?_; conv => whnf)
        | (refine Case.decT (by omega) ?_; conv => whnf)
        | (refine Case.decF (by omega) ?_; conv => whnf)
        | (refine Case.beqT (by omega) ?_; conv => whnf)
        | (refine Case.beqF (by omega) ?_; conv => whnf)
        | (refine Case.strT (by assumption) ?_; conv => whnf)
        | (refine Case.strF (by assumption) ?_; conv => whnf)
        | (refine Case.strF (by simp only [*]; decide) ?_; conv => whnf)
        | (refine alive4_spec.call rfl ?_; conv => whnf)
        | (refine d1.call ⟨rfl, rfl⟩ ?_; conv => whnf)
        | (refine d2.call ⟨rfl, rfl⟩ ?_; conv => whnf)
        | (refine (key true (0 - ((w : Int) * 1000 + (x : Int))) (decide ((x : Int) = 0)) (by unfold numN; rw [if_pos rfl]; omega) (by simp) _ (txt_d h0 _)).callB ?_; conv => whnf)
        | (refine Elem.mk 1 _ rfl rfl ?_; conv => whnf)
        | (refine (sm (0 - ((w : Int) * 1000 + (x : Int))) (decide ((x : Int) = 0))).call ⟨rfl, rfl, rfl⟩ ?_; conv => whnf)
        | (refine (sm (0 - ((w : Int) * 1000 + (x : Int))) (decide ((x : Int) = 0))).callB ⟨rfl, rfl, rfl⟩ ?_; conv => whnf)
        | (refine Owes.mk (by first | (simp only [ByteArray.size_append, ByteArray.size_extract, bszB, List.size_toArray, List.length_cons, List.length_nil, List.length_append, List.length_map]; omega) | (simp only [ByteArray.size_append, bszB, List.size_toArray, List.length_cons, List.length_nil]; done) | fail "x") ?_; conv => whnf)
        | (refine step_kinds 2 ?hk ?_; (case hk => decide +kernel); conv => whnf)
        | (refine step_kinds 3 ?hk ?_; (case hk => decide +kernel); conv => whnf)
        | (refine step_auto 2 ?hk ?_; (case hk => decide +kernel); conv => whnf)
        | (refine step_auto 3 ?hk ?_; (case hk => decide +kernel); conv => whnf)
        | (refine V2.step_auto 2 ?hk ?_; (case hk => decide +kernel); conv => whnf)
        | (refine V2.step_auto 3 ?hk ?_; (case hk => decide +kernel); conv => whnf)
        | (refine Num.id (by omega) (by omega) ?_; conv => whnf)
        | (refine Case.strI (fun _ => ?_) (fun _ => ?_) <;> conv => whnf)
        | (refine Both.mk ?_ ?_ <;> conv => whnf)
        | (refine Case.dec (fun _ => ?_) (fun _ => ?_) <;> conv => whnf)
        | (refine Case.beqI (fun _ => ?_) (fun _ => ?_) <;> conv => whnf)
        | (refine Case.mk (fun _ => ?_) (fun _ => ?_) <;> conv => whnf)
        | (refine Way.fst ?_; conv => whnf)
      all_goals exact Fin.isB rfl
set_option maxHeartbeats 4000000 in
theorem numbers4_2 (w x : Nat) (hw : w ≤ 2000000) (hx : x ≤ 999) (neg : Bool) : Pure 5 [int w, int x, bool neg, int 2] (bool true) := by
  have tk : ∀ (neg : Bool) (N : Int) (B : Bool), numN neg w x = N → decide (x = 0) = B → tokens (ints (numT neg w x) ++ ints [112, 120]) = [({ kind := 8, n := N, text := [112, 120] } : Tok)] := by
    rintro neg N B rfl rfl
    exact by have := num_dim neg w x hw hx (s := ints [112, 120]) (by decide) (by unfold letter; decide); rw [ints_b8] at this; exact this
  have key : ∀ (neg : Bool) (N : Int) (B : Bool), numN neg w x = N → decide (x = 0) = B → ∀ X : ByteArray, X.data.toList = numT neg w x ++ [112, 120] → Val 14 [.f (.sl (X.data.toList.map byteRow))] (.f (.sl (([({ kind := 8, n := N, text := [112, 120] } : Tok)]).map tokRow))) := fun neg N B hN hB X hX => ofNum neg w x hw hx [112, 120] (by decide) (by decide) _ (tk neg N B hN hB) X hX
  have sm : ∀ (N : Int) (B : Bool), Pure 13 [.f (.sl (toksF ([({ kind := 8, n := N, text := [112, 120] } : Tok)]))), .f (.sl (toksF ([({ kind := 8, n := N, text := [112, 120] } : Tok)])))] (bool true) := fun N B => sameTokens_spec _ (by simp)
  clear tk
  have d1 := digits_spec 6 w (by omega) (by omega)
  have d2 := digs_call x hx
  have l1 := dec_len' 6 w (by omega)
  have l2 := dec_len' 3 (1000 + x) (by omega)
  have l3 := digs_len x
  refine .mk trivial (spec_mk tab_ok Tryd.func5 (by rfl) rfl ?_)
  conv => whnf
  rcases Nat.eq_zero_or_pos x with h0 | h0
  · subst h0
    cases neg
    ·
      repeat' first
        | (refine Case.not ?_; conv => whnf)
        | (refine Case.yes ?_; conv => whnf)
        | (refine Case.no ?_; conv => whnf)
        | (refine Case.isTrue (by assumption) ?_; conv => whnf)
        | (refine Case.isFalse (by assumption) ?_; conv => whnf)
        | (refine Case.decT (by assumption) ?_; conv => whnf)
        | (refine Case.decF (by assumption) ?_; conv => whnf)
        | (refine Case.decT (by omega) ?_; conv => whnf)
        | (refine Case.decF (by omega) ?_; conv => whnf)
        | (refine Case.beqT (by omega) ?_; conv => whnf)
        | (refine Case.beqF (by omega) ?_; conv => whnf)
        | (refine Case.strT (by assumption) ?_; conv => whnf)
        | (refine Case.strF (by assumption) ?_; conv => whnf)
        | (refine Case.strF (by simp only [*]; decide) ?_; conv => whnf)
        | (refine alive4_spec.call rfl ?_; conv => whnf)
        | (refine d1.call ⟨rfl, rfl⟩ ?_; conv => whnf)
        | (refine d2.call ⟨rfl, rfl⟩ ?_; conv => whnf)
        | (refine (key false (((w : Int) * 1000)) true (by unfold numN; rw [if_neg (by simp)]; omega) rfl _ (txt_a rfl _)).callB ?_; conv => whnf)
        | (refine Elem.mk 2 _ rfl rfl ?_; conv => whnf)
        | (refine (sm (((w : Int) * 1000)) true).call ⟨rfl, rfl, rfl⟩ ?_; conv => whnf)
        | (refine (sm (((w : Int) * 1000)) true).callB ⟨rfl, rfl, rfl⟩ ?_; conv => whnf)
        | (refine Owes.mk (by first | (simp only [ByteArray.size_append, ByteArray.size_extract, bszB, List.size_toArray, List.length_cons, List.length_nil, List.length_append, List.length_map]; omega) | (simp only [ByteArray.size_append, bszB, List.size_toArray, List.length_cons, List.length_nil]; done) | fail "x") ?_; conv => whnf)
        | (refine step_kinds 2 ?hk ?_; (case hk => decide +kernel); conv => whnf)
        | (refine step_kinds 3 ?hk ?_; (case hk => decide +kernel); conv => whnf)
        | (refine step_auto 2 ?hk ?_; (case hk => decide +kernel); conv => whnf)
        | (refine step_auto 3 ?hk ?_; (case hk => decide +kernel); conv => whnf)
        | (refine V2.step_auto 2 ?hk ?_; (case hk => decide +kernel); conv => whnf)
        | (refine V2.step_auto 3 ?hk ?_; (case hk => decide +kernel); conv => whnf)
        | (refine Num.id (by omega) (by omega) ?_; conv => whnf)
        | (refine Case.strI (fun _ => ?_) (fun _ => ?_) <;> conv => whnf)
        | (refine Both.mk ?_ ?_ <;> conv => whnf)
        | (refine Case.dec (fun _ => ?_) (fun _ => ?_) <;> conv => whnf)
        | (refine Case.beqI (fun _ => ?_) (fun _ => ?_) <;> conv => whnf)
        | (refine Case.mk (fun _ => ?_) (fun _ => ?_) <;> conv => whnf)
        | (refine Way.fst ?_; conv => whnf)
      all_goals exact Fin.isB rfl
    ·
      repeat' first
        | (refine Case.not ?_; conv => whnf)
        | (refine Case.yes ?_; conv => whnf)
        | (refine Case.no ?_; conv => whnf)
        | (refine Case.isTrue (by assumption) ?_; conv => whnf)
        | (refine Case.isFalse (by assumption) ?_; conv => whnf)
        | (refine Case.decT (by assumption) ?_; conv => whnf)
        | (refine Case.decF (by assumption) ?_; conv => whnf)
        | (refine Case.decT (by omega) ?_; conv => whnf)
        | (refine Case.decF (by omega) ?_; conv => whnf)
        | (refine Case.beqT (by omega) ?_; conv => whnf)
        | (refine Case.beqF (by omega) ?_; conv => whnf)
        | (refine Case.strT (by assumption) ?_; conv => whnf)
        | (refine Case.strF (by assumption) ?_; conv => whnf)
        | (refine Case.strF (by simp only [*]; decide) ?_; conv => whnf)
        | (refine alive4_spec.call rfl ?_; conv => whnf)
        | (refine d1.call ⟨rfl, rfl⟩ ?_; conv => whnf)
        | (refine d2.call ⟨rfl, rfl⟩ ?_; conv => whnf)
        | (refine (key true (0 - ((w : Int) * 1000)) true (by unfold numN; rw [if_pos rfl]; omega) rfl _ (txt_b rfl _)).callB ?_; conv => whnf)
        | (refine Elem.mk 2 _ rfl rfl ?_; conv => whnf)
        | (refine (sm (0 - ((w : Int) * 1000)) true).call ⟨rfl, rfl, rfl⟩ ?_; conv => whnf)
        | (refine (sm (0 - ((w : Int) * 1000)) true).callB ⟨rfl, rfl, rfl⟩ ?_; conv => whnf)
        | (refine Owes.mk (by first | (simp only [ByteArray.size_append, ByteArray.size_extract, bszB, List.size_toArray, List.length_cons, List.length_nil, List.length_append, List.length_map]; omega) | (simp only [ByteArray.size_append, bszB, List.size_toArray, List.length_cons, List.length_nil]; done) | fail "x") ?_; conv => whnf)
        | (refine step_kinds 2 ?hk ?_; (case hk => decide +kernel); conv => whnf)
        | (refine step_kinds 3 ?hk ?_; (case hk => decide +kernel); conv => whnf)
        | (refine step_auto 2 ?hk ?_; (case hk => decide +kernel); conv => whnf)
        | (refine step_auto 3 ?hk ?_; (case hk => decide +kernel); conv => whnf)
        | (refine V2.step_auto 2 ?hk ?_; (case hk => decide +kernel); conv => whnf)
        | (refine V2.step_auto 3 ?hk ?_; (case hk => decide +kernel); conv => whnf)
        | (refine Num.id (by omega) (by omega) ?_; conv => whnf)
        | (refine Case.strI (fun _ => ?_) (fun _ => ?_) <;> conv => whnf)
        | (refine Both.mk ?_ ?_ <;> conv => whnf)
        | (refine Case.dec (fun _ => ?_) (fun _ => ?_) <;> conv => whnf)
        | (refine Case.beqI (fun _ => ?_) (fun _ => ?_) <;> conv => whnf)
        | (refine Case.mk (fun _ => ?_) (fun _ => ?_) <;> conv => whnf)
        | (refine Way.fst ?_; conv => whnf)
      all_goals exact Fin.isB rfl
  · cases neg
    ·
      repeat' first
        | (refine Case.not ?_; conv => whnf)
        | (refine Case.yes ?_; conv => whnf)
        | (refine Case.no ?_; conv => whnf)
        | (refine Case.isTrue (by assumption) ?_; conv => whnf)
        | (refine Case.isFalse (by assumption) ?_; conv => whnf)
        | (refine Case.decT (by assumption) ?_; conv => whnf)
        | (refine Case.decF (by assumption) ?_; conv => whnf)
        | (refine Case.decT (by omega) ?_; conv => whnf)
        | (refine Case.decF (by omega) ?_; conv => whnf)
        | (refine Case.beqT (by omega) ?_; conv => whnf)
        | (refine Case.beqF (by omega) ?_; conv => whnf)
        | (refine Case.strT (by assumption) ?_; conv => whnf)
        | (refine Case.strF (by assumption) ?_; conv => whnf)
        | (refine Case.strF (by simp only [*]; decide) ?_; conv => whnf)
        | (refine alive4_spec.call rfl ?_; conv => whnf)
        | (refine d1.call ⟨rfl, rfl⟩ ?_; conv => whnf)
        | (refine d2.call ⟨rfl, rfl⟩ ?_; conv => whnf)
        | (refine (key false (((w : Int) * 1000 + (x : Int))) (decide ((x : Int) = 0)) (by unfold numN; rw [if_neg (by simp)]; omega) (by simp) _ (txt_c h0 _)).callB ?_; conv => whnf)
        | (refine Elem.mk 2 _ rfl rfl ?_; conv => whnf)
        | (refine (sm (((w : Int) * 1000 + (x : Int))) (decide ((x : Int) = 0))).call ⟨rfl, rfl, rfl⟩ ?_; conv => whnf)
        | (refine (sm (((w : Int) * 1000 + (x : Int))) (decide ((x : Int) = 0))).callB ⟨rfl, rfl, rfl⟩ ?_; conv => whnf)
        | (refine Owes.mk (by first | (simp only [ByteArray.size_append, ByteArray.size_extract, bszB, List.size_toArray, List.length_cons, List.length_nil, List.length_append, List.length_map]; omega) | (simp only [ByteArray.size_append, bszB, List.size_toArray, List.length_cons, List.length_nil]; done) | fail "x") ?_; conv => whnf)
        | (refine step_kinds 2 ?hk ?_; (case hk => decide +kernel); conv => whnf)
        | (refine step_kinds 3 ?hk ?_; (case hk => decide +kernel); conv => whnf)
        | (refine step_auto 2 ?hk ?_; (case hk => decide +kernel); conv => whnf)
        | (refine step_auto 3 ?hk ?_; (case hk => decide +kernel); conv => whnf)
        | (refine V2.step_auto 2 ?hk ?_; (case hk => decide +kernel); conv => whnf)
        | (refine V2.step_auto 3 ?hk ?_; (case hk => decide +kernel); conv => whnf)
        | (refine Num.id (by omega) (by omega) ?_; conv => whnf)
        | (refine Case.strI (fun _ => ?_) (fun _ => ?_) <;> conv => whnf)
        | (refine Both.mk ?_ ?_ <;> conv => whnf)
        | (refine Case.dec (fun _ => ?_) (fun _ => ?_) <;> conv => whnf)
        | (refine Case.beqI (fun _ => ?_) (fun _ => ?_) <;> conv => whnf)
        | (refine Case.mk (fun _ => ?_) (fun _ => ?_) <;> conv => whnf)
        | (refine Way.fst ?_; conv => whnf)
      all_goals exact Fin.isB rfl
    ·
      repeat' first
        | (refine Case.not ?_; conv => whnf)
        | (refine Case.yes ?_; conv => whnf)
        | (refine Case.no ?_; conv => whnf)
        | (refine Case.isTrue (by assumption) ?_; conv => whnf)
        | (refine Case.isFalse (by assumption) ?_; conv => whnf)
        | (refine Case.decT (by assumption) ?_; conv => whnf)
        | (refine Case.decF (by assumption) ?_; conv => whnf)
        | (refine Case.decT (by omega) ?_; conv => whnf)
        | (refine Case.decF (by omega) ?_; conv => whnf)
        | (refine Case.beqT (by omega) ?_; conv => whnf)
        | (refine Case.beqF (by omega) ?_; conv => whnf)
        | (refine Case.strT (by assumption) ?_; conv => whnf)
        | (refine Case.strF (by assumption) ?_; conv => whnf)
        | (refine Case.strF (by simp only [*]; decide) ?_; conv => whnf)
        | (refine alive4_spec.call rfl ?_; conv => whnf)
        | (refine d1.call ⟨rfl, rfl⟩ ?_; conv => whnf)
        | (refine d2.call ⟨rfl, rfl⟩ ?_; conv => whnf)
        | (refine (key true (0 - ((w : Int) * 1000 + (x : Int))) (decide ((x : Int) = 0)) (by unfold numN; rw [if_pos rfl]; omega) (by simp) _ (txt_d h0 _)).callB ?_; conv => whnf)
        | (refine Elem.mk 2 _ rfl rfl ?_; conv => whnf)
        | (refine (sm (0 - ((w : Int) * 1000 + (x : Int))) (decide ((x : Int) = 0))).call ⟨rfl, rfl, rfl⟩ ?_; conv => whnf)
        | (refine (sm (0 - ((w : Int) * 1000 + (x : Int))) (decide ((x : Int) = 0))).callB ⟨rfl, rfl, rfl⟩ ?_; conv => whnf)
        | (refine Owes.mk (by first | (simp only [ByteArray.size_append, ByteArray.size_extract, bszB, List.size_toArray, List.length_cons, List.length_nil, List.length_append, List.length_map]; omega) | (simp only [ByteArray.size_append, bszB, List.size_toArray, List.length_cons, List.length_nil]; done) | fail "x") ?_; conv => whnf)
        | (refine step_kinds 2 ?hk ?_; (case hk => decide +kernel); conv => whnf)
        | (refine step_kinds 3 ?hk ?_; (case hk => decide +kernel); conv => whnf)
        | (refine step_auto 2 ?hk ?_; (case hk => decide +kernel); conv => whnf)
        | (refine step_auto 3 ?hk ?_; (case hk => decide +kernel); conv => whnf)
        | (refine V2.step_auto 2 ?hk ?_; (case hk => decide +kernel); conv => whnf)
        | (refine V2.step_auto 3 ?hk ?_; (case hk => decide +kernel); conv => whnf)
        | (refine Num.id (by omega) (by omega) ?_; conv => whnf)
        | (refine Case.strI (fun _ => ?_) (fun _ => ?_) <;> conv => whnf)
        | (refine Both.mk ?_ ?_ <;> conv => whnf)
        | (refine Case.dec (fun _ => ?_) (fun _ => ?_) <;> conv => whnf)
        | (refine Case.beqI (fun _ => ?_) (fun _ => ?_) <;> conv => whnf)
        | (refine Case.mk (fun _ => ?_) (fun _ => ?_) <;> conv => whnf)
        | (refine Way.fst ?_; conv => whnf)
      all_goals exact Fin.isB rfl
end Go.Proofs.YtdenafhfngnlfaaDoor.Aw
