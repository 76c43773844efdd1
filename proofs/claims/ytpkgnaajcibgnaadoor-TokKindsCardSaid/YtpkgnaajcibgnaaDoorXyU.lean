/- The text of a token. -/
import Derived.Test.YtpkgnaajcibgnaaDoorXyT
import Derived.Test.YtpkgnaajcibgnaaDoorAwW
import Derived.Test.YtpkgnaajcibgnaaDoorXkV
namespace Go.Proofs.YtpkgnaajcibgnaaDoor.Aw
open Go Go.RowKit Go.Lib
set_option linter.unusedVariables false
set_option linter.unusedSimpArgs false
set_option maxRecDepth 100000
theorem yitoa (n : Int) (h0 : -9223372036854775808 ≤ n) (h1 : n ≤ 9223372036854775807) : Pure 63 [int n] (.str ⟨(itoa n).toArray⟩) :=
  pure_of_callsL (xs := [.int .i64 n]) (y := .string ⟨(itoa n).toArray⟩) ⟨_, Tryd.func63, by rfl, rfl⟩ trivial (fun _ _ => rep_of _ rfl) fun w ht =>
    (Tryd.strconv_Itoa n h0 h1 w ht.pow).mono fun e w' ⟨h2, k, os, h3⟩ => ⟨h2, by rw [h3]; exact below_grow _ w (Nat.le_refl _) k os⟩
def posT (a : Nat) : List UInt8 := decDigits (a / 1000) ++ (if a % 1000 = 0 then [] else 46 :: (decDigits (1000 + a % 1000)).drop 1)
/-- The text of a number. -/
def numTx (n : Int) : List UInt8 := (if cap n < 0 then [45] else []) ++ posT (cap n).natAbs
theorem dec_len : ∀ (k u : Nat), u < 10 ^ (k + 1) → (decDigits u).length ≤ k + 1
  | 0, u, h => by rw [dec_small (by simpa using h)]; simp
  | k + 1, u, h => by
    by_cases hu : u < 10
    · rw [dec_small hu]; simp
    · rw [dec_big hu]
      have := dec_len k (u / 10) (by rw [Nat.div_lt_iff_lt_mul (by omega)]; rw [Nat.pow_succ] at h; exact h)
      simp; omega
theorem itoa_dec (u : Nat) : itoa (u : Int) = decDigits u := by
  unfold itoa
  rw [if_neg (by omega)]
  rfl
theorem num_len (n : Int) : (numTx n).length ≤ 50 := by
  unfold numTx posT
  have hc : (cap n).natAbs ≤ 2147483647 := by unfold cap; (repeat' split) <;> omega
  obtain ⟨a, ha⟩ : ∃ a, a = (cap n).natAbs := ⟨_, rfl⟩
  rw [← ha] at hc ⊢
  have p1 : (10 : Nat) ^ (18 + 1) = 10000000000000000000 := by decide
  have p2 : (10 : Nat) ^ (3 + 1) = 10000 := by decide
  have h1 := dec_len 18 (a / 1000) (by omega)
  have h2 := dec_len 3 (1000 + a % 1000) (by omega)
  have e1 : ((if cap n < 0 then [45] else [] : List UInt8)).length ≤ 1 := by split <;> simp
  have e2 : ((if a % 1000 = 0 then [] else 46 :: (decDigits (1000 + a % 1000)).drop 1 : List UInt8)).length ≤ 4 := by split <;> simp <;> omega
  simp only [List.length_append]
  omega
theorem bsz (a : Array UInt8) : (⟨a⟩ : ByteArray).size = a.size := rfl
theorem mk_app (a b : List UInt8) : (⟨a.toArray⟩ : ByteArray) ++ ⟨b.toArray⟩ = ⟨(a ++ b).toArray⟩ := by
  apply ByteArray.ext
  simp
theorem Byt.tail {s : List UInt8} : (⟨s.toArray⟩ : ByteArray).size = s.length := rfl
theorem Fin.isS {x y : ByteArray} {H : Hp} {n n0 : Nat} (e : x = y) : Fin (.str x) H n 0 n0 (fun d H => H = [] ∧ d = .str y) := Fin.scal trivial ⟨rfl, by rw [e]⟩
theorem cap_bd (n : Int) : -2147483647 ≤ cap n ∧ cap n ≤ 2147483647 := by
  unfold cap
  (repeat' split) <;> omega
set_option maxHeartbeats 1000000 in
theorem ynumText (n : Int) : Pure 51 [int n] (.str ⟨(numTx n).toArray⟩) := by
  have hc := cap_bd n
  have hc0 := ycap n
  obtain ⟨c, hcn⟩ : ∃ c, c = cap n := ⟨_, rfl⟩
  rw [← hcn] at hc hc0
  rw [show numTx n = (if c < 0 then [45] else []) ++ posT c.natAbs by rw [hcn]; rfl]
  refine .mk trivial (spec_mk tab_ok Tryd.func51 (by rfl) rfl ?_)
  conv => whnf
  by_cases hneg : c < 0
  · obtain ⟨a, ha⟩ : ∃ a : Nat, 0 - c = a := ⟨(0 - c).toNat, by omega⟩
    have hna : c.natAbs = a := by omega
    have t1 : Int.tdiv (0 - c) 1000 = ((a / 1000 : Nat) : Int) := by rw [ha]; exact (Int.ofNat_tdiv a 1000).symm
    have t2 : Int.tmod (0 - c) 1000 = ((a % 1000 : Nat) : Int) := by rw [ha]; exact (Int.ofNat_tmod a 1000).symm
    have i1 := yitoa (Int.tdiv (0 - c) 1000) (by omega) (by omega)
    rw [show itoa (Int.tdiv (0 - c) 1000) = decDigits (a / 1000) by rw [t1, itoa_dec]] at i1
    have l1 := dec_len 18 (a / 1000) (by have : (10 : Nat) ^ (18 + 1) = 10000000000000000000 := by decide
                                         omega)
    have z1 : (⟨(decDigits (a / 1000)).toArray⟩ : ByteArray).size = (decDigits (a / 1000)).length := rfl
    have i2 := yitoa (1000 + Int.tmod (0 - c) 1000) (by omega) (by omega)
    rw [show itoa (1000 + Int.tmod (0 - c) 1000) = decDigits (1000 + a % 1000) by rw [t2, show (1000 : Int) + ((a % 1000 : Nat) : Int) = ((1000 + a % 1000 : Nat) : Int) by omega, itoa_dec]] at i2
    have l2 := dec_len 3 (1000 + a % 1000) (by have : (10 : Nat) ^ (3 + 1) = 10000 := by decide
                                               omega)
    have l3 : 1 ≤ (decDigits (1000 + a % 1000)).length := by
      have := dec_ne (1000 + a % 1000)
      cases h : decDigits (1000 + a % 1000) with
      | nil => exact absurd h this
      | cons _ _ => simp
    have z2 : (⟨(decDigits (1000 + a % 1000)).toArray⟩ : ByteArray).size = (decDigits (1000 + a % 1000)).length := rfl
    by_cases hr : a % 1000 = 0
    ·
      repeat' first
        | (refine Case.not ?_; conv => whnf)
        | (refine Case.yes ?_; conv => whnf)
        | (refine Case.no ?_; conv => whnf)
        | (refine Case.isTrue (by assumption) ?_; conv => whnf)
        | (refine Case.isFalse (by assumption) ?_; conv => whnf)
        | (refine Case.decT (by assumption) ?_; conv => whnf)
        | (refine Case.decF (by assumption) ?_; conv => whnf)
        | (refine Case.decT (by omega) ?_; conv => whnf)
        | (refine Case.decF (by omega) ?_; conv => whnf)
        | (refine Case.beqT (by omega) ?_; conv => whnf)
        | (refine Case.beqF (by omega) ?_; conv => whnf)
        | (refine Case.strT (by assumption) ?_; conv => whnf)
        | (refine Case.strF (by assumption) ?_; conv => whnf)
        | (refine Case.strF (by simp only [*]; decide) ?_; conv => whnf)
        | (refine step_kinds 2 ?hk ?_; (case hk => decide +kernel); conv => whnf)
        | (refine step_kinds 3 ?hk ?_; (case hk => decide +kernel); conv => whnf)
        | (refine step_auto 2 ?hk ?_; (case hk => decide +kernel); conv => whnf)
        | (refine step_auto 3 ?hk ?_; (case hk => decide +kernel); conv => whnf)
        | (refine hc0.call ⟨rfl, rfl⟩ ?_; conv => whnf)
        | (refine i1.call ⟨rfl, rfl⟩ ?_; conv => whnf)
        | (refine Owes.mk (by decide) ?_; conv => whnf)
        | (refine Owes.mk (by first | (simp only [ByteArray.size_append, ByteArray.size_extract, bsz, List.size_toArray, List.length_cons, List.length_nil, List.length_append, List.length_map]; omega) | (simp only [ByteArray.size_append, ByteArray.size_extract, bsz, List.size_toArray, List.length_cons, List.length_nil]; done) | fail "x") ?_; conv => whnf)
        | (refine Num.id (by omega) (by omega) ?_; conv => whnf)
        | (refine Case.strI (fun _ => ?_) (fun _ => ?_) <;> conv => whnf)
        | (refine Both.mk ?_ ?_ <;> conv => whnf)
        | (refine Case.dec (fun _ => ?_) (fun _ => ?_) <;> conv => whnf)
        | (refine Case.beqI (fun _ => ?_) (fun _ => ?_) <;> conv => whnf)
        | (refine Case.mk (fun _ => ?_) (fun _ => ?_) <;> conv => whnf)
        | (refine Way.fst ?_; conv => whnf)
      refine Fin.isS ?_
      unfold posT
      rw [hna, if_pos hr]
      apply ByteArray.ext
      simp [hneg]
    ·
      repeat' first
        | (refine Case.not ?_; conv => whnf)
        | (refine Case.yes ?_; conv => whnf)
        | (refine Case.no ?_; conv => whnf)
        | (refine Case.isTrue (by assumption) ?_; conv => whnf)
        | (refine Case.isFalse (by assumption) ?_; conv => whnf)
        | (refine Case.decT (by assumption) ?_; conv => whnf)
        | (refine Case.decF (by assumption) ?_; conv => whnf)
        | (refine Case.decT (by omega) ?_; conv => whnf)
        | (refine Case.decF (by omega) ?_; conv => whnf)
        | (refine Case.beqT (by omega) ?_; conv => whnf)
        | (refine Case.beqF (by omega) ?_; conv => whnf)
        | (refine Case.strT (by assumption) ?_; conv => whnf)
        | (refine Case.strF (by assumption) ?_; conv => whnf)
        | (refine Case.strF (by simp only [*]; decide) ?_; conv => whnf)
        | (refine step_kinds 2 ?hk ?_; (case hk => decide +kernel); conv => whnf)
        | (refine step_kinds 3 ?hk ?_; (case hk => decide +kernel); conv => whnf)
        | (refine step_auto 2 ?hk ?_; (case hk => decide +kernel); conv => whnf)
        | (refine step_auto 3 ?hk ?_; (case hk => decide +kernel); conv => whnf)
        | (refine hc0.call ⟨rfl, rfl⟩ ?_; conv => whnf)
        | (refine i1.call ⟨rfl, rfl⟩ ?_; conv => whnf)
        | (refine i2.call ⟨rfl, rfl⟩ ?_; conv => whnf)
        | (refine Owes.mk (by decide) ?_; conv => whnf)
        | (refine Owes.mk (by first | (simp only [ByteArray.size_append, ByteArray.size_extract, bsz, List.size_toArray, List.length_cons, List.length_nil, List.length_append, List.length_map]; omega) | (simp only [ByteArray.size_append, ByteArray.size_extract, bsz, List.size_toArray, List.length_cons, List.length_nil]; done) | fail "x") ?_; conv => whnf)
        | (refine Owes.mk (by first | (simp only [ByteArray.size_append, ByteArray.size_extract, bsz, List.size_toArray, List.length_cons, List.length_nil, List.length_append, List.length_map]; omega) | (simp only [ByteArray.size_append, ByteArray.size_extract, bsz, List.size_toArray, List.length_cons, List.length_nil]; done) | fail "x") ?_; conv => whnf)
        | (refine Num.id (by omega) (by omega) ?_; conv => whnf)
        | (refine Case.strI (fun _ => ?_) (fun _ => ?_) <;> conv => whnf)
        | (refine Both.mk ?_ ?_ <;> conv => whnf)
        | (refine Case.dec (fun _ => ?_) (fun _ => ?_) <;> conv => whnf)
        | (refine Case.beqI (fun _ => ?_) (fun _ => ?_) <;> conv => whnf)
        | (refine Case.mk (fun _ => ?_) (fun _ => ?_) <;> conv => whnf)
        | (refine Way.fst ?_; conv => whnf)
      refine Fin.isS ?_
      unfold posT
      rw [hna, if_neg hr]
      have e5 : (decDigits (1000 + a % 1000)).tail.take ((decDigits (1000 + a % 1000)).length - 1) = (decDigits (1000 + a % 1000)).tail := List.take_of_length_le (by simp)
      apply ByteArray.ext
      simp [hneg, z2, e5]
  · obtain ⟨a, ha⟩ : ∃ a : Nat, c = a := ⟨c.toNat, by omega⟩
    have hna : c.natAbs = a := by omega
    have t1 : Int.tdiv (c) 1000 = ((a / 1000 : Nat) : Int) := by rw [ha]; exact (Int.ofNat_tdiv a 1000).symm
    have t2 : Int.tmod (c) 1000 = ((a % 1000 : Nat) : Int) := by rw [ha]; exact (Int.ofNat_tmod a 1000).symm
    have i1 := yitoa (Int.tdiv (c) 1000) (by omega) (by omega)
    rw [show itoa (Int.tdiv (c) 1000) = decDigits (a / 1000) by rw [t1, itoa_dec]] at i1
    have l1 := dec_len 18 (a / 1000) (by have : (10 : Nat) ^ (18 + 1) = 10000000000000000000 := by decide
                                         omega)
    have z1 : (⟨(decDigits (a / 1000)).toArray⟩ : ByteArray).size = (decDigits (a / 1000)).length := rfl
    have i2 := yitoa (1000 + Int.tmod (c) 1000) (by omega) (by omega)
    rw [show itoa (1000 + Int.tmod (c) 1000) = decDigits (1000 + a % 1000) by rw [t2, show (1000 : Int) + ((a % 1000 : Nat) : Int) = ((1000 + a % 1000 : Nat) : Int) by omega, itoa_dec]] at i2
    have l2 := dec_len 3 (1000 + a % 1000) (by have : (10 : Nat) ^ (3 + 1) = 10000 := by decide
                                               omega)
    have l3 : 1 ≤ (decDigits (1000 + a % 1000)).length := by
      have := dec_ne (1000 + a % 1000)
      cases h : decDigits (1000 + a % 1000) with
      | nil => exact absurd h this
      | cons _ _ => simp
    have z2 : (⟨(decDigits (1000 + a % 1000)).toArray⟩ : ByteArray).size = (decDigits (1000 + a % 1000)).length := rfl
    by_cases hr : a % 1000 = 0
    ·
      repeat' first
        | (refine Case.not ?_; conv => whnf)
        | (refine Case.yes ?_; conv => whnf)
        | (refine Case.no ?_; conv => whnf)
        | (refine Case.isTrue (by assumption) ?_; conv => whnf)
        | (refine Case.isFalse (by assumption) ?_; conv => whnf)
        | (refine Case.decT (by assumption) ?_; conv => whnf)
        | (refine Case.decF (by assumption) ?_; conv => whnf)
        | (refine Case.decT (by omega) ?_; conv => whnf)
        | (refine Case.decF (by omega) ?_; conv => whnf)
        | (refine Case.beqT (by omega) ?_; conv => whnf)
        | (refine Case.beqF (by omega) ?_; conv => whnf)
        | (refine Case.strT (by assumption) ?_; conv => whnf)
        | (refine Case.strF (by assumption) ?_; conv => whnf)
        | (refine Case.strF (by simp only [*]; decide) ?_; conv => whnf)
        | (refine step_kinds 2 ?hk ?_; (case hk => decide +kernel); conv => whnf)
        | (refine step_kinds 3 ?hk ?_; (case hk => decide +kernel); conv => whnf)
        | (refine step_auto 2 ?hk ?_; (case hk => decide +kernel); conv => whnf)
        | (refine step_auto 3 ?hk ?_; (case hk => decide +kernel); conv => whnf)
        | (refine hc0.call ⟨rfl, rfl⟩ ?_; conv => whnf)
        | (refine i1.call ⟨rfl, rfl⟩ ?_; conv => whnf)
        | (refine Owes.mk (by decide) ?_; conv => whnf)
        | (refine Owes.mk (by first | (simp only [ByteArray.size_append, ByteArray.size_extract, bsz, List.size_toArray, List.length_cons, List.length_nil, List.length_append, List.length_map]; omega) | (simp only [ByteArray.size_append, ByteArray.size_extract, bsz, List.size_toArray, List.length_cons, List.length_nil]; done) | fail "x") ?_; conv => whnf)
        | (refine Num.id (by omega) (by omega) ?_; conv => whnf)
        | (refine Case.strI (fun _ => ?_) (fun _ => ?_) <;> conv => whnf)
        | (refine Both.mk ?_ ?_ <;> conv => whnf)
        | (refine Case.dec (fun _ => ?_) (fun _ => ?_) <;> conv => whnf)
        | (refine Case.beqI (fun _ => ?_) (fun _ => ?_) <;> conv => whnf)
        | (refine Case.mk (fun _ => ?_) (fun _ => ?_) <;> conv => whnf)
        | (refine Way.fst ?_; conv => whnf)
      refine Fin.isS ?_
      unfold posT
      rw [hna, if_pos hr]
      apply ByteArray.ext
      simp [hneg]
    ·
      repeat' first
        | (refine Case.not ?_; conv => whnf)
        | (refine Case.yes ?_; conv => whnf)
        | (refine Case.no ?_; conv => whnf)
        | (refine Case.isTrue (by assumption) ?_; conv => whnf)
        | (refine Case.isFalse (by assumption) ?_; conv => whnf)
        | (refine Case.decT (by assumption) ?_; conv => whnf)
        | (refine Case.decF (by assumption) ?_; conv => whnf)
        | (refine Case.decT (by omega) ?_; conv => whnf)
        | (refine Case.decF (by omega) ?_; conv => whnf)
        | (refine Case.beqT (by omega) ?_; conv => whnf)
        | (refine Case.beqF (by omega) ?_; conv => whnf)
        | (refine Case.strT (by assumption) ?_; conv => whnf)
        | (refine Case.strF (by assumption) ?_; conv => whnf)
        | (refine Case.strF (by simp only [*]; decide) ?_; conv => whnf)
        | (refine step_kinds 2 ?hk ?_; (case hk => decide +kernel); conv => whnf)
        | (refine step_kinds 3 ?hk ?_; (case hk => decide +kernel); conv => whnf)
        | (refine step_auto 2 ?hk ?_; (case hk => decide +kernel); conv => whnf)
        | (refine step_auto 3 ?hk ?_; (case hk => decide +kernel); conv => whnf)
        | (refine hc0.call ⟨rfl, rfl⟩ ?_; conv => whnf)
        | (refine i1.call ⟨rfl, rfl⟩ ?_; conv => whnf)
        | (refine i2.call ⟨rfl, rfl⟩ ?_; conv => whnf)
        | (refine Owes.mk (by decide) ?_; conv => whnf)
        | (refine Owes.mk (by first | (simp only [ByteArray.size_append, ByteArray.size_extract, bsz, List.size_toArray, List.length_cons, List.length_nil, List.length_append, List.length_map]; omega) | (simp only [ByteArray.size_append, ByteArray.size_extract, bsz, List.size_toArray, List.length_cons, List.length_nil]; done) | fail "x") ?_; conv => whnf)
        | (refine Owes.mk (by first | (simp only [ByteArray.size_append, ByteArray.size_extract, bsz, List.size_toArray, List.length_cons, List.length_nil, List.length_append, List.length_map]; omega) | (simp only [ByteArray.size_append, ByteArray.size_extract, bsz, List.size_toArray, List.length_cons, List.length_nil]; done) | fail "x") ?_; conv => whnf)
        | (refine Num.id (by omega) (by omega) ?_; conv => whnf)
        | (refine Case.strI (fun _ => ?_) (fun _ => ?_) <;> conv => whnf)
        | (refine Both.mk ?_ ?_ <;> conv => whnf)
        | (refine Case.dec (fun _ => ?_) (fun _ => ?_) <;> conv => whnf)
        | (refine Case.beqI (fun _ => ?_) (fun _ => ?_) <;> conv => whnf)
        | (refine Case.mk (fun _ => ?_) (fun _ => ?_) <;> conv => whnf)
        | (refine Way.fst ?_; conv => whnf)
      refine Fin.isS ?_
      unfold posT
      rw [hna, if_neg hr]
      have e5 : (decDigits (1000 + a % 1000)).tail.take ((decDigits (1000 + a % 1000)).length - 1) = (decDigits (1000 + a % 1000)).tail := List.take_of_length_le (by simp)
      apply ByteArray.ext
      simp [hneg, z2, e5]
/-! The text of one token. -/
def K10 : List Int := [9, 11, 12, 13, 14, 15, 16, 17, 18, 19]
def P10 : List UInt8 := [32, 58, 59, 44, 123, 125, 40, 41, 91, 93]
theorem idx_K10 (x : Int) : -1 ≤ idxOf K10 x ∧ idxOf K10 x < 10 := by
  unfold idxOf K10
  simp only [idxFrom]
  (repeat' split) <;> decide
theorem yindexI (zs : List Int) (x : Int) (hl : zs.length < 1000000) : Pure 53 [.f (.sl (ptsF zs)), int x] (int (idxOf zs x)) :=
  ⟨trivial, ⟨_, Tryd.func53, by rfl, rfl⟩, fun c w vs hC hr => by
    have hp := ptsF_length zs
    obtain ⟨v, vs', rfl, h1, h2⟩ : ∃ v vs', vs = v :: vs' ∧ Rep c w (.f (.sl (ptsF zs))) v ∧ RepL c w [int x] vs' := by unfold RepL at hr; exact hr
    obtain ⟨u, us', rfl, h3, h4⟩ : ∃ v us', vs' = v :: us' ∧ Rep c w (int x) v ∧ RepL c w [] us' := by unfold RepL at h2; exact h2
    unfold RepL at h4
    subst h4
    have h3 := rep_v h3
    subst h3
    obtain ⟨hC', hk⟩ := hC.grow (Below.refl w.heap.size w)
    unfold Rep RepF at h1
    rcases h1 with ⟨⟨a, rfl⟩, he⟩ | ⟨b, o, cap, rfl, hc, him, hrr⟩
    · have hl0 : zs = [] := by
        rw [he] at hp
        exact List.eq_nil_of_length_eq_zero hp.symm
      subst hl0
      refine (Tryd.slices_Index_int_empty a 0 x w).mono ?_
      rintro e w' ⟨rfl, rfl⟩
      exact ⟨_, _, [], c, ⟨rfl, rfl⟩, rfl, rfl, hC', rep_of _ rfl⟩
    · rw [hp]
      refine (Tryd.slices_Index_int b o zs.length cap zs x w (Nat.le_refl _) (by omega) (fun j hj => ?_)).mono ?_
      · have hg : (ptsF zs)[j]? = some [.v (.int .i64 (zs.getD j 0))] := ptsF_get (by rw [List.getD_eq_getElem?_getD, List.getElem?_eq_getElem hj]; simp)
        have h3 := hrr.get ptsF_row j _ hg
        unfold RepC at h3
        obtain ⟨⟨y, h4, h5⟩, _⟩ := h3
        unfold RepF at h5
        rw [h5.1] at h4
        simpa using h4
      · rintro e w' ⟨rfl, rfl⟩
        rw [List.take_of_length_le (Nat.le_refl _)]
        exact ⟨_, _, [], c, ⟨rfl, rfl⟩, rfl, rfl, hC', rep_of _ rfl⟩⟩
def oneB (t : Tok) : List UInt8 :=
  if t.kind = 1 then t.text else if t.kind = 2 then 64 :: t.text else if t.kind = 3 then 35 :: t.text else if t.kind = 4 then 34 :: (t.text ++ [34]) else if t.kind = 5 then 34 :: (t.text ++ [34])
  else if t.kind = 6 then numTx t.n else if t.kind = 7 then numTx t.n ++ [37] else if t.kind = 8 then numTx t.n ++ t.text else if t.kind = 20 then t.text ++ [40] else if t.kind = 10 then bytesOf [t.c]
  else if 0 ≤ idxOf K10 t.kind then (P10.take (idxOf K10 t.kind + 1).toNat).drop (idxOf K10 t.kind).toNat else []
set_option maxHeartbeats 2000000 in
theorem yone (t : Tok) (ht : t.text.length < 1000000000) : Pure 39 [t.d] (.str ⟨(oneB t).toArray⟩) := by
  have hn := ynumText t.n
  have hl := num_len t.n
  have hi := yindexI K10 t.kind (by decide)
  have hb := idx_K10 t.kind
  have z1 : (⟨t.text.toArray⟩ : ByteArray).size = t.text.length := rfl
  have z2 : (⟨(numTx t.n).toArray⟩ : ByteArray).size = (numTx t.n).length := rfl
  refine .mk trivial (spec_mk tab_ok Tryd.func39 (by rfl) rfl ?_)
  conv => whnf
  repeat' first
    | (refine Case.not ?_; conv => whnf)
    | (refine Case.yes ?_; conv => whnf)
    | (refine Case.no ?_; conv => whnf)
    | (refine Case.isTrue (by assumption) ?_; conv => whnf)
    | (refine Case.isFalse (by assumption) ?_; conv => whnf)
    | (refine Case.decT (by assumption) ?_; conv => whnf)
    | (refine Case.decF (by assumption) ?_; conv => whnf)
    | (refine Case.decT (by omega) ?_; conv => whnf)
    | (refine Case.decF (by omega) ?_; conv => whnf)
    | (refine Case.beqT (by omega) ?_; conv => whnf)
    | (refine Case.beqF (by omega) ?_; conv => whnf)
    | (refine Case.strT (by assumption) ?_; conv => whnf)
    | (refine Case.strF (by assumption) ?_; conv => whnf)
    | (refine Case.strF (by simp only [*]; decide) ?_; conv => whnf)
    | (refine Owes.mk (by first | (simp only [ByteArray.size_append, ByteArray.size_extract, bsz, List.size_toArray, List.length_cons, List.length_nil, List.length_append, List.length_map]; omega) | (simp only [ByteArray.size_append, ByteArray.size_extract, bsz, List.size_toArray, List.length_cons, List.length_nil]; done) | fail "x") ?_; conv => whnf)
    | (refine hn.call ⟨rfl, rfl⟩ ?_; conv => whnf)
    | (refine hn.callB ⟨rfl, rfl⟩ ?_; conv => whnf)
    | (refine hi.call ⟨rfl, rfl, rfl⟩ ?_; conv => whnf)
    | (refine ybytes_call (l := [t.c]) (by omega) (by simp) ?_; conv => whnf)
    | (refine AsBytes.mk (bytesOf [t.c]) rfl ?_; conv => whnf)
    | (refine step_kinds 2 ?hk ?_; (case hk => decide +kernel); conv => whnf)
    | (refine step_kinds 3 ?hk ?_; (case hk => decide +kernel); conv => whnf)
    | (refine step_auto 2 ?hk ?_; (case hk => decide +kernel); conv => whnf)
    | (refine step_auto 3 ?hk ?_; (case hk => decide +kernel); conv => whnf)
    | (refine Num.id (by omega) (by omega) ?_; conv => whnf)
    | (refine Case.strI (fun _ => ?_) (fun _ => ?_) <;> conv => whnf)
    | (refine Both.mk ?_ ?_ <;> conv => whnf)
    | (refine Case.dec (fun _ => ?_) (fun _ => ?_) <;> conv => whnf)
    | (refine Case.beqI (fun _ => ?_) (fun _ => ?_) <;> conv => whnf)
    | (refine Case.mk (fun _ => ?_) (fun _ => ?_) <;> conv => whnf)
    | (refine Way.fst ?_; conv => whnf)
  all_goals refine Fin.isS ?_
  all_goals first
    | (apply ByteArray.ext; simp [oneB, *]; done)
    | (rw [show (⟨#[32, 58, 59, 44, 123, 125, 40, 41, 91, 93]⟩ : ByteArray) = ⟨P10.toArray⟩ from rfl, ext_listB, oneB, if_neg (by assumption), if_neg (by assumption), if_neg (by assumption), if_neg (by assumption), if_neg (by assumption), if_neg (by assumption), if_neg (by assumption), if_neg (by assumption), if_neg (by assumption), if_neg (by assumption), if_pos (by assumption)])
end Go.Proofs.YtpkgnaajcibgnaaDoor.Aw
