/- The reference's Points and Prepare. -/
import Derived.Test.YtlhegfkpgchaeaaGreatDoorXrJ
namespace Go.Proofs.YtlhegfkpgchaeaaGreatDoor.Aw
open Go Go.RowKit Go.Lib
set_option linter.unusedVariables false
set_option linter.unusedSimpArgs false
set_option maxRecDepth 100000
structure Val (g : FuncId) (args : List D) (d : D) : Prop where
 ga : renL [] [] args = args
 gr : refL 0 0 args
 gd : d.ren [] [] = d
 spec : Spec P g args [] 0 (fun d' H => H = [] ∧ d' = d)
theorem Val.call {g : FuncId} {as' E : List D} {H : Hp} {n : Nat} {K : KD} {d : D} (h : Val g as' d) (k : K d E H n) : Call P g as' E H n K := by
 have := call_gen (E := E) (H := H) (n := n) (K := K) [] [] h.spec (by simp) (by simp) (by simp) (by simp) trivial h.gr (fun d' Hs' hR _ => by
  obtain ⟨rfl, rfl⟩ := hR
  rw [h.gd, killsL_nil, killsH_nil]
  exact k)
 rwa [h.ga] at this
theorem and_mask {c : Int} (k : Nat) (hk : k ≤ 62) (h0 : 0 ≤ c) (h1 : c < 9223372036854775808) : andI .i64 c ((2 ^ k - 1 : Nat) : Int) = c % (2 ^ k : Nat) := by
 unfold andI
 obtain ⟨m, rfl⟩ : ∃ m : Nat, c = m := ⟨c.toNat, by omega⟩
 have hp : (2 : Nat) ^ k ≤ 2 ^ 62 := Nat.pow_le_pow_right (by omega) hk
 have hp0 : 0 < (2 : Nat) ^ k := Nat.pow_pos (by omega)
 have e : (BitVec.ofInt IntKind.i64.bits (m : Int) &&& BitVec.ofInt IntKind.i64.bits ((2 ^ k - 1 : Nat) : Int)).toNat = m % 2 ^ k := by
  rw [BitVec.toNat_and, BitVec.toNat_ofInt, BitVec.toNat_ofInt]
  have eb : ((2 ^ IntKind.i64.bits : Nat) : Int) = 18446744073709551616 := by decide
  have e1 : ((m : Int) % ((2 ^ IntKind.i64.bits : Nat) : Int)).toNat = m := by rw [eb]; omega
  have e2 : ((((2 ^ k - 1 : Nat)) : Int) % ((2 ^ IntKind.i64.bits : Nat) : Int)).toNat = 2 ^ k - 1 := by
   rw [eb]
   have : (2 : Nat) ^ 62 = 4611686018427387904 := by decide
   omega
  rw [e1, e2, Nat.and_two_pow_sub_one_eq_mod]
 rw [e]
 omega
theorem Num.mask {c m q : Int} {K : Int → Prop} (k : Nat) (hk : k ≤ 62) (h0 : 0 ≤ c) (h1 : c < 9223372036854775808) (hm : m = ((2 ^ k - 1 : Nat) : Int)) (hq : q = ((2 ^ k : Nat) : Int)) (h : K (c % q)) : Num .i64 (andI .i64 c m) K := by
 subst hm hq
 rw [and_mask k hk h0 h1]
 have hp0 : 0 < (2 : Nat) ^ k := Nat.pow_pos (by omega)
 have hp : (2 : Nat) ^ k ≤ 2 ^ 62 := Nat.pow_le_pow_right (by omega) hk
 have hb : (2 : Nat) ^ 62 = 4611686018427387904 := by decide
 have := Int.emod_nonneg c (b := ((2 ^ k : Nat) : Int)) (by omega)
 have := Int.emod_lt_of_pos c (b := ((2 ^ k : Nat) : Int)) (by omega)
 exact Num.id (by omega) (by omega) h
def bAt (bs : List UInt8) (i : Nat) : Int := ((bs.getD i 0).toNat : Int)
theorem bAt_le (bs : List UInt8) (i : Nat) : 0 ≤ bAt bs i ∧ bAt bs i < 256 := by
 unfold bAt
 have := (bs.getD i 0).toNat_lt
 omega
theorem byteRow_len {bs : List UInt8} : ∀ e ∈ bs.map byteRow, e.length = 1 := by simp [byteRow]
theorem rowAt {bs : List UInt8} {i : Nat} (h : i < bs.length) : (bs.map byteRow)[i]? = some [F.v (.int .u8 (bAt bs i))] := by
 simp [h, byteRow, bAt, List.getD]
theorem Part.tail {α β : Type} {f : α → β} {bs : List α} {lo hi : Int} {K : List β → Prop} (l : Nat) (h1 : lo = l) (h2 : hi = bs.length) (h3 : l ≤ bs.length) (h : K ((bs.drop l).map f)) : Part (bs.map f) lo hi K := by
 refine Part.mk l bs.length h1 h2 h3 (by simp) ?_
 rw [List.take_of_length_le (by simp), ← List.map_drop]
 exact h
def contRun (bs : List UInt8) : Nat → Nat → Int → Option Int
 | 0, _, c => some c
 | k + 1, i, c => if bAt bs i < 128 ∨ bAt bs i > 191 then none else contRun bs k (i + 1) (c * 64 + bAt bs i % 64)
def pointK (bs : List UInt8) (n : Nat) (least c : Int) : Int × Nat :=
 if bs.length < n then (65533, 1) else match contRun bs (n - 1) 1 c with
  | none => (65533, 1)
  | some c => if c < least ∨ right c = false then (65533, 1) else (c, n)
def pointV (bs : List UInt8) : Int × Nat :=
 if bAt bs 0 < 128 then (bAt bs 0, 1)
 else if 194 ≤ bAt bs 0 ∧ bAt bs 0 < 224 then pointK bs 2 128 (bAt bs 0 % 32)
 else if 224 ≤ bAt bs 0 ∧ bAt bs 0 < 240 then pointK bs 3 2048 (bAt bs 0 % 16)
 else if 240 ≤ bAt bs 0 ∧ bAt bs 0 < 245 then pointK bs 4 65536 (bAt bs 0 % 8)
 else (65533, 1)
theorem pointK_le (bs : List UInt8) (n : Nat) (least c : Int) (h : 1 ≤ bs.length) (hn : 1 ≤ n) : 1 ≤ (pointK bs n least c).2 ∧ (pointK bs n least c).2 ≤ bs.length := by
 unfold pointK
 split
 ·exact ⟨Nat.le_refl _, h⟩
 ·split
  ·exact ⟨Nat.le_refl _, h⟩
  ·split
   ·exact ⟨Nat.le_refl _, h⟩
   ·dsimp only; omega
theorem pointV_le {bs : List UInt8} (h : 1 ≤ bs.length) : 1 ≤ (pointV bs).2 ∧ (pointV bs).2 ≤ bs.length := by
 unfold pointV
 split
 ·exact ⟨Nat.le_refl _, h⟩
 split
 ·exact pointK_le bs _ _ _ h (by omega)
 split
 ·exact pointK_le bs _ _ _ h (by omega)
 split
 ·exact pointK_le bs _ _ _ h (by omega)
 ·exact ⟨Nat.le_refl _, h⟩
theorem Fin.pt {x y : Int} {q : Int × Nat} {H : Hp} {n n0 : Nat} (e1 : x = q.1) (e2 : y = q.2) : Fin (.tup [int x, int y]) H n 0 n0 (fun d H => H = [] ∧ d = .tup [int q.1, int q.2]) := by
 subst e1 e2
 exact Fin.scal ⟨trivial, trivial, trivial⟩ ⟨rfl, rfl⟩
structure ContI (bs : List UInt8) (n : Nat) (b0 : Int) (s : Nat × Int) : Prop where
 i0 : 1 ≤ s.1
 i1 : s.1 ≤ n
 c0 : 0 ≤ s.2
 c1 : s.2 < 64 ^ s.1
 run : contRun bs (n - s.1) s.1 s.2 = contRun bs (n - 1) 1 b0
set_option maxHeartbeats 2000000 in
theorem point_spec (bs : List UInt8) (h1 : 1 ≤ bs.length) (hl : bs.length < 1000000000) : Pure 83 [.f (.sl (bs.map byteRow))] (.tup [int (pointV bs).1, int (pointV bs).2]) := by
 have hx := bAt_le bs 0
 have hlen : (bs.map byteRow).length = bs.length := by simp
 refine ⟨⟨trivial, trivial, trivial⟩, spec_step tab_ok Tryz.func83 (by rfl) rfl ?_⟩
 conv => whnf
 iterate 5
  refine step_seq tab_ok ?_
  conv => whnf
  repeat' ((first | refine Elem.mk 0 _ (by omega) (rowAt (by omega)) ?_ | refine Owes.mk byteRow_len ?_ | refine Num.id (by omega) (by omega) ?_); conv => whnf)
 refine step_cut tab_ok (fun s : Nat × Int × Int => padK [.f (.sl (bs.map byteRow)), .junk, .junk, .junk, int (bAt bs 0), int s.1, int s.2.1, int s.2.2] 80) (fun _ => []) 0 (fun s => pointV bs = pointK bs s.1 s.2.1 s.2.2 ∧ 2 ≤ s.1 ∧ s.1 ≤ 4 ∧ 0 ≤ s.2.2 ∧ s.2.2 < 64) (fun _ => rfl) ?_ ?_
 ·conv => whnf
  repeat' first | ((first | refine Case.no ?_ | refine Case.decT (by assumption) ?_ | refine Case.decF (by assumption) ?_ | refine Case.decT (by omega) ?_ | refine Case.decF (by omega) ?_ | refine Num.mask (q := 32) 5 (by omega) (by omega) (by omega) rfl rfl ?_ | refine Num.mask (q := 16) 4 (by omega) (by omega) (by omega) rfl rfl ?_ | refine Num.mask (q := 8) 3 (by omega) (by omega) (by omega) rfl rfl ?_); conv => whnf) | (refine Case.dec (fun _ => ?_) (fun _ => ?_) <;> conv => whnf)
  ·refine Fin.pt ?_ ?_ <;> rw [pointV, if_pos (by assumption)] <;> rfl
  ·refine ⟨(2, 128, _), ⟨by (first | (rw [pointV, if_pos (by omega)]) | (rw [pointV, if_neg (by omega), if_pos (by omega)]) | (rw [pointV, if_neg (by omega), if_neg (by omega), if_pos (by omega)]) | (rw [pointV, if_neg (by omega), if_neg (by omega), if_neg (by omega), if_pos (by omega)]) | (rw [pointV, if_neg (by omega), if_neg (by omega), if_neg (by omega), if_neg (by omega)])), by dsimp only; omega, by dsimp only; omega, by dsimp only; omega, by dsimp only; omega⟩, ?_⟩
   repeat' first | exact trivial | exact rfl | apply And.intro
  ·refine ⟨(3, 2048, _), ⟨by (first | (rw [pointV, if_pos (by omega)]) | (rw [pointV, if_neg (by omega), if_pos (by omega)]) | (rw [pointV, if_neg (by omega), if_neg (by omega), if_pos (by omega)]) | (rw [pointV, if_neg (by omega), if_neg (by omega), if_neg (by omega), if_pos (by omega)]) | (rw [pointV, if_neg (by omega), if_neg (by omega), if_neg (by omega), if_neg (by omega)])), by dsimp only; omega, by dsimp only; omega, by dsimp only; omega, by dsimp only; omega⟩, ?_⟩
   repeat' first | exact trivial | exact rfl | apply And.intro
  ·refine ⟨(4, 65536, _), ⟨by (first | (rw [pointV, if_pos (by omega)]) | (rw [pointV, if_neg (by omega), if_pos (by omega)]) | (rw [pointV, if_neg (by omega), if_neg (by omega), if_pos (by omega)]) | (rw [pointV, if_neg (by omega), if_neg (by omega), if_neg (by omega), if_pos (by omega)]) | (rw [pointV, if_neg (by omega), if_neg (by omega), if_neg (by omega), if_neg (by omega)])), by dsimp only; omega, by dsimp only; omega, by dsimp only; omega, by dsimp only; omega⟩, ?_⟩
   repeat' first | exact trivial | exact rfl | apply And.intro
  ·refine Fin.pt ?_ ?_ <;> (first | (rw [pointV, if_pos (by omega)]) | (rw [pointV, if_neg (by omega), if_pos (by omega)]) | (rw [pointV, if_neg (by omega), if_neg (by omega), if_pos (by omega)]) | (rw [pointV, if_neg (by omega), if_neg (by omega), if_neg (by omega), if_pos (by omega)]) | (rw [pointV, if_neg (by omega), if_neg (by omega), if_neg (by omega), if_neg (by omega)])) <;> rfl
  ·refine Fin.pt ?_ ?_ <;> (first | (rw [pointV, if_pos (by omega)]) | (rw [pointV, if_neg (by omega), if_pos (by omega)]) | (rw [pointV, if_neg (by omega), if_neg (by omega), if_pos (by omega)]) | (rw [pointV, if_neg (by omega), if_neg (by omega), if_neg (by omega), if_pos (by omega)]) | (rw [pointV, if_neg (by omega), if_neg (by omega), if_neg (by omega), if_neg (by omega)])) <;> rfl
 ·rintro ⟨n, least, c⟩ ⟨e0, g1, g2, g3, g4⟩
  simp only at e0 g1 g2 g3 g4
  dsimp only
  rw [e0]
  conv => whnf
  refine step_of tab_ok ?_
  conv => whnf
  repeat' (refine Case.dec (fun _ => ?_) (fun _ => ?_) <;> conv => whnf)
  ·have hp : pointK bs n least c = (65533, 1) := by unfold pointK; rw [if_pos (by omega)]
   rw [hp]
   exact Fin.pt rfl rfl
  ·refine step_loop tab_ok (fun s : Nat × Int => padK [.f (.sl (bs.map byteRow)), .junk, .junk, .junk, int (bAt bs 0), int n, int least, int s.2, int s.1] 80) (fun _ => []) 0 (ContI bs n c) (fun s => n - s.1) (1, c) ⟨by simp, by dsimp only; omega, g3, by dsimp only; omega, rfl⟩ (fun _ => rfl) ?_ ?_
   ·
    repeat' first | exact trivial | exact rfl | apply And.intro
   ·rintro ⟨i, d⟩ ⟨k0, k1, k2, k3, k4⟩
    simp only at k0 k1 k2 k3 k4
    have hp : (64 : Int) ^ i ≤ 16777216 := by
     have : i = 1 ∨ i = 2 ∨ i = 3 ∨ i = 4 := by omega
     rcases this with rfl | rfl | rfl | rfl <;> decide
    have hy := bAt_le bs i
    have hps : (64 : Int) ^ (i + 1) = 64 ^ i * 64 := Int.pow_succ ..
    have hu : pointK bs n least c = match contRun bs (n - i) i d with
      | none => (65533, 1)
      | some c => if c < least ∨ right c = false then (65533, 1) else (c, n) := by
     unfold pointK; rw [if_neg (by omega), k4]
    conv => whnf
    repeat' first | ((first | refine Case.not ?_ | refine Case.yes ?_ | refine Case.decT (by assumption) ?_ | refine Case.decF (by assumption) ?_ | refine Elem.mk i _ (by omega) (rowAt (by omega)) ?_ | refine Owes.mk byteRow_len ?_ | refine Num.mask (q := 64) 6 (by omega) (by omega) (by omega) rfl rfl ?_ | refine (right_spec _).call ⟨rfl, rfl⟩ ?_ | refine Num.id (by omega) (by omega) ?_); conv => whnf) | (refine Case.dec (fun _ => ?_) (fun _ => ?_) <;> conv => whnf) | (refine Case.mk (fun _ => ?_) (fun _ => ?_) <;> conv => whnf)
    ·refine Fin.pt ?_ ?_ <;> rw [hu, show n - i = (n - i - 1) + 1 by dsimp only at *; omega, contRun, if_pos (by omega)] <;> rfl
    ·refine Fin.pt ?_ ?_ <;> rw [hu, show n - i = (n - i - 1) + 1 by dsimp only at *; omega, contRun, if_pos (by omega)] <;> rfl
    ·dsimp only at *
     refine ⟨(i + 1, d * 64 + bAt bs i % 64), ⟨by dsimp only; omega, by dsimp only; omega, by dsimp only; omega, by dsimp only; omega, ?_⟩, by dsimp only; omega, ?_⟩
     ·dsimp only
      rw [← k4, show n - i = (n - (i + 1)) + 1 by omega, contRun, if_neg (by omega)]
     ·
      repeat' first | exact trivial | exact rfl | apply And.intro
    all_goals dsimp only at *
    all_goals rw [show n - i = 0 by omega, contRun] at hu
    all_goals dsimp only at hu
    ·refine Fin.pt ?_ ?_ <;> rw [hu, if_pos (by omega)] <;> rfl
    ·refine Fin.pt ?_ ?_ <;> rw [hu, if_neg (by simp_all)] <;> rfl
    ·refine Fin.pt ?_ ?_ <;> rw [hu, if_pos (by simp_all)] <;> rfl
abbrev intsD (l : List Int) : D := .own 0 3 1 (ptsF l)
theorem Fin.ints {l : List Int} {H : Hp} {n : Nat} {R : D → Hp → Prop} (hR : R (.f (.sl (ptsF l))) []) : Fin (intsD l) H n 0 0 R := by
 refine Fin.frz 0 (Fin.mk (.f (.sl (ptsF l))) [] hR rfl ⟨?_, by unfold intoH; cases frzH 0 H <;> trivial⟩)
 unfold intoL intoL intoD
 exact ⟨rfl, rfl⟩
theorem ptsF_row {l : List Int} : ∀ e ∈ ptsF l, e.length = 1 := by simp [ptsF]
def ptsRun (bs : List UInt8) : Nat → Nat → List Int → List Int
 | 0, _, out => out
 | f + 1, i, out => if i < bs.length then ptsRun bs f (i + (pointV (bs.drop i)).2) (out ++ [(pointV (bs.drop i)).1]) else out
def points (bs : List UInt8) : List Int := ptsRun bs (bs.length + 1) 0 []
theorem pointV_drop {bs : List UInt8} {i : Nat} (h : i < bs.length) : 1 ≤ (pointV (bs.drop i)).2 ∧ i + (pointV (bs.drop i)).2 ≤ bs.length := by
 have := pointV_le (bs := bs.drop i) (by rw [List.length_drop]; omega)
 rw [List.length_drop] at this
 omega
theorem ptsRun_fuel (bs : List UInt8) : ∀ (f g i : Nat) (out : List Int), bs.length - i < f → bs.length - i < g → ptsRun bs f i out = ptsRun bs g i out
 | 0, _, _, _, h, _ => by omega
 | f + 1, 0, _, _, _, h => by omega
 | f + 1, g + 1, i, out, h1, h2 => by
  unfold ptsRun
  split
  ·rename_i h
   have := pointV_drop h
   exact ptsRun_fuel bs f g _ _ (by omega) (by omega)
  ·rfl
theorem ptsRun_len (bs : List UInt8) : ∀ (f i : Nat) (out : List Int), out.length ≤ i → i ≤ bs.length → (ptsRun bs f i out).length ≤ bs.length
 | 0, i, out, h, h1 => by unfold ptsRun; omega
 | f + 1, i, out, h, h1 => by
  unfold ptsRun
  split
  ·rename_i hi
   have := pointV_drop hi
   exact ptsRun_len bs f _ _ (by rw [List.length_append]; simp; omega) (by omega)
  ·omega
theorem points_len (bs : List UInt8) : (points bs).length ≤ bs.length := ptsRun_len bs _ _ _ (by simp) (by simp)
structure PtsI (bs : List UInt8) (s : Nat × List Int) : Prop where
 i : s.1 ≤ bs.length
 o : s.2.length ≤ s.1
 run : ∀ f, bs.length - s.1 < f → ptsRun bs f s.1 s.2 = points bs
theorem points_spec (bs : List UInt8) (hl : bs.length < 1000000000) : Val 50 [.f (.sl (bs.map byteRow))] (.f (.sl (ptsF (points bs)))) := by
 have hlen : (bs.map byteRow).length = bs.length := by simp
 refine ⟨rfl, ⟨trivial, trivial⟩, rfl, spec_mk tab_ok Tryz.func50 (by rfl) rfl ?_⟩
 conv => whnf
 refine step_loop tab_ok (fun s : Nat × List Int => padK [.f (.sl (bs.map byteRow)), .junk, .junk, intsD s.2, int s.1] 26) (fun _ => []) 1 (PtsI bs) (fun s => bs.length - s.1) (0, []) ⟨by simp, by simp, fun f hf => ptsRun_fuel bs _ _ _ _ hf (by dsimp only at hf ⊢; omega)⟩ (fun _ => rfl) ?_ ?_
 ·
  repeat' first | exact trivial | exact rfl | exact (by decide : 0 < 1) | exact Nat.le_refl _ | apply And.intro
 ·rintro ⟨i, out⟩ ⟨h1, h2, h3⟩
  simp only at h1 h2 h3
  have e0 := h3 (bs.length - i + 1) (by omega)
  rw [ptsRun] at e0
  dsimp only
  conv => whnf
  refine Case.dec (fun h0 => ?_) (fun h0 => ?_)
  ·have hi : i < bs.length := by omega
   have hd := pointV_drop hi
   have hdl : (bs.drop i).length = bs.length - i := List.length_drop ..
   rw [if_pos hi] at e0
   conv => whnf
   repeat' ((first | refine Owes.mk byteRow_len ?_ | refine Part.tail i rfl (by omega) (by omega) ?_ | refine (point_spec (bs.drop i) (by omega) (by omega)).call ⟨rfl, rfl⟩ ?_ | (refine Owes.mk (by simp [ptsF]; omega) ?_) | refine Num.id (by omega) (by omega) ?_); conv => whnf)
   refine ⟨(i + (pointV (bs.drop i)).2, out ++ [(pointV (bs.drop i)).1]), ⟨by dsimp only; omega, by dsimp only; rw [List.length_append]; simp; omega, fun f hf => ?_⟩, by dsimp only; omega, ?_⟩
   ·dsimp only at hf ⊢
    rw [← e0]
    exact ptsRun_fuel bs _ _ _ _ hf (by omega)
   ·
    repeat' first | exact trivial | exact rfl | exact (by decide : 0 < 1) | apply And.intro | exact congrArg (D.own _ _ _) (by simp [ptsF]; done)
  ·rw [if_neg (by omega)] at e0
   subst e0
   conv => whnf
   exact Fin.ints ⟨rfl, rfl⟩
def prep : List Int → List Int
 | [] => []
 | c :: r => if c = 13 ∧ r.head? = some 10 then prep r else if c = 13 ∨ c = 12 then 10 :: prep r else if c = 0 then 65533 :: prep r else c :: prep r
theorem prep_len : ∀ l : List Int, (prep l).length ≤ l.length
 | [] => Nat.le_refl _
 | c :: r => by
  have := prep_len r
  unfold prep
  repeat' split
  all_goals simp only [List.length_cons]; omega
def prepare (bs : List UInt8) : List Int := prep (points bs)
theorem prepare_len (bs : List UInt8) : (prepare bs).length ≤ bs.length := Nat.le_trans (prep_len _) (points_len bs)
structure PrepI (l : List Int) (s : Nat × List Int) : Prop where
 i : s.1 ≤ l.length
 o : s.2.length ≤ s.1
 run : s.2 ++ prep (l.drop s.1) = prep l
theorem drop_step {l : List Int} {i : Nat} {c : Int} (h : l[i]? = some c) : l.drop i = c :: l.drop (i + 1) := by
 obtain ⟨h1, h2⟩ := List.getElem?_eq_some_iff.1 h
 rw [List.drop_eq_getElem_cons h1, h2]
set_option maxHeartbeats 1000000 in
theorem prepare_spec (bs : List UInt8) (hl : bs.length < 1000000000) : Val 20 [.f (.sl (bs.map byteRow))] (.f (.sl (ptsF (prepare bs)))) := by
 have hlen : (bs.map byteRow).length = bs.length := by simp
 refine ⟨rfl, ⟨trivial, trivial⟩, rfl, spec_mk tab_ok Tryz.func20 (by rfl) rfl ?_⟩
 conv => whnf
 refine (points_spec bs hl).call ?_
 have hle := points_len bs
 unfold prepare
 generalize points bs = l at hle
 have hpl := ptsF_length l
 conv => whnf
 refine step_loop tab_ok (fun s : Nat × List Int => padK [.f (.sl (bs.map byteRow)), .junk, .junk, .f (.sl (ptsF l)), intsD s.2, int s.1] 68) (fun _ => []) 1 (PrepI l) (fun s => l.length - s.1) (0, []) ⟨by simp, by simp, by simp⟩ (fun _ => rfl) ?_ ?_
 ·
  repeat' first | exact trivial | exact rfl | exact (by decide : 0 < 1) | exact Nat.le_refl _ | apply And.intro
 ·rintro ⟨i, out⟩ ⟨h1, h2, h3⟩
  simp only at h1 h2 h3
  dsimp only
  conv => whnf
  refine Case.dec (fun h0 => ?_) (fun h0 => ?_)
  ·have hi : i < l.length := by omega
   obtain ⟨c, hc⟩ : ∃ c, l[i]? = some c := ⟨_, List.getElem?_eq_getElem hi⟩
   rw [drop_step hc, prep] at h3
   have hd : (l.drop (i + 1)).head? = l[i + 1]? := by simp
   rw [hd] at h3
   rcases hc1 : l[i + 1]? with _ | c1
   ·have hi1 : l.length ≤ i + 1 := by simpa using hc1
    conv => whnf
    repeat' first | ((first | refine Case.yes ?_ | refine Case.no ?_ | refine Case.decT (by assumption) ?_ | refine Case.decF (by assumption) ?_ | refine Case.decF (by omega) ?_ | refine Owes.mk ptsF_row ?_ | refine Elem.mk i _ rfl (ptsF_get hc) ?_ | (refine Owes.mk (by simp [ptsF]; omega) ?_) | refine Num.id (by omega) (by omega) ?_); conv => whnf) | (refine Case.dec (fun _ => ?_) (fun _ => ?_) <;> conv => whnf)
    all_goals rw [hc1] at h3
    ·rw [if_neg (by simp), if_pos (by omega)] at h3
     refine ⟨(i + 1, out ++ [10]), ⟨by dsimp only; omega, by dsimp only; rw [List.length_append]; simp; omega, by simpa using h3⟩, by dsimp only; omega, ?_⟩
     repeat' first | exact trivial | exact rfl | exact (by decide : 0 < 1) | apply And.intro | exact congrArg (D.own _ _ _) (by simp [ptsF]; done)
    ·rw [if_neg (by simp), if_pos (by omega)] at h3
     refine ⟨(i + 1, out ++ [10]), ⟨by dsimp only; omega, by dsimp only; rw [List.length_append]; simp; omega, by simpa using h3⟩, by dsimp only; omega, ?_⟩
     repeat' first | exact trivial | exact rfl | exact (by decide : 0 < 1) | apply And.intro | exact congrArg (D.own _ _ _) (by simp [ptsF]; done)
    ·rw [if_neg (by simp), if_neg (by omega), if_pos (by omega)] at h3
     refine ⟨(i + 1, out ++ [65533]), ⟨by dsimp only; omega, by dsimp only; rw [List.length_append]; simp; omega, by simpa using h3⟩, by dsimp only; omega, ?_⟩
     repeat' first | exact trivial | exact rfl | exact (by decide : 0 < 1) | apply And.intro | exact congrArg (D.own _ _ _) (by simp [ptsF]; done)
    ·rw [if_neg (by simp), if_neg (by omega), if_neg (by omega)] at h3
     refine ⟨(i + 1, out ++ [c]), ⟨by dsimp only; omega, by dsimp only; rw [List.length_append]; simp; omega, by simpa using h3⟩, by dsimp only; omega, ?_⟩
     repeat' first | exact trivial | exact rfl | exact (by decide : 0 < 1) | apply And.intro | exact congrArg (D.own _ _ _) (by simp [ptsF]; done)
   ·have hi1 : i + 1 < l.length := (List.getElem?_eq_some_iff.1 hc1).1
    conv => whnf
    repeat' first | ((first | refine Case.yes ?_ | refine Case.no ?_ | refine Case.decT (by assumption) ?_ | refine Case.decF (by assumption) ?_ | refine Case.decT (by omega) ?_ | refine Owes.mk ptsF_row ?_ | refine Elem.mk i _ rfl (ptsF_get hc) ?_ | refine Elem.mk (i + 1) _ (by omega) (ptsF_get hc1) ?_ | (refine Owes.mk (by simp [ptsF]; omega) ?_) | refine Num.id (by omega) (by omega) ?_); conv => whnf) | (refine Case.dec (fun _ => ?_) (fun _ => ?_) <;> conv => whnf)
    all_goals rw [hc1] at h3
    ·rw [if_pos ⟨by assumption, by simp; omega⟩] at h3
     refine ⟨(i + 1, out), ⟨by dsimp only; omega, by dsimp only; omega, h3⟩, by dsimp only; omega, ?_⟩
     repeat' first | exact trivial | exact rfl | exact (by decide : 0 < 1) | apply And.intro
    ·rw [if_neg (by simp; omega), if_pos (by omega)] at h3
     refine ⟨(i + 1, out ++ [10]), ⟨by dsimp only; omega, by dsimp only; rw [List.length_append]; simp; omega, by simpa using h3⟩, by dsimp only; omega, ?_⟩
     repeat' first | exact trivial | exact rfl | exact (by decide : 0 < 1) | apply And.intro | exact congrArg (D.own _ _ _) (by simp [ptsF]; done)
    ·rw [if_neg (by simp; omega), if_pos (by omega)] at h3
     refine ⟨(i + 1, out ++ [10]), ⟨by dsimp only; omega, by dsimp only; rw [List.length_append]; simp; omega, by simpa using h3⟩, by dsimp only; omega, ?_⟩
     repeat' first | exact trivial | exact rfl | exact (by decide : 0 < 1) | apply And.intro | exact congrArg (D.own _ _ _) (by simp [ptsF]; done)
    ·rw [if_neg (by simp; omega), if_neg (by omega), if_pos (by omega)] at h3
     refine ⟨(i + 1, out ++ [65533]), ⟨by dsimp only; omega, by dsimp only; rw [List.length_append]; simp; omega, by simpa using h3⟩, by dsimp only; omega, ?_⟩
     repeat' first | exact trivial | exact rfl | exact (by decide : 0 < 1) | apply And.intro | exact congrArg (D.own _ _ _) (by simp [ptsF]; done)
    ·rw [if_neg (by simp; omega), if_neg (by omega), if_neg (by omega)] at h3
     refine ⟨(i + 1, out ++ [c]), ⟨by dsimp only; omega, by dsimp only; rw [List.length_append]; simp; omega, by simpa using h3⟩, by dsimp only; omega, ?_⟩
     repeat' first | exact trivial | exact rfl | exact (by decide : 0 < 1) | apply And.intro | exact congrArg (D.own _ _ _) (by simp [ptsF]; done)
  ·have : l.drop i = [] := by rw [List.drop_eq_nil_iff]; omega
   rw [this, prep, List.append_nil] at h3
   subst h3
   conv => whnf
   exact Fin.ints ⟨rfl, rfl⟩
end Go.Proofs.YtlhegfkpgchaeaaGreatDoor.Aw
