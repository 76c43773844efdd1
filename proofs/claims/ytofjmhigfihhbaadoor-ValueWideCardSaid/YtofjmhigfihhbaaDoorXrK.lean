/- The reference's code points of bytes. -/
import Derived.Test.YtofjmhigfihhbaaDoorXrJ
namespace Go.Proofs.YtofjmhigfihhbaaDoor.Aw
open Go Go.RowKit Go.Lib
set_option linter.unusedVariables false
set_option linter.unusedSimpArgs false
set_option maxRecDepth 100000
/-- A closed contract that hands back one value without names. -/
structure Val (g : FuncId) (args : List D) (d : D) : Prop where
  ga : renL [] [] args = args
  gr : refL 0 0 args
  gd : d.ren [] [] = d
  spec : Spec P g args [] 0 (fun d' H => H = [] ∧ d' = d)
theorem Val.call {g : FuncId} {as' E : List D} {H : Hp} {n : Nat} {K : KD} {d : D} (h : Val g as' d) (k : K d E H n) : Call P g as' E H n K := by
  have := call_gen (E := E) (H := H) (n := n) (K := K) [] [] h.spec (by simp) (by simp) (by simp) (by simp) trivial h.gr (fun d' Hs' hR _ => by
    obtain ⟨rfl, rfl⟩ := hR
    rw [h.gd, killsL_nil, killsH_nil]
    exact k)
  rwa [h.ga] at this
theorem and_mask {c : Int} (k : Nat) (hk : k ≤ 62) (h0 : 0 ≤ c) (h1 : c < 9223372036854775808) : andI .i64 c ((2 ^ k - 1 : Nat) : Int) = c % (2 ^ k : Nat) := by
  unfold andI
  obtain ⟨m, rfl⟩ : ∃ m : Nat, c = m := ⟨c.toNat, by omega⟩
  have hp : (2 : Nat) ^ k ≤ 2 ^ 62 := Nat.pow_le_pow_right (by omega) hk
  have hp0 : 0 < (2 : Nat) ^ k := Nat.pow_pos (by omega)
  have e : (BitVec.ofInt IntKind.i64.bits (m : Int) &&& BitVec.ofInt IntKind.i64.bits ((2 ^ k - 1 : Nat) : Int)).toNat = m % 2 ^ k := by
    rw [BitVec.toNat_and, BitVec.toNat_ofInt, BitVec.toNat_ofInt]
    have eb : ((2 ^ IntKind.i64.bits : Nat) : Int) = 18446744073709551616 := by decide
    have e1 : ((m : Int) % ((2 ^ IntKind.i64.bits : Nat) : Int)).toNat = m := by rw [eb]; omega
    have e2 : ((((2 ^ k - 1 : Nat)) : Int) % ((2 ^ IntKind.i64.bits : Nat) : Int)).toNat = 2 ^ k - 1 := by
      rw [eb]
      have : (2 : Nat) ^ 62 = 4611686018427387904 := by decide
      omega
    rw [e1, e2, Nat.and_two_pow_sub_one_eq_mod]
  rw [e]
  omega
theorem Num.mask {c m q : Int} {K : Int → Prop} (k : Nat) (hk : k ≤ 62) (h0 : 0 ≤ c) (h1 : c < 9223372036854775808) (hm : m = ((2 ^ k - 1 : Nat) : Int)) (hq : q = ((2 ^ k : Nat) : Int)) (h : K (c % q)) : Num .i64 (andI .i64 c m) K := by
  subst hm hq
  rw [and_mask k hk h0 h1]
  have hp0 : 0 < (2 : Nat) ^ k := Nat.pow_pos (by omega)
  have hp : (2 : Nat) ^ k ≤ 2 ^ 62 := Nat.pow_le_pow_right (by omega) hk
  have hb : (2 : Nat) ^ 62 = 4611686018427387904 := by decide
  have := Int.emod_nonneg c (b := ((2 ^ k : Nat) : Int)) (by omega)
  have := Int.emod_lt_of_pos c (b := ((2 ^ k : Nat) : Int)) (by omega)
  exact Num.id (by omega) (by omega) h
def bAt (bs : List UInt8) (i : Nat) : Int := ((bs.getD i 0).toNat : Int)
theorem bAt_le (bs : List UInt8) (i : Nat) : 0 ≤ bAt bs i ∧ bAt bs i < 256 := by
  unfold bAt
  have := (bs.getD i 0).toNat_lt
  omega
theorem byteRow_len {bs : List UInt8} : ∀ e ∈ bs.map byteRow, e.length = 1 := by simp [byteRow]
theorem rowAt {bs : List UInt8} {i : Nat} (h : i < bs.length) : (bs.map byteRow)[i]? = some [F.v (.int .u8 (bAt bs i))] := by
  simp [h, byteRow, bAt, List.getD]
theorem Part.tail {α β : Type} {f : α → β} {bs : List α} {lo hi : Int} {K : List β → Prop} (l : Nat) (h1 : lo = l) (h2 : hi = bs.length) (h3 : l ≤ bs.length) (h : K ((bs.drop l).map f)) : Part (bs.map f) lo hi K := by
  refine Part.mk l bs.length h1 h2 h3 (by simp) ?_
  rw [List.take_of_length_le (by simp), ← List.map_drop]
  exact h
def contRun (bs : List UInt8) : Nat → Nat → Int → Option Int
  | 0, _, c => some c
  | k + 1, i, c => if bAt bs i < 128 ∨ bAt bs i > 191 then none else contRun bs k (i + 1) (c * 64 + bAt bs i % 64)
def pointK (bs : List UInt8) (n : Nat) (least c : Int) : Int × Nat :=
  if bs.length < n then (65533, 1) else match contRun bs (n - 1) 1 c with
    | none => (65533, 1)
    | some c => if c < least ∨ right c = false then (65533, 1) else (c, n)
def pointV (bs : List UInt8) : Int × Nat :=
  if bAt bs 0 < 128 then (bAt bs 0, 1)
  else if 194 ≤ bAt bs 0 ∧ bAt bs 0 < 224 then pointK bs 2 128 (bAt bs 0 % 32)
  else if 224 ≤ bAt bs 0 ∧ bAt bs 0 < 240 then pointK bs 3 2048 (bAt bs 0 % 16)
  else if 240 ≤ bAt bs 0 ∧ bAt bs 0 < 245 then pointK bs 4 65536 (bAt bs 0 % 8)
  else (65533, 1)
theorem pointK_le (bs : List UInt8) (n : Nat) (least c : Int) (h : 1 ≤ bs.length) (hn : 1 ≤ n) : 1 ≤ (pointK bs n least c).2 ∧ (pointK bs n least c).2 ≤ bs.length := by
  unfold pointK
  split
  · exact ⟨Nat.le_refl _, h⟩
  · split
    · exact ⟨Nat.le_refl _, h⟩
    · split
      · exact ⟨Nat.le_refl _, h⟩
      · dsimp only; omega
theorem pointV_le {bs : List UInt8} (h : 1 ≤ bs.length) : 1 ≤ (pointV bs).2 ∧ (pointV bs).2 ≤ bs.length := by
  unfold pointV
  split
  · exact ⟨Nat.le_refl _, h⟩
  split
  · exact pointK_le bs _ _ _ h (by omega)
  split
  · exact pointK_le bs _ _ _ h (by omega)
  split
  · exact pointK_le bs _ _ _ h (by omega)
  · exact ⟨Nat.le_refl _, h⟩
theorem Fin.pt {x y : Int} {q : Int × Nat} {H : Hp} {n n0 : Nat} (e1 : x = q.1) (e2 : y = q.2) : Fin (.tup [int x, int y]) H n 0 n0 (fun d H => H = [] ∧ d = .tup [int q.1, int q.2]) := by
  subst e1 e2
  exact Fin.scal ⟨trivial, trivial, trivial⟩ ⟨rfl, rfl⟩
structure ContI (bs : List UInt8) (n : Nat) (b0 : Int) (s : Nat × Int) : Prop where
  i0 : 1 ≤ s.1
  i1 : s.1 ≤ n
  c0 : 0 ≤ s.2
  c1 : s.2 < 64 ^ s.1
  run : contRun bs (n - s.1) s.1 s.2 = contRun bs (n - 1) 1 b0
end Go.Proofs.YtofjmhigfihhbaaDoor.Aw
