/- utf8.AppendRune, text.Bytes. -/
import Derived.Test.YtdfiegleaknleaaXyA
import Derived.Test.YtdfiegleaknleaaXrL
namespace Go.Proofs.Ytdfiegleaknleaa.Aw
open Go Go.RowKit Go.Lib
set_option linter.unusedVariables false
set_option linter.unusedSimpArgs false
set_option maxRecDepth 100000
theorem shr32 {c : Int} (n : Nat) (hn : n ≤ 32) : shrI .i32 c n = c / 2 ^ n := by
  unfold shrI
  rw [show min (n : Int).toNat IntKind.i32.bits = n by show min (n : Int).toNat 32 = n; omega]
  rw [Int.fdiv_eq_ediv_of_nonneg _ (by have : (0 : Int) < 2 ^ n := Int.pow_pos (by decide); omega)]
theorem wrapU8 (x : Int) : IntKind.u8.wrap x = x % 256 := by
  have e1 : (2 ^ IntKind.u8.bits : Int) = 256 := by decide
  unfold IntKind.wrap
  rw [e1]
  simp only [show IntKind.u8.signed = false from rfl, Bool.false_and, Bool.false_eq_true, if_false]
theorem wrapU32 {x : Int} (h1 : 0 ≤ x) (h2 : x < 4294967296) : IntKind.u32.wrap x = x := by
  have e1 : (2 ^ IntKind.u32.bits : Int) = 4294967296 := by decide
  unfold IntKind.wrap
  rw [e1]
  simp only [show IntKind.u32.signed = false from rfl, Bool.false_and, Bool.false_eq_true, if_false]
  omega
theorem and8_all : ∀ x : _root_.Fin 256, andI .u8 (x.val : Int) 63 = (x.val : Int) % 64 := by decide +kernel
theorem or8_192 : ∀ x : _root_.Fin 32, orI .u8 192 (x.val : Int) = 192 + x.val := by decide +kernel
theorem or8_224 : ∀ x : _root_.Fin 16, orI .u8 224 (x.val : Int) = 224 + x.val := by decide +kernel
theorem or8_240 : ∀ x : _root_.Fin 8, orI .u8 240 (x.val : Int) = 240 + x.val := by decide +kernel
theorem or8_128 : ∀ x : _root_.Fin 64, orI .u8 128 (x.val : Int) = 128 + x.val := by decide +kernel
theorem or8_fin (k : Int) (n : Nat) (h : ∀ x : _root_.Fin n, orI .u8 k (x.val : Int) = k + x.val) {y : Int} (h0 : 0 ≤ y) (h1 : y < n) : orI .u8 k y = k + y := by
  obtain ⟨m, rfl⟩ : ∃ m : Nat, y = m := ⟨y.toNat, by omega⟩
  exact h ⟨m, by omega⟩
theorem cont8 (x : Int) : IntKind.u8.wrap (orI .u8 128 (IntKind.u8.wrap (andI .u8 (IntKind.u8.wrap x) 63))) = 128 + x % 64 := by
  have e : andI .u8 (IntKind.u8.wrap x) 63 = x % 64 := by
    rw [wrapU8]
    obtain ⟨m, hm⟩ : ∃ m : Nat, x % 256 = m := ⟨(x % 256).toNat, by omega⟩
    rw [hm]
    have := and8_all ⟨m, by omega⟩
    simp only at this
    rw [this]
    omega
  rw [e, wrapU8 (x % 64), Int.emod_eq_of_lt (a := x % 64) (by omega) (by omega), or8_fin 128 64 or8_128 (by omega) (by omega), wrapU8]
  omega
theorem lead8 (k : Int) (n : Nat) (h : ∀ x : _root_.Fin n, orI .u8 k (x.val : Int) = k + x.val) {y : Int} (h0 : 0 ≤ y) (h1 : y < n) (hk : 0 ≤ k ∧ k + n ≤ 256) : IntKind.u8.wrap (orI .u8 k (IntKind.u8.wrap y)) = k + y := by
  rw [wrapU8, wrapU8, Int.emod_eq_of_lt h0 (by omega), or8_fin k n h h0 h1]
  omega
theorem Fin.bytesK {bs xs : List UInt8} {rows : List (List F)} {H : Hp} {n : Nat} (e : rows = xs.map byteRow) : Fin (.own 0 5 1 (bs.map byteRow ++ rows)) (killH 0 H) n 0 1 (fun d H => H = [] ∧ d = .own 0 5 1 ((bs ++ xs).map byteRow)) := Fin.bytes e
theorem byteRow_of {x : Int} (h0 : 0 ≤ x) (h1 : x < 256) : [F.v (.int .u8 x)] = byteRow (b8 x) := (b8_row h0 h1).symm
theorem Fin.bytesO {bs : List UInt8} {H : Hp} {n : Nat} {R : D → Hp → Prop} (hR : R (.own 0 5 1 (bs.map byteRow)) []) : Fin (.own 0 5 1 (bs.map byteRow)) H n 0 1 R :=
  Fin.mk (.own 0 5 1 (bs.map byteRow)) [] hR rfl ⟨by unfold intoL intoL intoD; exact ⟨⟨rfl, by decide⟩, rfl⟩, by unfold intoH; cases H <;> trivial⟩
theorem wrapI32 {x : Int} (h1 : -2147483648 ≤ x) (h2 : x < 2147483648) : IntKind.i32.wrap x = x := by
  have e1 : (2 ^ IntKind.i32.bits : Int) = 4294967296 := by decide
  have e2 : (2 ^ (IntKind.i32.bits - 1) : Int) = 2147483648 := by decide
  unfold IntKind.wrap
  rw [e1, e2]
  simp only [show IntKind.i32.signed = true from rfl, Bool.true_and, decide_eq_true_eq]
  split <;> omega
theorem Num.id32 {x : Int} {K : Int → Prop} (h1 : -2147483648 ≤ x) (h2 : x < 2147483648) (h : K x) : Num .i32 x K := Num.wrap (by rw [wrapI32 h1 h2]; exact h)
/-- Code points as bytes. -/
def bytesOf (l : List Int) : List UInt8 := l.flatMap putB
structure BytI (l : List Int) (s : Nat × List UInt8) : Prop where
  i : s.1 ≤ l.length
  o : s.2.length ≤ 4 * s.1
  run : s.2 ++ bytesOf (l.drop s.1) = bytesOf l
theorem bytesOf_cons (c : Int) (l : List Int) : bytesOf (c :: l) = putB c ++ bytesOf l := by simp [bytesOf]
theorem bytesOf_app (l m : List Int) : bytesOf (l ++ m) = bytesOf l ++ bytesOf m := by simp [bytesOf]
theorem putB_out {c : Int} (h : c < 0 ∨ 1114111 < c) : putB c = putB 65533 := by
  have e : right c = false := by
    rw [Bool.eq_false_iff]
    intro hr
    have := right_le hr
    omega
  unfold putB
  rw [e]
  rfl
end Go.Proofs.Ytdfiegleaknleaa.Aw
