/- Bytes put behind others. -/
import Derived.Test.YtofjmhigfihhbaaDoorXrB
namespace Go.Proofs.YtofjmhigfihhbaaDoor.Aw
open Go Go.RowKit Go.Lib
set_option linter.unusedVariables false
set_option linter.unusedSimpArgs false
set_option maxRecDepth 100000
def b8 (x : Int) : UInt8 := UInt8.ofNat x.toNat
theorem b8_row {x : Int} (h0 : 0 ≤ x) (h1 : x < 256) : byteRow (b8 x) = [.v (.int .u8 x)] := by
  unfold byteRow b8
  have : ((UInt8.ofNat x.toNat).toNat : Int) = x := by
    rw [UInt8.toNat_ofNat']
    omega
  rw [this]
theorem wrap8 {x : Int} (h1 : 0 ≤ x) (h2 : x < 256) : IntKind.u8.wrap x = x := by
  have e1 : (2 ^ IntKind.u8.bits : Int) = 256 := by decide
  unfold IntKind.wrap
  rw [e1]
  simp only [show IntKind.u8.signed = false from rfl, Bool.false_and, Bool.false_eq_true, if_false]
  omega
theorem shr_eq {c : Int} (n : Nat) (hn : n ≤ 64) : shrI .i64 c n = c / 2 ^ n := by
  unfold shrI
  rw [show min (n : Int).toNat IntKind.i64.bits = n by show min (n : Int).toNat 64 = n; omega]
  rw [Int.fdiv_eq_ediv_of_nonneg _ (by have : (0 : Int) < 2 ^ n := Int.pow_pos (by decide); omega)]
theorem and63 {c : Int} (h0 : 0 ≤ c) (h1 : c < 9223372036854775808) : andI .i64 c 63 = c % 64 := by
  unfold andI
  obtain ⟨m, rfl⟩ : ∃ m : Nat, c = m := ⟨c.toNat, by omega⟩
  have e : (BitVec.ofInt IntKind.i64.bits (m : Int) &&& BitVec.ofInt IntKind.i64.bits 63).toNat = m % 64 := by
    rw [BitVec.toNat_and, BitVec.toNat_ofInt, BitVec.toNat_ofInt]
    have e1 : ((m : Int) % ((2 ^ IntKind.i64.bits : Nat) : Int)).toNat = m := by
      have : ((2 ^ IntKind.i64.bits : Nat) : Int) = 18446744073709551616 := by decide
      rw [this]; omega
    have e2 : ((63 : Int) % ((2 ^ IntKind.i64.bits : Nat) : Int)).toNat = 2 ^ 6 - 1 := by decide
    rw [e1, e2, Nat.and_two_pow_sub_one_eq_mod]
  rw [e]
  omega
theorem or_fin (k : Int) (n : Nat) (h : ∀ x : _root_.Fin n, orI .i64 k (x.val : Int) = k + x.val) {y : Int} (h0 : 0 ≤ y) (h1 : y < n) : orI .i64 k y = k + y := by
  obtain ⟨m, rfl⟩ : ∃ m : Nat, y = m := ⟨y.toNat, by omega⟩
  exact h ⟨m, by omega⟩
theorem or192 {y : Int} (h0 : 0 ≤ y) (h1 : y < 32) : orI .i64 192 y = 192 + y := or_fin 192 32 (by decide +kernel) h0 h1
theorem or224 {y : Int} (h0 : 0 ≤ y) (h1 : y < 16) : orI .i64 224 y = 224 + y := or_fin 224 16 (by decide +kernel) h0 h1
theorem or240 {y : Int} (h0 : 0 ≤ y) (h1 : y < 8) : orI .i64 240 y = 240 + y := or_fin 240 8 (by decide +kernel) h0 h1
theorem or128 {y : Int} (h0 : 0 ≤ y) (h1 : y < 64) : orI .i64 128 y = 128 + y := or_fin 128 64 (by decide +kernel) h0 h1
/-- A right code point's bytes. -/
def utfB (c : Int) : List UInt8 :=
  if c < 128 then [b8 c] else if c < 2048 then [b8 (192 + c / 64), b8 (128 + c % 64)]
  else if c < 65536 then [b8 (224 + c / 4096), b8 (128 + c / 64 % 64), b8 (128 + c % 64)]
  else [b8 (240 + c / 262144), b8 (128 + c / 4096 % 64), b8 (128 + c / 64 % 64), b8 (128 + c % 64)]
def putB (c : Int) : List UInt8 := utfB (if right c then c else 65533)
theorem utf1 {c : Int} (h0 : 0 ≤ c) (h : c < 128) : [[F.v (.int .u8 (IntKind.u8.wrap c))]] = (utfB c).map byteRow := by
  unfold utfB
  rw [if_pos h, wrap8 h0 (by omega), List.map_cons, b8_row h0 (by omega)]
  rfl
theorem utf2 {c : Int} (h0 : ¬ c < 128) (h : c < 2048) : [[F.v (.int .u8 (IntKind.u8.wrap (IntKind.i64.wrap (orI .i64 192 (shrI .i64 c 6)))))], [F.v (.int .u8 (IntKind.u8.wrap (IntKind.i64.wrap (orI .i64 128 (IntKind.i64.wrap (andI .i64 c 63))))))]] = (utfB c).map byteRow := by
  unfold utfB
  have e1 : shrI .i64 c 6 = c / 64 := shr_eq 6 (by omega)
  rw [if_neg h0, if_pos h, e1, and63 (by omega) (by omega), or192 (by omega) (by omega), wrap_id (by omega) (by omega), wrap_id (x := c % 64) (by omega) (by omega), or128 (by omega) (by omega), wrap_id (by omega) (by omega), wrap8 (by omega) (by omega), wrap8 (by omega) (by omega), List.map_cons, List.map_cons, b8_row (by omega) (by omega), b8_row (by omega) (by omega)]
  rfl
theorem utf3 {c : Int} (h0 : ¬ c < 128) (h1 : ¬ c < 2048) (h : c < 65536) : [[F.v (.int .u8 (IntKind.u8.wrap (IntKind.i64.wrap (orI .i64 224 (shrI .i64 c 12)))))], [F.v (.int .u8 (IntKind.u8.wrap (IntKind.i64.wrap (orI .i64 128 (IntKind.i64.wrap (andI .i64 (shrI .i64 c 6) 63))))))], [F.v (.int .u8 (IntKind.u8.wrap (IntKind.i64.wrap (orI .i64 128 (IntKind.i64.wrap (andI .i64 c 63))))))]] = (utfB c).map byteRow := by
  unfold utfB
  have e1 : shrI .i64 c 6 = c / 64 := shr_eq 6 (by omega)
  have e2 : shrI .i64 c 12 = c / 4096 := shr_eq 12 (by omega)
  rw [if_neg h0, if_neg h1, if_pos h, e1, e2, and63 (c := c) (by omega) (by omega), and63 (c := c / 64) (by omega) (by omega), or224 (by omega) (by omega), wrap_id (x := 224 + c / 4096) (by omega) (by omega), wrap_id (x := c % 64) (by omega) (by omega), wrap_id (x := c / 64 % 64) (by omega) (by omega), or128 (y := c % 64) (by omega) (by omega), or128 (y := c / 64 % 64) (by omega) (by omega), wrap_id (x := 128 + c % 64) (by omega) (by omega), wrap_id (x := 128 + c / 64 % 64) (by omega) (by omega), wrap8 (by omega) (by omega), wrap8 (by omega) (by omega), wrap8 (by omega) (by omega), List.map_cons, List.map_cons, List.map_cons, b8_row (by omega) (by omega), b8_row (by omega) (by omega), b8_row (by omega) (by omega)]
  rfl
theorem utf4 {c : Int} (h0 : ¬ c < 128) (h1 : ¬ c < 2048) (h2 : ¬ c < 65536) (h : c ≤ 1114111) : [[F.v (.int .u8 (IntKind.u8.wrap (IntKind.i64.wrap (orI .i64 240 (shrI .i64 c 18)))))], [F.v (.int .u8 (IntKind.u8.wrap (IntKind.i64.wrap (orI .i64 128 (IntKind.i64.wrap (andI .i64 (shrI .i64 c 12) 63))))))], [F.v (.int .u8 (IntKind.u8.wrap (IntKind.i64.wrap (orI .i64 128 (IntKind.i64.wrap (andI .i64 (shrI .i64 c 6) 63))))))], [F.v (.int .u8 (IntKind.u8.wrap (IntKind.i64.wrap (orI .i64 128 (IntKind.i64.wrap (andI .i64 c 63))))))]] = (utfB c).map byteRow := by
  unfold utfB
  have e1 : shrI .i64 c 6 = c / 64 := shr_eq 6 (by omega)
  have e2 : shrI .i64 c 12 = c / 4096 := shr_eq 12 (by omega)
  have e3 : shrI .i64 c 18 = c / 262144 := shr_eq 18 (by omega)
  rw [if_neg h0, if_neg h1, if_neg h2, e1, e2, e3, and63 (c := c) (by omega) (by omega), and63 (c := c / 64) (by omega) (by omega), and63 (c := c / 4096) (by omega) (by omega), or240 (by omega) (by omega), wrap_id (x := 240 + c / 262144) (by omega) (by omega), wrap_id (x := c % 64) (by omega) (by omega), wrap_id (x := c / 64 % 64) (by omega) (by omega), wrap_id (x := c / 4096 % 64) (by omega) (by omega), or128 (y := c % 64) (by omega) (by omega), or128 (y := c / 64 % 64) (by omega) (by omega), or128 (y := c / 4096 % 64) (by omega) (by omega), wrap_id (x := 128 + c % 64) (by omega) (by omega), wrap_id (x := 128 + c / 64 % 64) (by omega) (by omega), wrap_id (x := 128 + c / 4096 % 64) (by omega) (by omega), wrap8 (by omega) (by omega), wrap8 (by omega) (by omega), wrap8 (by omega) (by omega), wrap8 (by omega) (by omega), List.map_cons, List.map_cons, List.map_cons, List.map_cons, b8_row (by omega) (by omega), b8_row (by omega) (by omega), b8_row (by omega) (by omega), b8_row (by omega) (by omega)]
  rfl
theorem Fin.bytes {bs xs : List UInt8} {rows : List (List F)} {H : Hp} {n : Nat} (e : rows = xs.map byteRow) : Fin (.own 0 5 1 (bs.map byteRow ++ rows)) H n 0 1 (fun d H => H = [] ∧ d = .own 0 5 1 ((bs ++ xs).map byteRow)) := by
  subst e
  rw [← List.map_append]
  exact Fin.mk (.own 0 5 1 ((bs ++ xs).map byteRow)) [] ⟨rfl, rfl⟩ rfl ⟨by unfold intoL intoL intoD; exact ⟨⟨rfl, by decide⟩, rfl⟩, by unfold intoH; cases H <;> trivial⟩
theorem right_le {c : Int} (h : right c = true) : 0 ≤ c ∧ c ≤ 1114111 := by
  simp only [right, Bool.and_eq_true, decide_eq_true_eq] at h
  exact h.1
end Go.Proofs.YtofjmhigfihhbaaDoor.Aw
