/- What strconv.ParseUint answers at six digits of the base sixteen: the number; memory that was there stays. -/
import Derived.Test.YtlhegfkpgchaeaaGreatDoorSpecV
import Derived.Lib.Strings
import Derived.Lib.Walk
import Derived.Lib.ConvBytes
import Derived.Lib.Hide
import Derived.Laws.Strings3
import Derived.Laws.Closers25
import Derived.Laws.Closers25b
import Derived.WalkKit
import Derived.BigCall
import Derived.BigGuard
namespace Go.Proofs.YtlhegfkpgchaeaaGreatDoor.Hex
open Go.RowKit Go.Proofs.YtlhegfkpgchaeaaGreatDoor.Low Go.Proofs.YtlhegfkpgchaeaaGreatDoor.Giv
theorem lower_ (c : Int) (w : World) : Calls Tryz.prog 145 #[.int .u8 c] w fun e w' => e = .returned (.int .u8 (bits .or .u8 c 32)) ∧ w' = w := by
  go_enter Tryz.func145, Tryz.ntmps145
  go_wp2
  go_ret
  exact ⟨rfl, rfl⟩
theorem or_all : ∀ n : Fin 256, ((97 ≤ n.val ∧ n.val ≤ 102 → bits .or .u8 (n.val : Int) 32 = (n.val : Int)) ∧ (65 ≤ n.val ∧ n.val ≤ 70 → bits .or .u8 (n.val : Int) 32 = (n.val : Int) + 32)) := by decide +kernel
theorem or_low (c : UInt8) (h : 97 ≤ c.toNat ∧ c.toNat ≤ 102) : bits .or .u8 (c.toNat : Int) 32 = (c.toNat : Int) := (or_all ⟨c.toNat, c.toNat_lt⟩).1 h
theorem or_up (c : UInt8) (h : 65 ≤ c.toNat ∧ c.toNat ≤ 70) : bits .or .u8 (c.toNat : Int) 32 = (c.toNat : Int) + 32 := (or_all ⟨c.toNat, c.toNat_lt⟩).2 h
theorem hexV_cases (c : UInt8) (d : Int) (h : hexV c = some d) : (48 ≤ c.toNat ∧ c.toNat ≤ 57 ∧ d = c.toNat - 48) ∨ ((97 ≤ c.toNat ∧ c.toNat ≤ 102) ∧ d = c.toNat - 87) ∨ ((65 ≤ c.toNat ∧ c.toNat ≤ 70) ∧ d = c.toNat - 55) := by
  unfold hexV at h
  split at h
  · rename_i g; cases h; exact Or.inl ⟨g.1, g.2, rfl⟩
  · split at h
    · rename_i g; cases h; exact Or.inr (Or.inl ⟨g, rfl⟩)
    · split at h
      · rename_i g; cases h; exact Or.inr (Or.inr ⟨g, rfl⟩)
      · cases h
set_option maxHeartbeats 32000000 in
set_option maxRecDepth 100000 in
theorem inner (t : ByteArray) (h6 : t.size = 6) (n : Int) (hn : hexL t.data.toList 0 = some n) (w : World) :
    Calls Tryz.prog 131 #[.string t, .int .i64 16, .int .i64 32] w fun e w' => e = .returned (.tuple #[.int .u64 n, .nilIface]) ∧ w' = Lib.bytesWorld w 5 t := by
  have hemp : t.toList.isEmpty = false := by
    rw [← decide_eq_emptyBytes]
    exact decide_eq_false (fun h => by rw [h] at h6; cases h6)
  have hcv := Lib.run_convert_string_bytes (P := Tryz.prog) w 9 22 5 t (u := .string) rfl rfl rfl
  have hB : ∀ j, j < t.size → (Lib.bytesWorld w 5 t).cell? ⟨w.heap.size, j, none⟩ = some (.int .u8 (t.data.toList.getD j 0).toNat) := fun j hj => Lib.bytesWorld_cell w 5 t j hj
  obtain ⟨W1, hW1⟩ : ∃ W1, W1 = Lib.bytesWorld w 5 t := ⟨_, rfl⟩
  rw [← hW1] at hcv hB ⊢
  clear hW1
  obtain ⟨bs, hL⟩ : ∃ bs, bs = t.data.toList := ⟨_, rfl⟩
  have hLn : bs.length = t.size := by rw [hL, Lib.size_eq]
  rw [← hL] at hB hn
  clear hL
  have hmv : IntKind.u64.wrap (IntKind.u64.wrap 4294967296 - 1) = 4294967295 := by
    rw [IntKind.wrap_u64, IntKind.wrap_u64]
    decide
  have Hn := Lib.hid hn
  clear hn
  go_enter Tryz.func131, Tryz.ntmps131
  go_wp2
  go_loop [12, 13, 101] (fun vu vn vi => ∃ (k : Nat) (a : Int), vu = .bool false ∧ vn = .int .u64 a ∧ vi = .int .i64 k ∧ k ≤ t.size ∧ 0 ≤ a ∧ a ≤ 16777215 ∧ Hid (a + 1 ≤ (16 : Int) ^ k ∧ hexL (bs.drop k) a = some n))
    (fun _ _ vi => t.size - (intOf vi).toNat)
  case atStart => exact ⟨0, 0, rfl, rfl, rfl, by omega, by omega, by omega, Lib.hid ⟨by decide, Hn.out⟩⟩
  case round =>
    obtain ⟨k, a, rfl, rfl, rfl, hk, a0, a1, hh⟩ := hrel
    obtain ⟨ha, hdec⟩ := hh.out
    clear hh
    by_cases hkn : k < t.size
    · have hc := hB k hkn
      have hdrop : bs.drop k = bs[k]'(by omega) :: bs.drop (k + 1) := List.drop_eq_getElem_cons (by omega)
      have hget : bs.getD k 0 = bs[k]'(by omega) := by simp [List.getD, List.getElem?_eq_getElem (show k < bs.length by omega)]
      rw [hdrop] at hdec
      rw [hget] at hc
      generalize bs[k]'(by omega) = c at hc hdec
      have hc256 : c.toNat < 256 := c.toNat_lt
      clear hB hdrop hget
      unfold hexL at hdec
      cases hd : hexV c with
      | none => rw [hd] at hdec; cases hdec
      | some d =>
      rw [hd] at hdec
      have h3 := hexV_cases c d hd
      have ha16 : a ≤ 1048575 := by
        have hq := Nat.pow_le_pow_right (n := 16) (by decide) (show k ≤ 5 by omega)
        have e : ((16 ^ k : Nat) : Int) = (16 : Int) ^ k := by simp
        have h5 : (16 : Nat) ^ 5 = 1048576 := by decide
        omega
      have hp : (16 : Int) ^ (k + 1) = 16 ^ k * 16 := Int.pow_succ 16 k
      have HN : Hid (a * 16 + d + 1 ≤ (16 : Int) ^ (k + 1) ∧ hexL (bs.drop (k + 1)) (a * 16 + d) = some n) := Lib.hid ⟨by omega, hdec⟩
      clear hdec hp ha hd a1
      rcases h3 with ⟨h1, h2, rfl⟩ | ⟨h12, rfl⟩ | ⟨h12, rfl⟩
      · go_wp2
        refine ⟨⟨k + 1, a * 16 + ((c.toNat : Int) - 48), rfl, (by first | rfl | (congr 1; omega)), (by first | rfl | (congr 1; omega)), by omega, by omega, by omega, HN⟩, by simp [intOf]; omega⟩
      · have hlow := or_low c h12
        obtain ⟨h1, h2⟩ := h12
        go_wp2_with (go_at_call 145; refine (lower_ _ _).mono ?_; rintro e w' ⟨rfl, rfl⟩; rw [hlow])
        refine ⟨⟨k + 1, a * 16 + ((c.toNat : Int) - 87), rfl, (by first | rfl | (congr 1; omega)), (by first | rfl | (congr 1; omega)), by omega, by omega, by omega, HN⟩, by simp [intOf]; omega⟩
      · have hlow := or_up c h12
        obtain ⟨h1, h2⟩ := h12
        go_wp2_with (go_at_call 145; refine (lower_ _ _).mono ?_; rintro e w' ⟨rfl, rfl⟩; rw [hlow])
        refine ⟨⟨k + 1, a * 16 + ((c.toNat : Int) - 55), rfl, (by first | rfl | (congr 1; omega)), (by first | rfl | (congr 1; omega)), by omega, by omega, by omega, HN⟩, by simp [intOf]; omega⟩
    · have hkk : k = t.size := by omega
      subst hkk
      rw [List.drop_eq_nil_of_le (by omega)] at hdec
      cases hdec
      clear ha hB Hn
      go_wp2
      go_ret2
      exact ⟨rfl, rfl⟩
set_option maxHeartbeats 4000000 in
theorem outer (t : ByteArray) (h6 : t.size = 6) (n : Int) (hn : hexL t.data.toList 0 = some n) (w : World) :
    Calls Tryz.prog 112 #[.string t, .int .i64 16, .int .i64 32] w fun e w' => e = .returned (.tuple #[.int .u64 n, .nilIface]) ∧ Below w.heap.size w w' := by
  have I := fun W => inner t h6 n hn W
  clear hn
  go_enter Tryz.func112, Tryz.ntmps112
  go_wp2_with (go_at_call 131; refine (I _).mono ?_; rintro e w' ⟨rfl, rfl⟩)
  go_ret2
  exact ⟨rfl, Lib.bytesWorld_below _ _ _⟩
end Go.Proofs.YtlhegfkpgchaeaaGreatDoor.Hex
