/- What num.digits answers: whether all bytes of a text are digits, for every text that Go can hold; memory that was there stays. -/
import Derived.Test.YtnddjcpnaeekcaaDoorNumA
namespace Go.Proofs.YtnddjcpnaeekcaaDoor.NumA
open Go.RowKit
def dg (c : UInt8) : Bool := 48 ≤ c && c ≤ 57
theorem dg_true {c : UInt8} (h : dg c = true) : 48 ≤ (c.toNat : Int) ∧ (c.toNat : Int) ≤ 57 := by
  simp [dg, UInt8.le_iff_toNat_le] at h; omega
theorem dg_false {c : UInt8} (h : dg c = false) : (c.toNat : Int) < 48 ∨ 57 < (c.toNat : Int) := by
  simp [dg, UInt8.le_iff_toNat_le] at h; omega
theorem take_snoc (l : List UInt8) (k : Nat) (h : k < l.length) : l.take (k + 1) = l.take k ++ [l.getD k 0] := by
  rw [List.take_succ_eq_append_getElem h]; simp [List.getD, h]
theorem all_of_take (l : List UInt8) (k : Nat) (h : k < l.length) (hc : dg (l.getD k 0) = false) : l.all dg = false := by
  rw [← Bool.not_eq_true, List.all_eq_true]
  intro H
  have := H (l.getD k 0) (by simp [List.getD, h])
  rw [hc] at this; cases this
theorem below_bytes (w : World) (e : TypeId) (s : ByteArray) : Below w.heap.size w (Lib.bytesWorld w e s) := Lib.bytesWorld_below w e s
set_option maxHeartbeats 400000 in
theorem digits25' (s : ByteArray) (r : Bool) (hr : Hid (r = s.data.toList.all dg)) (w : World) (hs : s.size ≤ 9223372036854775807) :
    Calls Tryd.prog 25 #[.string s] w fun e w' => e = .returned (.bool r) ∧ Below w.heap.size w w' := by
  have hconv := fun (w : World) => Lib.run_convert_string_bytes (P := Tryd.prog) w 9 30 5 s Tryd.underlying9 Tryd.underlying30 Tryd.underlying5
  go_enter Tryd.func25, Tryd.ntmps25
  go_wp2
  clear hconv
  obtain ⟨W, hW⟩ : ∃ W, W = Lib.bytesWorld w 5 s := ⟨_, rfl⟩
  rw [← hW]
  have hB : Below w.heap.size w W := by rw [hW]; exact below_bytes w 5 s
  have hc : ∀ k : Nat, k < s.size → W.cell? ⟨w.heap.size, k, none⟩ = some (.int .u8 (s.data.toList.getD k 0).toNat) := by
    intro k hk; rw [hW]; exact Lib.bytesWorld_cell w 5 s k hk
  clear hW
  go_loop [8] (fun i => ∃ k : Nat, k ≤ s.size ∧ i = .int .i64 k ∧ (s.data.toList.take k).all dg = true) (fun i => s.size - (intOf i).toNat)
  case atStart => exact ⟨0, Nat.zero_le _, rfl, rfl⟩
  case round =>
    obtain ⟨k, hk, rfl, hd⟩ := hrel
    have Hd := Lib.hid hd
    clear hd
    by_cases hlt : k < s.size
    · have hck := hc k hlt
      clear hc
      obtain ⟨c, hcc⟩ : ∃ c, c = s.data.toList.getD k 0 := ⟨_, rfl⟩
      rw [← hcc] at hck
      have Hc := Lib.hid hcc
      clear hcc
      cases hdc : dg c with
      | true =>
        obtain ⟨h1, h2⟩ := dg_true hdc
        have Hdc := Lib.hid hdc
        clear hdc
        go_wp2
        go_round
        case rel =>
          exact ⟨k + 1, by omega, by go_num, by rw [take_snoc _ _ (by simpa using hlt), List.all_append, Hd.out, ← Hc.out]; simp [Hdc.out]⟩
        case measure => simp [intOf]; omega
      | false =>
        have hr2 : r = false := by rw [hr.out]; exact all_of_take _ k (by simpa using hlt) (by rw [← Hc.out]; exact hdc)
        subst hr2
        have h12 := dg_false hdc
        clear hdc hr
        rcases h12 with h1 | h1
        · go_wp2
          go_ret
          exact ⟨rfl, hB⟩
        · have h2 : 48 ≤ (c.toNat : Int) := by omega
          go_wp2
          go_ret
          exact ⟨rfl, hB⟩
    · have hr2 : r = true := by rw [hr.out, ← Hd.out, List.take_of_length_le (by simp; omega)]
      subst hr2
      clear hr
      go_wp2
      go_ret
      exact ⟨rfl, hB⟩
theorem digits25 (s : ByteArray) (w : World) (hs : s.size ≤ 9223372036854775807) :
    Calls Tryd.prog 25 #[.string s] w fun e w' => e = .returned (.bool (s.data.toList.all dg)) ∧ Below w.heap.size w w' := digits25' s _ (Lib.hid rfl) w hs
end Go.Proofs.YtnddjcpnaeekcaaDoor.NumA
