/- What value.names, value.Name and value.Prop answer, for every name and number; memory that was there stays. -/
import Derived.Test.YtlhegfkpgchaeaaGreatDoorHex
import Derived.Test.YtlhegfkpgchaeaaGreatDoorWordB
import Derived.Deep.DeepCutAuto
import Derived.Deep.CutBlock
import Derived.Laws.ResultCell
import Derived.RegionTactic
import Derived.Deep.QuietTactic
import Derived.BigQuiet
import Derived.Deep.Draws
import Derived.Test.YtlhegfkpgchaeaaGreatDoorLower
namespace Go.Proofs.YtlhegfkpgchaeaaGreatDoor.Color
open Go.RowKit Go.Proofs.YtlhegfkpgchaeaaGreatDoor.Low Go.Proofs.YtlhegfkpgchaeaaGreatDoor.Map Go.Proofs.YtlhegfkpgchaeaaGreatDoor.Giv Go.Proofs.YtlhegfkpgchaeaaGreatDoor.Word Go.Proofs.YtlhegfkpgchaeaaGreatDoor.Blk
def expL (l : List UInt8) : List UInt8 := match l with | [a, b, c] => [a, a, b, b, c, c] | _ => l
def exp (s : ByteArray) : ByteArray := str (expL s.data.toList)
theorem exp_other (s : ByteArray) (h : s.size ≠ 3) : exp s = s := by
  have hl : s.data.toList.length ≠ 3 := h
  unfold exp
  have e : expL s.data.toList = s.data.toList := by
    generalize s.data.toList = l at hl
    unfold expL
    split
    · exact absurd rfl hl
    · rfl
  rw [e]; rfl
theorem three (w : World) (a b c : UInt8) (W : World)
    (hW : W = (((w.alloc (.cells #[.int .i64 0, .int .i64 0] TV)).alloc (.cells #[.int .u8 a.toNat, .int .u8 a.toNat, .int .u8 b.toNat, .int .u8 b.toNat, .int .u8 c.toNat, .int .u8 c.toNat] 5)).drew)) :
    (convert 22 9 (.slice (some ⟨w.heap.size + 1, 0, none⟩) 6 6)).run Tryz.prog W = .ok (.string (exp (str [a, b, c]))) W ∧ W.heap[w.heap.size]? = some (.cells #[.int .i64 0, .int .i64 0] TV) ∧ Below w.heap.size w W := by
  have h1 : W.heap[w.heap.size + 1]? = some (.cells #[.int .u8 a.toNat, .int .u8 a.toNat, .int .u8 b.toNat, .int .u8 b.toNat, .int .u8 c.toNat, .int .u8 c.toNat] 5) := by
    subst hW
    have := heap_alloc_at (w.alloc (.cells #[.int .i64 0, .int .i64 0] TV)) (.cells #[.int .u8 a.toNat, .int .u8 a.toNat, .int .u8 b.toNat, .int .u8 b.toNat, .int .u8 c.toNat, .int .u8 c.toNat] 5)
    rw [show (w.alloc (.cells #[.int .i64 0, .int .i64 0] TV)).heap.size = w.heap.size + 1 by simp [World.alloc, -World.alloc_eq]] at this
    exact this
  have hb : Below (w.alloc (.cells #[.int .i64 0, .int .i64 0] TV)).heap.size (w.alloc (.cells #[.int .i64 0, .int .i64 0] TV)) W := by
    subst hW
    exact below_drewN (n := 1) ((Below.refl _ _).alloc (Nat.le_refl _) _)
  refine ⟨?_, blk_below (heap_alloc_at w _) hb, bstep ((Below.refl _ w).alloc (Nat.le_refl _) _) hb⟩
  refine conv_cells [a, a, b, b, c, c] rfl (fun j hj => ?_)
  rw [blk_cell h1 j]
  match j, hj with
  | 0, _ => rfl
  | 1, _ => rfl
  | 2, _ => rfl
  | 3, _ => rfl
  | 4, _ => rfl
  | 5, _ => rfl
theorem hexAll : ∀ n : Fin 256, (((48 ≤ (lowC (UInt8.ofNat n.val)).toNat ∧ (lowC (UInt8.ofNat n.val)).toNat ≤ 57) ∨ (97 ≤ (lowC (UInt8.ofNat n.val)).toNat ∧ (lowC (UInt8.ofNat n.val)).toNat ≤ 102)) → (hexV (UInt8.ofNat n.val)).isSome = true) ∧
    (¬ ((48 ≤ (lowC (UInt8.ofNat n.val)).toNat ∧ (lowC (UInt8.ofNat n.val)).toNat ≤ 57) ∨ (97 ≤ (lowC (UInt8.ofNat n.val)).toNat ∧ (lowC (UInt8.ofNat n.val)).toNat ≤ 102)) → hexV (UInt8.ofNat n.val) = none) := by decide +kernel
theorem hex_yes (c : UInt8) (h : (48 ≤ (lowC c).toNat ∧ (lowC c).toNat ≤ 57) ∨ (97 ≤ (lowC c).toNat ∧ (lowC c).toNat ≤ 102)) : (hexV c).isSome = true := by
  have := (hexAll ⟨c.toNat, c.toNat_lt⟩).1
  simp only [UInt8.ofNat_toNat] at this
  exact this h
theorem hex_no (c : UInt8) (h : ¬ ((48 ≤ (lowC c).toNat ∧ (lowC c).toNat ≤ 57) ∨ (97 ≤ (lowC c).toNat ∧ (lowC c).toNat ≤ 102))) : hexV c = none := by
  have := (hexAll ⟨c.toNat, c.toNat_lt⟩).2
  simp only [UInt8.ofNat_toNat] at this
  exact this h
theorem hexV_room (c : UInt8) (d : Int) (h : hexV c = some d) : 0 ≤ d ∧ d ≤ 15 := by
  have := Hex.hexV_cases c d h
  omega
theorem hexL_none : ∀ (l : List UInt8) (i : Nat) (a : Int), i < l.length → hexV (l.getD i 0) = none → hexL l a = none
  | [], _, _, h, _ => by simp at h
  | c :: l, 0, a, _, h => by
    have h' : hexV c = none := h
    unfold hexL; rw [h']
  | c :: l, i + 1, a, h, h2 => by
    unfold hexL
    cases hexV c with
    | none => rfl
    | some d => exact hexL_none l i _ (by simpa using h) (by simpa using h2)
theorem hexL_some : ∀ (l : List UInt8) (a : Int), 0 ≤ a → (∀ i, i < l.length → (hexV (l.getD i 0)).isSome = true) → ∃ n, hexL l a = some n ∧ 0 ≤ n ∧ n + 1 ≤ (a + 1) * 16 ^ l.length
  | [], a, ha, _ => ⟨a, rfl, ha, by simp⟩
  | c :: l, a, ha, h => by
    have h0 : (hexV c).isSome = true := h 0 (by simp)
    cases hd : hexV c with
    | none => rw [hd] at h0; cases h0
    | some d =>
      have hr := hexV_room c d hd
      obtain ⟨n, e, n0, n1⟩ := hexL_some l (a * 16 + d) (by omega) (fun i hi => by have := h (i + 1) (by simpa using hi); simpa using this)
      refine ⟨n, by unfold hexL; rw [hd]; exact e, n0, Int.le_trans n1 ?_⟩
      rw [List.length_cons, Int.pow_succ, Int.mul_comm (16 ^ l.length) 16, ← Int.mul_assoc]
      exact Int.mul_le_mul_of_nonneg_right (by omega) (Int.pow_nonneg (by decide))
theorem colorV_exp (s : ByteArray) : colorV s.data.toList = if (exp s).size = 6 then (match hexL (exp s).data.toList 0 with | some n => ((6 : Int), n, true) | none => ((0 : Int), (0 : Int), false)) else ((0 : Int), (0 : Int), false) := rfl
def ColorPost (l : List UInt8) (w : World) (e : Ending) (w' : World) : Prop :=
  e = .returned (.tuple #[.agg #[.int .i64 (colorV l).1, .int .i64 (colorV l).2.1], .bool (colorV l).2.2]) ∧ Below w.heap.size w w'
set_option maxRecDepth 100000 in
set_option maxHeartbeats 4000000 in
theorem color (s : ByteArray) (w : World) (hs : s.size ≤ 140737488355328) :
    Calls Tryz.prog 69 #[.string s] w (ColorPost s.data.toList w) := by
  obtain ⟨m, hm⟩ : ∃ m, m = exp s := ⟨_, rfl⟩
  go_enter Tryz.func69, Tryz.ntmps69
  go_upto_if 10 with (fail)
  go_cut [0] (fun v0 wc => v0 = .string m ∧ wc.heap[w.heap.size]? = some (.cells #[.int .i64 0, .int .i64 0] TV) ∧ Below w.heap.size w wc)
  case first =>
    by_cases h3 : s.size = 3
    · obtain ⟨a, b, c, hl⟩ : ∃ a b c, s.data.toList = [a, b, c] := by
        have h : s.data.toList.length = 3 := h3
        generalize s.data.toList = l at h
        match l, h with
        | [a, b, c], _ => exact ⟨a, b, c, rfl⟩
      obtain rfl : s = str [a, b, c] := by apply Go.WideShapes.bytes_inj; rw [hl]; rfl
      clear hl hs h3
      have hsz : (str [a, b, c]).size = 3 := rfl
      obtain ⟨hcv, hblk, hbw⟩ := three w ((str [a, b, c])[0]'(by show 0 < 3; decide)) ((str [a, b, c])[1]'(by show 1 < 3; decide)) ((str [a, b, c])[2]'(by show 2 < 3; decide)) _ rfl
      have Hblk := Lib.hid hblk
      have Hbw := Lib.hid hbw
      clear hblk hbw
      go_wp2
      go_region
      go_wp2
      go_meet
      case rel => exact ⟨congrArg Value.string hm.symm, Hblk.out, Hbw.out⟩
    · have e := exp_other s h3
      rw [e] at hm
      subst hm
      go_wp2
      go_meet
      case rel => exact ⟨rfl, heap_alloc_at w _, (Below.refl _ w).alloc (Nat.le_refl _) _⟩
  case rest =>
    obtain ⟨rfl, hblk, hb⟩ := hcut
    have hcol := colorV_exp s
    rw [← hm] at hcol
    clear hm hs
    by_cases h6 : m.size = 6
    · rw [if_pos h6] at hcol
      have Hcol := Lib.hid hcol
      have Hblk := Lib.hid hblk
      have L := fun W => lower m W (by omega)
      have P := fun n hn W => Hex.outer m h6 n hn W
      have ht6 : (lowB m).size = 6 := by rw [← h6]; show (m.data.toList.map lowC).length = m.data.toList.length; simp
      have Hget : Hid (∀ j, j < 6 → (lowB m).data.toList.getD j 0 = lowC (m.data.toList.getD j 0)) := Lib.hid (by
        intro j hj
        have hl : j < m.data.toList.length := by have : m.data.toList.length = 6 := h6; omega
        show ((m.data.toList.map lowC).getD j 0) = _
        rw [List.getD_eq_getElem?_getD, List.getElem?_map, List.getD_eq_getElem?_getD, List.getElem?_eq_getElem hl]; rfl)
      clear hcol hblk
      obtain ⟨t, ht⟩ : ∃ t, t = lowB m := ⟨_, rfl⟩
      rw [← ht] at L ht6 Hget
      clear ht
      have hconv := fun (w : World) => Lib.run_convert_string_bytes (P := Tryz.prog) w 9 22 5 t Tryz.underlying9 Tryz.underlying22 Tryz.underlying5
      go_wp2_with (go_at_call 72; refine (L _).mono ?_; rintro e w1 ⟨rfl, hb1⟩)
      clear hconv L
      obtain ⟨W, hW⟩ : ∃ W, W = Lib.bytesWorld w1 5 t := ⟨_, rfl⟩
      have hBW : Below w1.heap.size w1 W := by rw [hW]; exact Lib.bytesWorld_below w1 5 t
      have hcell : Hid (∀ j, j < 6 → W.cell? ⟨w1.heap.size, j, none⟩ = some (.int .u8 (t.data.toList.getD j 0).toNat)) := Lib.hid (fun j hj => by rw [hW]; exact Lib.bytesWorld_cell w1 5 t j (by omega))
      rw [← hW]
      clear hW
      have hblk := blk_below (blk_below Hblk.out hb1) hBW
      have Hb := Lib.hid (bstep (bstep hb hb1) hBW)
      have HblkW := Lib.hid hblk
      have hc0 := blk_cell hblk 0
      have hc1 := blk_cell hblk 1
      have hf0 := blk_frozen hblk 0
      have hf1 := blk_frozen hblk 1
      clear hb hb1 hBW hblk Hblk
      obtain ⟨cap, hcap⟩ : ∃ cap, cap = grownCap w1 t.size 0 5 := ⟨_, rfl⟩
      try rw [← hcap]
      clear hcap
      go_loop [33] (fun v => ∃ i : Nat, v = .int .i64 i ∧ i ≤ 6 ∧ Hid (∀ j, j < i → (hexV (m.data.toList.getD j 0)).isSome = true)) (fun v => 6 - (intOf v).toNat)
      case atStart => exact ⟨0, rfl, Nat.zero_le _, Lib.hid (fun j hj => absurd hj (by omega))⟩
      case round =>
        obtain ⟨i, rfl, hi, hx⟩ := hrel
        by_cases hlt : i < 6
        · have hc := hcell.out i hlt
          have hg := Hget.out i hlt
          obtain ⟨x, hxx⟩ : ∃ x, x = m.data.toList.getD i 0 := ⟨_, rfl⟩
          rw [← hxx] at hg
          rw [hg] at hc
          obtain ⟨c, hcc⟩ : ∃ c, c = lowC x := ⟨_, rfl⟩
          rw [← hcc] at hc
          have hcb : (c.toNat : Int) < 256 := by have := c.toNat_lt; omega
          have Hxx := Lib.hid hxx
          have Hcc := Lib.hid hcc
          clear hxx hcc hg P
          by_cases hok : (48 ≤ c.toNat ∧ c.toNat ≤ 57) ∨ (97 ≤ c.toNat ∧ c.toNat ≤ 102)
          · have HN : Hid (∀ j, j < i + 1 → (hexV (m.data.toList.getD j 0)).isSome = true) := Lib.hid (by
              intro j hj
              by_cases e : j = i
              · subst e; rw [← Hxx.out]; exact hex_yes x (by rw [← Hcc.out]; exact hok)
              · exact hx.out j (by omega))
            clear hx
            rcases hok with ⟨h1, h2⟩ | ⟨h1, h2⟩
            · go_wp2
              go_round
              case rel => exact ⟨i + 1, by go_num, by omega, HN⟩
              case measure => simp [intOf]; omega
            · go_wp2
              go_round
              case rel => exact ⟨i + 1, by go_num, by omega, HN⟩
              case measure => simp [intOf]; omega
          · have HV : Hid (colorV s.data.toList = (0, 0, false)) := Lib.hid (by
              rw [Hcol.out, hexL_none _ i 0 (by have : m.data.toList.length = 6 := h6; omega) (by rw [← Hxx.out]; exact hex_no x (by rw [← Hcc.out]; exact hok))])
            clear hx
            go_wp2
            all_goals refine bodyPost_ret (results_ct rfl _ _ w.heap.size TV #[.int .i64 0, .int .i64 0] (0, 0) _ rfl (by refine blk_put (cs := #[.int .i64 0, .int .i64 0]) ?_ 1 _ rfl; refine blk_put (cs := #[.int .i64 0, .int .i64 0]) ?_ 0 _ rfl; exact HblkW.out) Tryz.underlying65 rfl (by kernel_rfl)) rfl ?_
            all_goals exact ⟨by rw [HV.out]; rfl, (Hb.out.setCell (p := ⟨w.heap.size, 0, none⟩) (Nat.le_refl _) _).setCell (p := ⟨w.heap.size, 1, none⟩) (Nat.le_refl _) _⟩
        · obtain rfl : i = 6 := by omega
          obtain ⟨n, hn, n0, n1⟩ := hexL_some m.data.toList 0 (by omega) (fun j hj => hx.out j (by have : m.data.toList.length = 6 := h6; omega))
          have hlen : m.data.toList.length = 6 := h6
          rw [hlen] at n1
          have n2 : n ≤ 16777215 := by have : (16 : Int) ^ 6 = 16777216 := by decide
                                       omega
          have HV : Hid (colorV s.data.toList = (6, n, true)) := Lib.hid (by rw [Hcol.out, hn])
          have P := fun W => P n hn W
          clear hx hn n1 hlen hc0 hc1 hf0 hf1
          go_wp2_with (go_at_call 112; refine (P _).mono ?_; rintro e w2 ⟨rfl, hb2⟩; have hblk := blk_below HblkW.out hb2; have hc0 := blk_cell hblk 0; have hc1 := blk_cell hblk 1; have hf0 := blk_frozen hblk 0; have hf1 := blk_frozen hblk 1; have Hblk2 := Lib.hid hblk; have Hb2 := Lib.hid (bstep Hb.out hb2); clear hblk hb2)
          refine bodyPost_ret (results_ct rfl _ _ w.heap.size TV #[.int .i64 6, .int .i64 n] (0, 0) _ rfl (by refine blk_put (cs := #[.int .i64 6, .int .i64 0]) ?_ 1 _ rfl; refine blk_put (cs := #[.int .i64 0, .int .i64 0]) ?_ 0 _ rfl; exact Hblk2.out) Tryz.underlying65 rfl (by kernel_rfl)) rfl ?_
          exact ⟨by rw [HV.out]; rfl, (Hb2.out.setCell (p := ⟨w.heap.size, 0, none⟩) (Nat.le_refl _) _).setCell (p := ⟨w.heap.size, 1, none⟩) (Nat.le_refl _) _⟩
    · rw [if_neg h6] at hcol
      have Hcol := Lib.hid hcol
      have hc0 := blk_cell hblk 0
      have hc1 := blk_cell hblk 1
      have hf0 := blk_frozen hblk 0
      have hf1 := blk_frozen hblk 1
      have Hblk := Lib.hid hblk
      clear hcol hblk
      go_wp2
      refine bodyPost_ret (results_ct rfl _ _ w.heap.size TV #[.int .i64 0, .int .i64 0] (0, 0) _ rfl (by refine blk_put (cs := #[.int .i64 0, .int .i64 0]) ?_ 1 _ rfl; refine blk_put (cs := #[.int .i64 0, .int .i64 0]) ?_ 0 _ rfl; exact Hblk.out) Tryz.underlying65 rfl (by kernel_rfl)) rfl ?_
      exact ⟨by rw [Hcol.out]; rfl, (hb.setCell (p := ⟨w.heap.size, 0, none⟩) (Nat.le_refl _) _).setCell (p := ⟨w.heap.size, 1, none⟩) (Nat.le_refl _) _⟩
end Go.Proofs.YtlhegfkpgchaeaaGreatDoor.Color

namespace Go.Proofs.YtlhegfkpgchaeaaGreatDoor.Nam
open Go.RowKit Go.Proofs.YtlhegfkpgchaeaaGreatDoor.Low
def n0 : ByteArray := ⟨#[99, 111, 108, 111, 114]⟩
def n1 : ByteArray := ⟨#[102, 111, 110, 116, 45, 115, 105, 122, 101]⟩
def n2 : ByteArray := ⟨#[116, 101, 120, 116, 45, 97, 108, 105, 103, 110]⟩
def n3 : ByteArray := ⟨#[100, 105, 115, 112, 108, 97, 121]⟩
def n4 : ByteArray := ⟨#[119, 105, 100, 116, 104]⟩
def n5 : ByteArray := ⟨#[109, 97, 114, 103, 105, 110]⟩
def n6 : ByteArray := ⟨#[111, 112, 97, 99, 105, 116, 121]⟩
def n7 : ByteArray := ⟨#[122, 45, 105, 110, 100, 101, 120]⟩
def namesA : Value := .agg #[.string n0, .string n1, .string n2, .string n3, .string n4, .string n5, .string n6, .string n7]
set_option maxHeartbeats 400000 in
theorem names (w : World) : Calls Tryz.prog 66 #[] w fun e w' => e = .returned namesA ∧ Below w.heap.size w w' := by
  go_enter Tryz.func66, Tryz.ntmps66
  go_wp2
  exact bodyPost_ret (v := namesA) (by simp [results, Tryz.results66, go_sem, namesA, n0, n1, n2, n3, n4, n5, n6, n7]) rfl ⟨rfl, (Below.refl _ _).alloc (Nat.le_refl _) _⟩
theorem at0 : ∀ w, (Instr.index 114 namesA (.int .i64 0)).run Tryz.prog w = .ok (.string n0) w := fun _ => by kernel_rfl
theorem at1 : ∀ w, (Instr.index 114 namesA (.int .i64 1)).run Tryz.prog w = .ok (.string n1) w := fun _ => by kernel_rfl
theorem at2 : ∀ w, (Instr.index 114 namesA (.int .i64 2)).run Tryz.prog w = .ok (.string n2) w := fun _ => by kernel_rfl
theorem at3 : ∀ w, (Instr.index 114 namesA (.int .i64 3)).run Tryz.prog w = .ok (.string n3) w := fun _ => by kernel_rfl
theorem at4 : ∀ w, (Instr.index 114 namesA (.int .i64 4)).run Tryz.prog w = .ok (.string n4) w := fun _ => by kernel_rfl
theorem at5 : ∀ w, (Instr.index 114 namesA (.int .i64 5)).run Tryz.prog w = .ok (.string n5) w := fun _ => by kernel_rfl
theorem at6 : ∀ w, (Instr.index 114 namesA (.int .i64 6)).run Tryz.prog w = .ok (.string n6) w := fun _ => by kernel_rfl
theorem at7 : ∀ w, (Instr.index 114 namesA (.int .i64 7)).run Tryz.prog w = .ok (.string n7) w := fun _ => by kernel_rfl
def propOf (s : ByteArray) : Int × Bool := if s = n0 then (0, true) else if s = n1 then (1, true) else if s = n2 then (2, true) else if s = n3 then (3, true) else if s = n4 then (4, true) else if s = n5 then (5, true) else if s = n6 then (6, true) else if s = n7 then (7, true) else (0, false)
theorem eqb (a b : ByteArray) : (a.toList == b.toList) = decide (a = b) := by
  rw [ByteArray.toList_eq, ByteArray.toList_eq]
  by_cases h : a = b
  · subst h; simp
  · rw [decide_eq_false h, beq_eq_false_iff_ne]; exact fun e => h (Go.WideShapes.bytes_inj e)
set_option maxHeartbeats 2000000 in
theorem prop (s : ByteArray) (w : World) : Calls Tryz.prog 34 #[.string s] w fun e w' => e = .returned (.tuple #[.int .i64 (propOf s).1, .bool (propOf s).2]) ∧ Below w.heap.size w w' := by
  obtain ⟨r, Hr⟩ : ∃ r, Hid (propOf s = r) := ⟨_, Lib.hid rfl⟩
  rw [Hr.out]
  go_enter Tryz.func34, Tryz.ntmps34
  go_wp2_with (go_at_call 66; refine (names _).mono ?_; rintro e w1 ⟨rfl, hb⟩)
  go_loop [7] (fun v => ∃ k : Nat, v = .int .i64 k ∧ k ≤ 8 ∧ (0 < k → s ≠ n0) ∧ (1 < k → s ≠ n1) ∧ (2 < k → s ≠ n2) ∧ (3 < k → s ≠ n3) ∧ (4 < k → s ≠ n4) ∧ (5 < k → s ≠ n5) ∧ (6 < k → s ≠ n6) ∧ (7 < k → s ≠ n7)) (fun v => 8 - (intOf v).toNat)
  case atStart => exact ⟨0, rfl, by omega, by omega, by omega, by omega, by omega, by omega, by omega, by omega, by omega⟩
  case round =>
    obtain ⟨k, rfl, hk, g0, g1, g2, g3, g4, g5, g6, g7⟩ := hrel
    have G := Lib.hid (And.intro g0 (And.intro g1 (And.intro g2 (And.intro g3 (And.intro g4 (And.intro g5 (And.intro g6 g7)))))))
    clear g0 g1 g2 g3 g4 g5 g6 g7
    have hkk : k = 0 ∨ k = 1 ∨ k = 2 ∨ k = 3 ∨ k = 4 ∨ k = 5 ∨ k = 6 ∨ k = 7 ∨ k = 8 := by omega
    clear hk
    rcases hkk with rfl | rfl | rfl | rfl | rfl | rfl | rfl | rfl | rfl
    · have hx := at0
      by_cases e : s = n0
      · have hq : (n0.toList == s.toList) = true := by rw [eqb, e]; simp
        have H : Hid (r = (0, true)) := Lib.hid (by
          obtain ⟨g0, g1, g2, g3, g4, g5, g6, g7⟩ := G.out
          rw [← Hr.out]; unfold propOf; rw [if_pos e])
        clear e
        go_wp2
        go_ret2
        exact ⟨by rw [H.out]; rfl, hb⟩
      · have hq : (n0.toList == s.toList) = false := by rw [eqb, decide_eq_false (fun h => e h.symm)]
        have E := Lib.hid e
        clear e
        go_wp2
        go_round
        case rel =>
          obtain ⟨g0, g1, g2, g3, g4, g5, g6, g7⟩ := G.out
          exact ⟨1, rfl, by omega, fun _ => E.out, by omega, by omega, by omega, by omega, by omega, by omega, by omega⟩
        case measure => simp [intOf]
    · have hx := at1
      by_cases e : s = n1
      · have hq : (n1.toList == s.toList) = true := by rw [eqb, e]; simp
        have H : Hid (r = (1, true)) := Lib.hid (by
          obtain ⟨g0, g1, g2, g3, g4, g5, g6, g7⟩ := G.out
          rw [← Hr.out]; unfold propOf; rw [if_neg (g0 (by omega))]; rw [if_pos e])
        clear e
        go_wp2
        go_ret2
        exact ⟨by rw [H.out]; rfl, hb⟩
      · have hq : (n1.toList == s.toList) = false := by rw [eqb, decide_eq_false (fun h => e h.symm)]
        have E := Lib.hid e
        clear e
        go_wp2
        go_round
        case rel =>
          obtain ⟨g0, g1, g2, g3, g4, g5, g6, g7⟩ := G.out
          exact ⟨2, rfl, by omega, fun _ => g0 (by omega), fun _ => E.out, by omega, by omega, by omega, by omega, by omega, by omega⟩
        case measure => simp [intOf]
    · have hx := at2
      by_cases e : s = n2
      · have hq : (n2.toList == s.toList) = true := by rw [eqb, e]; simp
        have H : Hid (r = (2, true)) := Lib.hid (by
          obtain ⟨g0, g1, g2, g3, g4, g5, g6, g7⟩ := G.out
          rw [← Hr.out]; unfold propOf; rw [if_neg (g0 (by omega))]; rw [if_neg (g1 (by omega))]; rw [if_pos e])
        clear e
        go_wp2
        go_ret2
        exact ⟨by rw [H.out]; rfl, hb⟩
      · have hq : (n2.toList == s.toList) = false := by rw [eqb, decide_eq_false (fun h => e h.symm)]
        have E := Lib.hid e
        clear e
        go_wp2
        go_round
        case rel =>
          obtain ⟨g0, g1, g2, g3, g4, g5, g6, g7⟩ := G.out
          exact ⟨3, rfl, by omega, fun _ => g0 (by omega), fun _ => g1 (by omega), fun _ => E.out, by omega, by omega, by omega, by omega, by omega⟩
        case measure => simp [intOf]
    · have hx := at3
      by_cases e : s = n3
      · have hq : (n3.toList == s.toList) = true := by rw [eqb, e]; simp
        have H : Hid (r = (3, true)) := Lib.hid (by
          obtain ⟨g0, g1, g2, g3, g4, g5, g6, g7⟩ := G.out
          rw [← Hr.out]; unfold propOf; rw [if_neg (g0 (by omega))]; rw [if_neg (g1 (by omega))]; rw [if_neg (g2 (by omega))]; rw [if_pos e])
        clear e
        go_wp2
        go_ret2
        exact ⟨by rw [H.out]; rfl, hb⟩
      · have hq : (n3.toList == s.toList) = false := by rw [eqb, decide_eq_false (fun h => e h.symm)]
        have E := Lib.hid e
        clear e
        go_wp2
        go_round
        case rel =>
          obtain ⟨g0, g1, g2, g3, g4, g5, g6, g7⟩ := G.out
          exact ⟨4, rfl, by omega, fun _ => g0 (by omega), fun _ => g1 (by omega), fun _ => g2 (by omega), fun _ => E.out, by omega, by omega, by omega, by omega⟩
        case measure => simp [intOf]
    · have hx := at4
      by_cases e : s = n4
      · have hq : (n4.toList == s.toList) = true := by rw [eqb, e]; simp
        have H : Hid (r = (4, true)) := Lib.hid (by
          obtain ⟨g0, g1, g2, g3, g4, g5, g6, g7⟩ := G.out
          rw [← Hr.out]; unfold propOf; rw [if_neg (g0 (by omega))]; rw [if_neg (g1 (by omega))]; rw [if_neg (g2 (by omega))]; rw [if_neg (g3 (by omega))]; rw [if_pos e])
        clear e
        go_wp2
        go_ret2
        exact ⟨by rw [H.out]; rfl, hb⟩
      · have hq : (n4.toList == s.toList) = false := by rw [eqb, decide_eq_false (fun h => e h.symm)]
        have E := Lib.hid e
        clear e
        go_wp2
        go_round
        case rel =>
          obtain ⟨g0, g1, g2, g3, g4, g5, g6, g7⟩ := G.out
          exact ⟨5, rfl, by omega, fun _ => g0 (by omega), fun _ => g1 (by omega), fun _ => g2 (by omega), fun _ => g3 (by omega), fun _ => E.out, by omega, by omega, by omega⟩
        case measure => simp [intOf]
    · have hx := at5
      by_cases e : s = n5
      · have hq : (n5.toList == s.toList) = true := by rw [eqb, e]; simp
        have H : Hid (r = (5, true)) := Lib.hid (by
          obtain ⟨g0, g1, g2, g3, g4, g5, g6, g7⟩ := G.out
          rw [← Hr.out]; unfold propOf; rw [if_neg (g0 (by omega))]; rw [if_neg (g1 (by omega))]; rw [if_neg (g2 (by omega))]; rw [if_neg (g3 (by omega))]; rw [if_neg (g4 (by omega))]; rw [if_pos e])
        clear e
        go_wp2
        go_ret2
        exact ⟨by rw [H.out]; rfl, hb⟩
      · have hq : (n5.toList == s.toList) = false := by rw [eqb, decide_eq_false (fun h => e h.symm)]
        have E := Lib.hid e
        clear e
        go_wp2
        go_round
        case rel =>
          obtain ⟨g0, g1, g2, g3, g4, g5, g6, g7⟩ := G.out
          exact ⟨6, rfl, by omega, fun _ => g0 (by omega), fun _ => g1 (by omega), fun _ => g2 (by omega), fun _ => g3 (by omega), fun _ => g4 (by omega), fun _ => E.out, by omega, by omega⟩
        case measure => simp [intOf]
    · have hx := at6
      by_cases e : s = n6
      · have hq : (n6.toList == s.toList) = true := by rw [eqb, e]; simp
        have H : Hid (r = (6, true)) := Lib.hid (by
          obtain ⟨g0, g1, g2, g3, g4, g5, g6, g7⟩ := G.out
          rw [← Hr.out]; unfold propOf; rw [if_neg (g0 (by omega))]; rw [if_neg (g1 (by omega))]; rw [if_neg (g2 (by omega))]; rw [if_neg (g3 (by omega))]; rw [if_neg (g4 (by omega))]; rw [if_neg (g5 (by omega))]; rw [if_pos e])
        clear e
        go_wp2
        go_ret2
        exact ⟨by rw [H.out]; rfl, hb⟩
      · have hq : (n6.toList == s.toList) = false := by rw [eqb, decide_eq_false (fun h => e h.symm)]
        have E := Lib.hid e
        clear e
        go_wp2
        go_round
        case rel =>
          obtain ⟨g0, g1, g2, g3, g4, g5, g6, g7⟩ := G.out
          exact ⟨7, rfl, by omega, fun _ => g0 (by omega), fun _ => g1 (by omega), fun _ => g2 (by omega), fun _ => g3 (by omega), fun _ => g4 (by omega), fun _ => g5 (by omega), fun _ => E.out, by omega⟩
        case measure => simp [intOf]
    · have hx := at7
      by_cases e : s = n7
      · have hq : (n7.toList == s.toList) = true := by rw [eqb, e]; simp
        have H : Hid (r = (7, true)) := Lib.hid (by
          obtain ⟨g0, g1, g2, g3, g4, g5, g6, g7⟩ := G.out
          rw [← Hr.out]; unfold propOf; rw [if_neg (g0 (by omega))]; rw [if_neg (g1 (by omega))]; rw [if_neg (g2 (by omega))]; rw [if_neg (g3 (by omega))]; rw [if_neg (g4 (by omega))]; rw [if_neg (g5 (by omega))]; rw [if_neg (g6 (by omega))]; rw [if_pos e])
        clear e
        go_wp2
        go_ret2
        exact ⟨by rw [H.out]; rfl, hb⟩
      · have hq : (n7.toList == s.toList) = false := by rw [eqb, decide_eq_false (fun h => e h.symm)]
        have E := Lib.hid e
        clear e
        go_wp2
        go_round
        case rel =>
          obtain ⟨g0, g1, g2, g3, g4, g5, g6, g7⟩ := G.out
          exact ⟨8, rfl, by omega, fun _ => g0 (by omega), fun _ => g1 (by omega), fun _ => g2 (by omega), fun _ => g3 (by omega), fun _ => g4 (by omega), fun _ => g5 (by omega), fun _ => g6 (by omega), fun _ => E.out⟩
        case measure => simp [intOf]
    · have H : Hid (r = (0, false)) := Lib.hid (by
        obtain ⟨g0, g1, g2, g3, g4, g5, g6, g7⟩ := G.out
        rw [← Hr.out]; unfold propOf; rw [if_neg (g0 (by omega))]; rw [if_neg (g1 (by omega))]; rw [if_neg (g2 (by omega))]; rw [if_neg (g3 (by omega))]; rw [if_neg (g4 (by omega))]; rw [if_neg (g5 (by omega))]; rw [if_neg (g6 (by omega))]; rw [if_neg (g7 (by omega))])
      go_wp2
      go_ret2
      exact ⟨by rw [H.out]; rfl, hb⟩
end Go.Proofs.YtlhegfkpgchaeaaGreatDoor.Nam

