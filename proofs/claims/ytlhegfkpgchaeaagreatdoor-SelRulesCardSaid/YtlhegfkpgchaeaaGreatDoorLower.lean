/- What text.Lower and the reference's Lower answer: a text's bytes, each great letter made small, for every text of at most 2^47 bytes; memory that was there stays. -/
import Derived.Test.YtlhegfkpgchaeaaGreatDoorProg
import Derived.WalkKit
import Derived.WalkSmall
import Derived.Lib.ConvBytes
import Derived.Lib.AtoiErrMem
import Derived.Laws.BytesString
import Derived.Laws.Cells
import Derived.WideShapes
import Derived.Lib.Hide
namespace Go.Proofs.YtlhegfkpgchaeaaGreatDoor.Low
open Go.RowKit
theorem bstep {w a b : World} (h : Below w.heap.size w a) (k : Below a.heap.size a b) : Below w.heap.size w b := h.trans (k.mono h.size)
def str (l : List UInt8) : ByteArray := ⟨l.toArray⟩
def lowC (c : UInt8) : UInt8 := if 65 ≤ c.toNat ∧ c.toNat ≤ 90 then c + 32 else c
def lowB (s : ByteArray) : ByteArray := str (s.data.toList.map lowC)
theorem low_nat (c : UInt8) (h : 65 ≤ (c.toNat : Int) ∧ (c.toNat : Int) ≤ 90) : ((lowC c).toNat : Int) = c.toNat + 32 := by
  unfold lowC; rw [if_pos (by omega)]
  have : (c + 32).toNat = c.toNat + 32 := by rw [UInt8.toNat_add]; show (c.toNat + 32) % 256 = _; omega
  omega
theorem low_id (c : UInt8) (h : ¬ (65 ≤ (c.toNat : Int) ∧ (c.toNat : Int) ≤ 90)) : lowC c = c := by
  unfold lowC; rw [if_neg (by omega)]
theorem push_all (l : List UInt8) : ∀ (s : ByteArray), ((l.map fun c => (c.toNat : Int)).foldl (fun r n => r.push (UInt8.ofNat n.toNat)) s).data.toList = s.data.toList ++ l := by
  induction l with
  | nil => intro s; simp
  | cons c l ih =>
    intro s
    rw [List.map_cons, List.foldl_cons, ih]
    simp [ByteArray.push]
theorem conv_cells {w : World} {B n c : Nat} (l : List UInt8) (hl : l.length = n) (h : ∀ j, j < n → w.cell? ⟨B, j, none⟩ = some (.int .u8 (l.getD j 0).toNat)) :
    (convert 22 9 (.slice (some ⟨B, 0, none⟩) n c)).run Tryz.prog w = .ok (.string (str l)) w := by
  rw [run_convert_bytes_string w 22 9 5 _ _ _ Tryz.underlying22 Tryz.underlying5 Tryz.underlying9]
  have hc := run_loadCells_list (P := Tryz.prog) (w := w) ⟨B, 0, none⟩ (l.map fun c => Value.int .u8 c.toNat) (by
    intro j v hj
    have hjn : j < l.length := by
      have := (List.getElem?_eq_some_iff.1 hj).1
      simpa using this
    have e : Addr.add ⟨B, 0, none⟩ j = ⟨B, j, none⟩ := by cases j <;> simp [Addr.add]
    rw [e, h j (by omega), ← hj]
    simp [List.getD, hjn])
  rw [List.length_map, hl] at hc
  rw [run_bytesToString w _ n c (l.map fun c => (c.toNat : Int)) (by rw [List.map_map]; exact hc)]
  congr 2
  apply Go.WideShapes.bytes_inj
  rw [push_all]; rfl
theorem bytes_frozen (w : World) (e : TypeId) (s : ByteArray) (j : Nat) (hj : j < s.size) : (Lib.bytesWorld w e s).frozen? ⟨w.heap.size, j, none⟩ = false := by
  have h := Lib.bytesWorld_at_new w e s
  have hs : s.size ≤ (Lib.bytesCells w e s).size := by
    unfold Lib.bytesCells; simp
  simp [World.frozen?, h]; omega
def mid (l : List UInt8) (i : Nat) : List UInt8 := (l.take i).map lowC ++ l.drop i
theorem mid_len (l : List UInt8) (i : Nat) : (mid l i).length = l.length := by unfold mid; simp; omega
theorem mid_zero (l : List UInt8) : mid l 0 = l := by simp [mid]
theorem mid_all (l : List UInt8) (i : Nat) (h : l.length ≤ i) : mid l i = l.map lowC := by
  unfold mid; rw [List.take_of_length_le h, List.drop_of_length_le h, List.append_nil]
theorem mid_at (l : List UInt8) (i : Nat) (h : i < l.length) : (mid l i).getD i 0 = l.getD i 0 := by
  unfold mid
  have hm : ((l.take i).map lowC).length = i := by simp; omega
  simp only [List.getD]
  rw [List.getElem?_append_right (by omega), hm, Nat.sub_self, List.getElem?_drop, Nat.add_zero]
theorem mid_step (l : List UInt8) (i j : Nat) (h : i < l.length) : (mid l (i + 1)).getD j 0 = if j = i then lowC (l.getD i 0) else (mid l i).getD j 0 := by
  unfold mid
  by_cases hj : j < l.length
  · simp only [List.getD, List.getElem?_append, List.length_map, List.length_take, List.getElem?_map, List.getElem?_take, List.getElem?_drop]
    by_cases h1 : j < i
    · rw [if_pos (by omega), if_pos (by omega), if_neg (by omega), if_pos (by omega), if_pos h1]
    · by_cases h2 : j = i
      · subst h2
        rw [if_pos (by omega), if_pos (by omega), if_pos rfl, List.getElem?_eq_getElem h]; rfl
      · rw [if_neg (by omega), if_neg h2, if_neg (by omega)]
        congr 2
        have e1 : min (i + 1) l.length = i + 1 := by omega
        have e2 : min i l.length = i := by omega
        rw [e1, e2, show i + 1 + (j - (i + 1)) = j by omega, show i + (j - i) = j by omega]
  · have e1 : ((l.take (i + 1)).map lowC ++ l.drop (i + 1)).length ≤ j := by simp; omega
    have e2 : ((l.take i).map lowC ++ l.drop i).length ≤ j := by simp; omega
    rw [if_neg (by omega)]
    simp only [List.getD]
    rw [List.getElem?_eq_none e1, List.getElem?_eq_none e2]
def IsRow (w : World) (B : Nat) (l : List UInt8) : Prop := ∀ j, j < l.length → w.cell? ⟨B, j, none⟩ = some (.int .u8 (l.getD j 0).toNat) ∧ w.frozen? ⟨B, j, none⟩ = false
theorem row_new (w : World) (s : ByteArray) : IsRow (Lib.bytesWorld w 5 s) w.heap.size s.data.toList := by
  intro j hj
  have hj' : j < s.size := hj
  exact ⟨Lib.bytesWorld_cell w 5 s j hj', bytes_frozen w 5 s j hj'⟩
theorem row_step {w : World} {B : Nat} {l : List UInt8} {i : Nat} (h : IsRow w B (mid l i)) (hi : i < l.length) (x : Int) (hx : ((lowC (l.getD i 0)).toNat : Int) = x) :
    IsRow (w.setCell ⟨B, i, none⟩ (.int .u8 x)) B (mid l (i + 1)) := by
  intro j hj
  rw [mid_len] at hj
  obtain ⟨hc, hf⟩ := h j (by rw [mid_len]; exact hj)
  rw [mid_step l i j hi]
  refine ⟨?_, by rw [World.frozen?_setCell]; exact hf⟩
  by_cases e : j = i
  · subst e
    rw [if_pos rfl, hx]
    exact World.cell?_setCell_same _ _ _ hc
  · rw [if_neg e]
    exact (World.cell?_setCell_other _ _ _ _ (by intro h; cases h; exact e rfl)).trans hc
theorem row_same {w : World} {B : Nat} {l : List UInt8} {i : Nat} (h : IsRow w B (mid l i)) (hi : i < l.length) (hx : lowC (l.getD i 0) = l.getD i 0) : IsRow w B (mid l (i + 1)) := by
  intro j hj
  rw [mid_len] at hj
  obtain ⟨hc, hf⟩ := h j (by rw [mid_len]; exact hj)
  rw [mid_step l i j hi]
  by_cases e : j = i
  · subst e
    rw [if_pos rfl, hx]
    exact ⟨by rw [hc, mid_at l j hi], hf⟩
  · rw [if_neg e]; exact ⟨hc, hf⟩
set_option maxHeartbeats 1000000 in
set_option maxRecDepth 20000 in
theorem lower (s : ByteArray) (w : World) (hs : s.size ≤ 140737488355328) :
    Calls Tryz.prog 72 #[.string s] w fun e w' => e = .returned (.string (lowB s)) ∧ Below w.heap.size w w' := by
  have hconv := fun (w : World) => Lib.run_convert_string_bytes (P := Tryz.prog) w 9 22 5 s Tryz.underlying9 Tryz.underlying22 Tryz.underlying5
  go_enter Tryz.func72, Tryz.ntmps72
  go_wp2
  clear hconv
  obtain ⟨W, hW⟩ : ∃ W, W = Lib.bytesWorld w 5 s := ⟨_, rfl⟩
  rw [← hW]
  have hB : Below w.heap.size w W := by rw [hW]; exact Lib.bytesWorld_below w 5 s
  have hrow0 : IsRow W w.heap.size (mid s.data.toList 0) := by rw [hW, mid_zero]; exact row_new w s
  clear hW
  obtain ⟨cap, hcap⟩ : ∃ cap, cap = grownCap w s.size 0 5 := ⟨_, rfl⟩
  rw [← hcap]
  clear hcap
  obtain ⟨l, hl⟩ : ∃ l, l = s.data.toList := ⟨_, rfl⟩
  have hlen : l.length = s.size := by rw [hl]; rfl
  have hlow : Hid (lowB s = str (l.map lowC)) := Lib.hid (by rw [hl]; rfl)
  rw [← hl] at hrow0
  have Hlen := Lib.hid hlen
  clear hl hlen
  go_loopw [10] (fun v wr => ∃ i : Nat, v = .int .i64 i ∧ i ≤ s.size ∧ IsRow wr w.heap.size (mid l i) ∧ Below w.heap.size w wr) (fun v _ => s.size - (intOf v).toNat)
  case atStart => exact ⟨0, rfl, Nat.zero_le _, hrow0, hB⟩
  case round =>
    obtain ⟨i, rfl, hi, hrow, hb⟩ := hrel
    clear hrow0 hB
    by_cases hlt : i < s.size
    · have hil : i < l.length := by rw [Hlen.out]; exact hlt
      obtain ⟨hc, hf⟩ := hrow i (by rw [mid_len]; exact hil)
      rw [mid_at l i hil] at hc
      obtain ⟨c, hcc⟩ : ∃ c, c = l.getD i 0 := ⟨_, rfl⟩
      rw [← hcc] at hc
      have Hrow := Lib.hid hrow
      have Hil := Lib.hid hil
      have Hcc := Lib.hid hcc
      clear hrow hil hcc
      have hcb : (c.toNat : Int) < 256 := by have := c.toNat_lt; omega
      by_cases hu : 65 ≤ (c.toNat : Int) ∧ (c.toNat : Int) ≤ 90
      · have Hu := Lib.hid hu
        obtain ⟨h1, h2⟩ := hu
        go_wp2
        go_roundw
        case rel =>
          refine ⟨i + 1, by go_num, by omega, row_step Hrow.out Hil.out _ ?_, hb.setCell (p := ⟨w.heap.size, i, none⟩) (Nat.le_refl _) _⟩
          rw [← Hcc.out, low_nat c Hu.out]; try omega
        case measure => simp [intOf]; omega
      · have Hlow : Hid (lowC c = c) := Lib.hid (low_id c hu)
        have Hrow2 : Hid (IsRow wr w.heap.size (mid l (i + 1))) := Lib.hid (row_same Hrow.out Hil.out (by rw [← Hcc.out]; exact Hlow.out))
        clear Hlow
        by_cases h1 : 65 ≤ (c.toNat : Int)
        · have h2 : ¬ (c.toNat : Int) ≤ 90 := by omega
          clear hu
          go_wp2
          go_roundw
          case rel => exact ⟨i + 1, by go_num, by omega, Hrow2.out, hb⟩
          case measure => simp [intOf]; omega
        · clear hu
          go_wp2
          go_roundw
          case rel => exact ⟨i + 1, by go_num, by omega, Hrow2.out, hb⟩
          case measure => simp [intOf]; omega
    · obtain rfl : i = s.size := by omega
      have hcv := conv_cells (w := wr) (B := w.heap.size) (n := s.size) (c := cap) (mid l s.size) (by rw [mid_len, Hlen.out]) (fun j hj => (hrow j (by rw [mid_len, Hlen.out]; exact hj)).1)
      rw [mid_all l _ (by rw [Hlen.out]; exact Nat.le_refl _)] at hcv
      clear hrow
      go_wp2
      go_ret
      exact ⟨by rw [hlow.out]; rfl, hb⟩
set_option maxHeartbeats 1000000 in
set_option maxRecDepth 20000 in
theorem lowerR (s : ByteArray) (w : World) (hs : s.size ≤ 140737488355328) :
    Calls Tryz.prog 90 #[.string s] w fun e w' => e = .returned (.string (lowB s)) ∧ Below w.heap.size w w' := by
  have hconv := fun (w : World) => Lib.run_convert_string_bytes (P := Tryz.prog) w 9 22 5 s Tryz.underlying9 Tryz.underlying22 Tryz.underlying5
  go_enter Tryz.func90, Tryz.ntmps90
  go_wp2
  clear hconv
  obtain ⟨W, hW⟩ : ∃ W, W = Lib.bytesWorld w 5 s := ⟨_, rfl⟩
  rw [← hW]
  have hB : Below w.heap.size w W := by rw [hW]; exact Lib.bytesWorld_below w 5 s
  have hrow0 : IsRow W w.heap.size (mid s.data.toList 0) := by rw [hW, mid_zero]; exact row_new w s
  clear hW
  obtain ⟨cap, hcap⟩ : ∃ cap, cap = grownCap w s.size 0 5 := ⟨_, rfl⟩
  rw [← hcap]
  clear hcap
  obtain ⟨l, hl⟩ : ∃ l, l = s.data.toList := ⟨_, rfl⟩
  have hlen : l.length = s.size := by rw [hl]; rfl
  have hlow : Hid (lowB s = str (l.map lowC)) := Lib.hid (by rw [hl]; rfl)
  rw [← hl] at hrow0
  have Hlen := Lib.hid hlen
  clear hl hlen
  go_loopw [4] (fun v wr => ∃ i : Nat, v = .int .i64 i ∧ i ≤ s.size ∧ IsRow wr w.heap.size (mid l i) ∧ Below w.heap.size w wr) (fun v _ => s.size - (intOf v).toNat)
  case atStart => exact ⟨0, rfl, Nat.zero_le _, hrow0, hB⟩
  case round =>
    obtain ⟨i, rfl, hi, hrow, hb⟩ := hrel
    clear hrow0 hB
    by_cases hlt : i < s.size
    · have hil : i < l.length := by rw [Hlen.out]; exact hlt
      obtain ⟨hc, hf⟩ := hrow i (by rw [mid_len]; exact hil)
      rw [mid_at l i hil] at hc
      obtain ⟨c, hcc⟩ : ∃ c, c = l.getD i 0 := ⟨_, rfl⟩
      rw [← hcc] at hc
      have Hrow := Lib.hid hrow
      have Hil := Lib.hid hil
      have Hcc := Lib.hid hcc
      clear hrow hil hcc
      have hcb : (c.toNat : Int) < 256 := by have := c.toNat_lt; omega
      by_cases hu : 65 ≤ (c.toNat : Int) ∧ (c.toNat : Int) ≤ 90
      · have Hu := Lib.hid hu
        obtain ⟨h1, h2⟩ := hu
        go_wp2
        go_roundw
        case rel =>
          refine ⟨i + 1, by go_num, by omega, row_step Hrow.out Hil.out _ ?_, hb.setCell (p := ⟨w.heap.size, i, none⟩) (Nat.le_refl _) _⟩
          rw [← Hcc.out, low_nat c Hu.out]; try omega
        case measure => simp [intOf]; omega
      · have Hlow : Hid (lowC c = c) := Lib.hid (low_id c hu)
        have Hrow2 : Hid (IsRow wr w.heap.size (mid l (i + 1))) := Lib.hid (row_same Hrow.out Hil.out (by rw [← Hcc.out]; exact Hlow.out))
        clear Hlow
        by_cases h1 : 65 ≤ (c.toNat : Int)
        · have h2 : ¬ (c.toNat : Int) ≤ 90 := by omega
          clear hu
          go_wp2
          go_roundw
          case rel => exact ⟨i + 1, by go_num, by omega, Hrow2.out, hb⟩
          case measure => simp [intOf]; omega
        · clear hu
          go_wp2
          go_roundw
          case rel => exact ⟨i + 1, by go_num, by omega, Hrow2.out, hb⟩
          case measure => simp [intOf]; omega
    · obtain rfl : i = s.size := by omega
      have hcv := conv_cells (w := wr) (B := w.heap.size) (n := s.size) (c := cap) (mid l s.size) (by rw [mid_len, Hlen.out]) (fun j hj => (hrow j (by rw [mid_len, Hlen.out]; exact hj)).1)
      rw [mid_all l _ (by rw [Hlen.out]; exact Nat.le_refl _)] at hcv
      clear hrow
      go_wp2
      go_ret
      exact ⟨by rw [hlow.out]; rfl, hb⟩
end Go.Proofs.YtlhegfkpgchaeaaGreatDoor.Low
