/- What value.word answers: the value of a word, in any case; memory that was there stays. -/
import Derived.Test.YtlhegfkpgchaeaaGreatDoorSpecV
import Derived.Test.YtlhegfkpgchaeaaGreatDoorBlk
namespace Go.Proofs.YtlhegfkpgchaeaaGreatDoor.Word
open Go.RowKit Go.Proofs.YtlhegfkpgchaeaaGreatDoor.Low Go.Proofs.YtlhegfkpgchaeaaGreatDoor.Map Go.Proofs.YtlhegfkpgchaeaaGreatDoor.Blk
theorem eq_list (t : ByteArray) (l : List UInt8) : (t = ⟨l.toArray⟩) ↔ t.data.toList = l := by
  constructor
  · rintro rfl; rfl
  · intro h; apply Go.WideShapes.bytes_inj; rw [h]
theorem look_keys (p : Int) (t : ByteArray) : lookL t (keysL p) = (Giv.keyV p t.data.toList).map (fun x => vv x.1 x.2) := by
  have go : ∀ (l : List UInt8) (v : Value) (r : List (ByteArray × Value)), lookL t (kv l v :: r) = if t.data.toList = l then some v else lookL t r := by
    intro l v r
    show (if t = _ then _ else _) = _
    simp only [eq_list]
  unfold keysL Giv.keyV
  by_cases h0 : p = 0
  · rw [if_pos h0, if_pos h0]; (repeat rw [go]); simp only [apply_ite (Option.map (fun x : Int × Int => vv x.1 x.2)), Option.map_some, Option.map_none, lookL]
  · rw [if_neg h0, if_neg h0]
    by_cases h2 : p = 2
    · rw [if_pos h2, if_pos h2]; (repeat rw [go]); simp only [apply_ite (Option.map (fun x : Int × Int => vv x.1 x.2)), Option.map_some, Option.map_none, lookL]
    · rw [if_neg h2, if_neg h2]
      by_cases h3 : p = 3
      · rw [if_pos h3, if_pos h3]; (repeat rw [go]); simp only [apply_ite (Option.map (fun x : Int × Int => vv x.1 x.2)), Option.map_some, Option.map_none, lookL]
      · rw [if_neg h3, if_neg h3]
        by_cases h4 : p = 4 ∨ p = 7
        · rw [if_pos h4, if_pos h4]; (repeat rw [go]); simp only [apply_ite (Option.map (fun x : Int × Int => vv x.1 x.2)), Option.map_some, Option.map_none, lookL]
        · rw [if_neg h4, if_neg h4]; rfl
def WordPost (p : Int) (t : List UInt8) (w : World) (e : Ending) (w' : World) : Prop :=
  e = .returned (.tuple #[.agg #[.int .i64 (Giv.wordV p t).1, .int .i64 (Giv.wordV p t).2.1], .bool (Giv.wordV p t).2.2]) ∧ Below w.heap.size w w'
theorem lt_of_some {h : Array Obj} {i : Nat} {o : Obj} (e : h[i]? = some o) : i < h.size := by
  rcases Nat.lt_or_ge i h.size with h' | h'
  · exact h'
  · rw [Array.getElem?_eq_none h'] at e; cases e
theorem zeroV : ∀ w, (zeroValue 65).run Tryz.prog w = .ok (vv 0 0) w := fun _ => by kernel_rfl
abbrev TV : TypeId := 65
set_option maxRecDepth 100000 in
set_option maxHeartbeats 1000000 in
theorem word (p : Int) (s : ByteArray) (w : World) (hs : s.size ≤ 140737488355328) :
    Calls Tryz.prog 68 #[.int .i64 p, .string s] w (WordPost p (lowB s).data.toList w) := by
  have L := fun W => lower s W hs
  generalize lowB s = t at *
  have K := fun W => keys p W
  by_cases h1 : t.data.toList = [105, 110, 104, 101, 114, 105, 116]
  · have H : Hid (Giv.wordV p t.data.toList = (7, 0, true)) := Lib.hid (by unfold Giv.wordV; rw [if_pos h1])
    have e1 : (t.toList == ([105, 110, 104, 101, 114, 105, 116] : List UInt8)) = true := by rw [ByteArray.toList_eq, beq_iff_eq]; exact h1
    clear h1
    go_enter Tryz.func68, Tryz.ntmps68
    go_wp2_with (first | (go_at_call 72; refine (L _).mono ?_; rintro e w1 ⟨rfl, hb⟩; have hblk := blk_below (heap_alloc_at w _) hb; have hc0 := blk_cell hblk 0; have hc1 := blk_cell hblk 1; have hf0 := blk_frozen hblk 0; have hf1 := blk_frozen hblk 1; have hbw := bstep ((Below.refl w.heap.size w).alloc (Nat.le_refl _) _) hb; have Hblk := Lib.hid hblk; clear hblk hb))
    refine bodyPost_ret (results_ct rfl _ _ w.heap.size TV #[.int .i64 7, .int .i64 0] (0, 0) _ rfl (by refine blk_put (cs := #[.int .i64 7, .int .i64 0]) ?_ 1 _ rfl; refine blk_put (cs := #[.int .i64 0, .int .i64 0]) ?_ 0 _ rfl; exact Hblk.out) Tryz.underlying65 rfl (by kernel_rfl)) rfl ?_
    exact ⟨by rw [H.out]; rfl, (hbw.setCell (p := ⟨w.heap.size, 0, none⟩) (Nat.le_refl _) _).setCell (p := ⟨w.heap.size, 1, none⟩) (Nat.le_refl _) _⟩
  · skip
    by_cases h2 : t.data.toList = [105, 110, 105, 116, 105, 97, 108]
    · have H : Hid (Giv.wordV p t.data.toList = (8, 0, true)) := Lib.hid (by unfold Giv.wordV; rw [if_neg h1, if_pos h2])
      have e1 : (t.toList == ([105, 110, 104, 101, 114, 105, 116] : List UInt8)) = false := by rw [ByteArray.toList_eq, beq_eq_false_iff_ne]; exact h1
      have e2 : (t.toList == ([105, 110, 105, 116, 105, 97, 108] : List UInt8)) = true := by rw [ByteArray.toList_eq, beq_iff_eq]; exact h2
      clear h1 h2
      go_enter Tryz.func68, Tryz.ntmps68
      go_wp2_with (first | (go_at_call 72; refine (L _).mono ?_; rintro e w1 ⟨rfl, hb⟩; have hblk := blk_below (heap_alloc_at w _) hb; have hc0 := blk_cell hblk 0; have hc1 := blk_cell hblk 1; have hf0 := blk_frozen hblk 0; have hf1 := blk_frozen hblk 1; have hbw := bstep ((Below.refl w.heap.size w).alloc (Nat.le_refl _) _) hb; have Hblk := Lib.hid hblk; clear hblk hb))
      refine bodyPost_ret (results_ct rfl _ _ w.heap.size TV #[.int .i64 8, .int .i64 0] (0, 0) _ rfl (by refine blk_put (cs := #[.int .i64 8, .int .i64 0]) ?_ 1 _ rfl; refine blk_put (cs := #[.int .i64 0, .int .i64 0]) ?_ 0 _ rfl; exact Hblk.out) Tryz.underlying65 rfl (by kernel_rfl)) rfl ?_
      exact ⟨by rw [H.out]; rfl, (hbw.setCell (p := ⟨w.heap.size, 0, none⟩) (Nat.le_refl _) _).setCell (p := ⟨w.heap.size, 1, none⟩) (Nat.le_refl _) _⟩
    · skip
      by_cases h3 : t.data.toList = [117, 110, 115, 101, 116]
      · have H : Hid (Giv.wordV p t.data.toList = (9, 0, true)) := Lib.hid (by unfold Giv.wordV; rw [if_neg h1, if_neg h2, if_pos h3])
        have e1 : (t.toList == ([105, 110, 104, 101, 114, 105, 116] : List UInt8)) = false := by rw [ByteArray.toList_eq, beq_eq_false_iff_ne]; exact h1
        have e2 : (t.toList == ([105, 110, 105, 116, 105, 97, 108] : List UInt8)) = false := by rw [ByteArray.toList_eq, beq_eq_false_iff_ne]; exact h2
        have e3 : (t.toList == ([117, 110, 115, 101, 116] : List UInt8)) = true := by rw [ByteArray.toList_eq, beq_iff_eq]; exact h3
        clear h1 h2 h3
        go_enter Tryz.func68, Tryz.ntmps68
        go_wp2_with (first | (go_at_call 72; refine (L _).mono ?_; rintro e w1 ⟨rfl, hb⟩; have hblk := blk_below (heap_alloc_at w _) hb; have hc0 := blk_cell hblk 0; have hc1 := blk_cell hblk 1; have hf0 := blk_frozen hblk 0; have hf1 := blk_frozen hblk 1; have hbw := bstep ((Below.refl w.heap.size w).alloc (Nat.le_refl _) _) hb; have Hblk := Lib.hid hblk; clear hblk hb))
        refine bodyPost_ret (results_ct rfl _ _ w.heap.size TV #[.int .i64 9, .int .i64 0] (0, 0) _ rfl (by refine blk_put (cs := #[.int .i64 9, .int .i64 0]) ?_ 1 _ rfl; refine blk_put (cs := #[.int .i64 0, .int .i64 0]) ?_ 0 _ rfl; exact Hblk.out) Tryz.underlying65 rfl (by kernel_rfl)) rfl ?_
        exact ⟨by rw [H.out]; rfl, (hbw.setCell (p := ⟨w.heap.size, 0, none⟩) (Nat.le_refl _) _).setCell (p := ⟨w.heap.size, 1, none⟩) (Nat.le_refl _) _⟩
      · skip
        have e1 : (t.toList == ([105, 110, 104, 101, 114, 105, 116] : List UInt8)) = false := by rw [ByteArray.toList_eq, beq_eq_false_iff_ne]; exact h1
        have e2 : (t.toList == ([105, 110, 105, 116, 105, 97, 108] : List UInt8)) = false := by rw [ByteArray.toList_eq, beq_eq_false_iff_ne]; exact h2
        have e3 : (t.toList == ([117, 110, 115, 101, 116] : List UInt8)) = false := by rw [ByteArray.toList_eq, beq_eq_false_iff_ne]; exact h3
        have H0 : Giv.wordV p t.data.toList = (match Giv.keyV p t.data.toList with | some (k, n) => (k, n, true) | none => (0, 0, false)) := by unfold Giv.wordV; rw [if_neg h1, if_neg h2, if_neg h3]; cases Giv.keyV p t.data.toList <;> rfl
        clear h1 h2 h3
        have hlk := look_keys p t
        obtain ⟨x, y, b, hx, H⟩ : ∃ x y b, (∀ e, ((e = (none : Option Nat) ∧ keysL p = []) ∨ True) → True) ∧ Hid (Giv.wordV p t.data.toList = (x, y, b) ∧ (lookL t (keysL p)).getD (vv 0 0) = vv x y ∧ (lookL t (keysL p)).isSome = b) := by
          cases hk : Giv.keyV p t.data.toList with
          | none => exact ⟨0, 0, false, fun _ _ => trivial, Lib.hid ⟨by rw [H0, hk], by rw [hlk, hk]; rfl, by rw [hlk, hk]; rfl⟩⟩
          | some z => exact ⟨z.1, z.2, true, fun _ _ => trivial, Lib.hid ⟨by rw [H0, hk], by rw [hlk, hk]; rfl, by rw [hlk, hk]; rfl⟩⟩
        clear H0 hlk hx
        go_enter Tryz.func68, Tryz.ntmps68
        go_wp2_with (first | (go_at_call 72; refine (L _).mono ?_; rintro e w1 ⟨rfl, hb⟩; have hblk := blk_below (heap_alloc_at w _) hb; have hbw := bstep ((Below.refl w.heap.size w).alloc (Nat.le_refl _) _) hb; have Hblk := Lib.hid hblk; clear hblk hb) | (go_at_call 111; refine (K _).mono ?_; rintro e w2 ⟨hb2, hor⟩; have hblk := blk_below Hblk.out hb2; have hal := fun o => blk_below hblk ((Below.refl w2.heap.size w2).alloc (Nat.le_refl _) o); have hc0 := fun o => blk_cell (hal o) 0; have hc1 := fun o => blk_cell (hal o) 1; have hf0 := fun o => blk_frozen (hal o) 0; have hf1 := fun o => blk_frozen (hal o) 1; have Hal := Lib.hid hal; clear hal; have hbw2 := bstep hbw hb2; have Hblk2 := Lib.hid hblk; clear hblk; obtain ⟨mv, rfl, hlk⟩ : ∃ mv, e = .returned mv ∧ (Instr.lookup 136 mv (.string t) true).run Tryz.prog w2 = (.ok (.tuple #[.agg #[.int .i64 x, .int .i64 y], .bool b]) w2) := (by obtain ⟨h1, h2⟩ | ⟨b', h1, h2⟩ := hor <;> first | (refine ⟨_, h1, ?_⟩; obtain ⟨H1, H2, H3⟩ := H.out; unfold vv at H2; rw [h2] at H2 H3; rw [run_look_nil _ _ _ t (vv 0 0) rfl rfl (zeroV w2), ← H2, ← H3]; rfl) | (refine ⟨_, h1, ?_⟩; obtain ⟨H1, H2, H3⟩ := H.out; rw [run_look _ _ _ b' (keysL p) t (vv 0 0) rfl rfl (zeroV w2) h2, H2, H3]; rfl)); clear hor hb2))
        refine bodyPost_ret (results_ct rfl _ _ w.heap.size TV #[.int .i64 x, .int .i64 y] (0, 0) _ rfl (by refine blk_put (cs := #[.int .i64 x, .int .i64 0]) ?_ 1 _ rfl; refine blk_put (cs := #[.int .i64 0, .int .i64 0]) ?_ 0 _ rfl; exact Hal.out _) Tryz.underlying65 rfl (by kernel_rfl)) rfl ?_
        exact ⟨by rw [H.out.1]; rfl, ((hbw2.alloc (Nat.le_of_lt (lt_of_some Hblk2.out)) _).setCell (p := ⟨w.heap.size, 0, none⟩) (Nat.le_refl _) _).setCell (p := ⟨w.heap.size, 1, none⟩) (Nat.le_refl _) _⟩
end Go.Proofs.YtlhegfkpgchaeaaGreatDoor.Word
