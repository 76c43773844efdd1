/- What value.keys and value.word answer: the words of each property, in any case; memory that was there stays. -/
/- What value.word answers: the value of a word, in any case; memory that was there stays. -/
import Derived.Test.YtofjmhigfihhbaaDoorMap
import Derived.Test.YtofjmhigfihhbaaDoorSpecV
import Derived.Test.YtofjmhigfihhbaaDoorBlk
namespace Go.Proofs.YtofjmhigfihhbaaDoor.Word
open Go.RowKit Go.Proofs.YtofjmhigfihhbaaDoor.Low Go.Proofs.YtofjmhigfihhbaaDoor.Map
def vv (k n : Int) : Value := .agg #[.int .i64 k, .int .i64 n]
set_option maxHeartbeats 400000 in
theorem keyC (n : Int) (w : World) : Calls Tryd.prog 33 #[.int .i64 n] w fun e w' => e = .returned (vv 1 n) ∧ Below w.heap.size w w' := by
  go_enter Tryd.func33, Tryd.ntmps33
  go_wp2
  exact bodyPost_ret (v := vv 1 n) (by simp [results, Tryd.results33, go_sem, vv]) rfl ⟨rfl, (Below.refl _ _).alloc (Nat.le_refl _) _⟩
set_option maxHeartbeats 400000 in
theorem colC (n : Int) (w : World) : Calls Tryd.prog 34 #[.int .i64 n] w fun e w' => e = .returned (vv 6 n) ∧ Below w.heap.size w w' := by
  go_enter Tryd.func34, Tryd.ntmps34
  go_wp2
  exact bodyPost_ret (v := vv 6 n) (by simp [results, Tryd.results34, go_sem, vv]) rfl ⟨rfl, (Below.refl _ _).alloc (Nat.le_refl _) _⟩
abbrev kv (l : List UInt8) (v : Value) : ByteArray × Value := (⟨l.toArray⟩, v)
def keysL (p : Int) : List (ByteArray × Value) :=
  if p = 0 then [kv [98, 108, 97, 99, 107] (vv 6 0), kv [119, 104, 105, 116, 101] (vv 6 16777215), kv [114, 101, 100] (vv 6 16711680), kv [103, 114, 101, 101, 110] (vv 6 32768), kv [98, 108, 117, 101] (vv 6 255)]
  else if p = 2 then [kv [108, 101, 102, 116] (vv 1 0), kv [114, 105, 103, 104, 116] (vv 1 1), kv [99, 101, 110, 116, 101, 114] (vv 1 2)]
  else if p = 3 then [kv [110, 111, 110, 101] (vv 1 0), kv [98, 108, 111, 99, 107] (vv 1 1), kv [105, 110, 108, 105, 110, 101] (vv 1 2)]
  else if p = 4 ∨ p = 7 then [kv [97, 117, 116, 111] (vv 1 0)]
  else []
/-- What keys hands back. -/
def KeysPost (p : Int) (w : World) (e : Ending) (w' : World) : Prop :=
  Below w.heap.size w w' ∧ ((e = .returned (.map none) ∧ keysL p = []) ∨ ∃ b, e = .returned (.map (some b)) ∧ MapAt w' b (keysL p))
set_option maxHeartbeats 1000000 in
set_option maxRecDepth 100000 in
theorem keys0 (w : World) : Calls Tryd.prog 29 #[.int .i64 0] w (KeysPost 0 w) := by
  go_enter Tryd.func29, Tryd.ntmps29
  go_wp2_with (first | (refine wpList_makeMap_new _ rfl _ rfl ?_; intro w1 hM hBW) | (go_at_call 34; refine (colC _ _).mono ?_; rintro e w2 ⟨rfl, hb1⟩; replace hM := hM.below hb1; replace hBW := bstep hBW hb1; clear hb1) | (refine wpList_insert_new _ rfl _ _ _ _ rfl _ _ Tryd.underlying58 Tryd.underlying9 w.heap.size w.heap.size _ rfl hM ⟨#[98, 108, 97, 99, 107]⟩ (vv 6 0) rfl rfl (by decide) (Nat.le_refl _) ?_; intro w2 hM2 hb1; replace hM := hM2; replace hBW := hBW.trans hb1; clear hb1 hM2) | (refine wpList_insert_new _ rfl _ _ _ _ rfl _ _ Tryd.underlying58 Tryd.underlying9 w.heap.size w.heap.size _ rfl hM ⟨#[119, 104, 105, 116, 101]⟩ (vv 6 16777215) rfl rfl (by decide) (Nat.le_refl _) ?_; intro w2 hM2 hb1; replace hM := hM2; replace hBW := hBW.trans hb1; clear hb1 hM2) | (refine wpList_insert_new _ rfl _ _ _ _ rfl _ _ Tryd.underlying58 Tryd.underlying9 w.heap.size w.heap.size _ rfl hM ⟨#[114, 101, 100]⟩ (vv 6 16711680) rfl rfl (by decide) (Nat.le_refl _) ?_; intro w2 hM2 hb1; replace hM := hM2; replace hBW := hBW.trans hb1; clear hb1 hM2) | (refine wpList_insert_new _ rfl _ _ _ _ rfl _ _ Tryd.underlying58 Tryd.underlying9 w.heap.size w.heap.size _ rfl hM ⟨#[103, 114, 101, 101, 110]⟩ (vv 6 32768) rfl rfl (by decide) (Nat.le_refl _) ?_; intro w2 hM2 hb1; replace hM := hM2; replace hBW := hBW.trans hb1; clear hb1 hM2) | (refine wpList_insert_new _ rfl _ _ _ _ rfl _ _ Tryd.underlying58 Tryd.underlying9 w.heap.size w.heap.size _ rfl hM ⟨#[98, 108, 117, 101]⟩ (vv 6 255) rfl rfl (by decide) (Nat.le_refl _) ?_; intro w2 hM2 hb1; replace hM := hM2; replace hBW := hBW.trans hb1; clear hb1 hM2))
  go_ret
  exact ⟨hBW, .inr ⟨_, rfl, hM⟩⟩
set_option maxHeartbeats 1000000 in
set_option maxRecDepth 100000 in
theorem keys2 (w : World) : Calls Tryd.prog 29 #[.int .i64 2] w (KeysPost 2 w) := by
  go_enter Tryd.func29, Tryd.ntmps29
  go_wp2_with (first | (refine wpList_makeMap_new _ rfl _ rfl ?_; intro w1 hM hBW) | (go_at_call 33; refine (keyC _ _).mono ?_; rintro e w2 ⟨rfl, hb1⟩; replace hM := hM.below hb1; replace hBW := bstep hBW hb1; clear hb1) | (refine wpList_insert_new _ rfl _ _ _ _ rfl _ _ Tryd.underlying58 Tryd.underlying9 w.heap.size w.heap.size _ rfl hM ⟨#[108, 101, 102, 116]⟩ (vv 1 0) rfl rfl (by decide) (Nat.le_refl _) ?_; intro w2 hM2 hb1; replace hM := hM2; replace hBW := hBW.trans hb1; clear hb1 hM2) | (refine wpList_insert_new _ rfl _ _ _ _ rfl _ _ Tryd.underlying58 Tryd.underlying9 w.heap.size w.heap.size _ rfl hM ⟨#[114, 105, 103, 104, 116]⟩ (vv 1 1) rfl rfl (by decide) (Nat.le_refl _) ?_; intro w2 hM2 hb1; replace hM := hM2; replace hBW := hBW.trans hb1; clear hb1 hM2) | (refine wpList_insert_new _ rfl _ _ _ _ rfl _ _ Tryd.underlying58 Tryd.underlying9 w.heap.size w.heap.size _ rfl hM ⟨#[99, 101, 110, 116, 101, 114]⟩ (vv 1 2) rfl rfl (by decide) (Nat.le_refl _) ?_; intro w2 hM2 hb1; replace hM := hM2; replace hBW := hBW.trans hb1; clear hb1 hM2))
  go_ret
  exact ⟨hBW, .inr ⟨_, rfl, hM⟩⟩
set_option maxHeartbeats 1000000 in
set_option maxRecDepth 100000 in
theorem keys3 (w : World) : Calls Tryd.prog 29 #[.int .i64 3] w (KeysPost 3 w) := by
  go_enter Tryd.func29, Tryd.ntmps29
  go_wp2_with (first | (refine wpList_makeMap_new _ rfl _ rfl ?_; intro w1 hM hBW) | (go_at_call 33; refine (keyC _ _).mono ?_; rintro e w2 ⟨rfl, hb1⟩; replace hM := hM.below hb1; replace hBW := bstep hBW hb1; clear hb1) | (refine wpList_insert_new _ rfl _ _ _ _ rfl _ _ Tryd.underlying58 Tryd.underlying9 w.heap.size w.heap.size _ rfl hM ⟨#[110, 111, 110, 101]⟩ (vv 1 0) rfl rfl (by decide) (Nat.le_refl _) ?_; intro w2 hM2 hb1; replace hM := hM2; replace hBW := hBW.trans hb1; clear hb1 hM2) | (refine wpList_insert_new _ rfl _ _ _ _ rfl _ _ Tryd.underlying58 Tryd.underlying9 w.heap.size w.heap.size _ rfl hM ⟨#[98, 108, 111, 99, 107]⟩ (vv 1 1) rfl rfl (by decide) (Nat.le_refl _) ?_; intro w2 hM2 hb1; replace hM := hM2; replace hBW := hBW.trans hb1; clear hb1 hM2) | (refine wpList_insert_new _ rfl _ _ _ _ rfl _ _ Tryd.underlying58 Tryd.underlying9 w.heap.size w.heap.size _ rfl hM ⟨#[105, 110, 108, 105, 110, 101]⟩ (vv 1 2) rfl rfl (by decide) (Nat.le_refl _) ?_; intro w2 hM2 hb1; replace hM := hM2; replace hBW := hBW.trans hb1; clear hb1 hM2))
  go_ret
  exact ⟨hBW, .inr ⟨_, rfl, hM⟩⟩
set_option maxHeartbeats 1000000 in
set_option maxRecDepth 100000 in
theorem keys4 (w : World) : Calls Tryd.prog 29 #[.int .i64 4] w (KeysPost 4 w) := by
  go_enter Tryd.func29, Tryd.ntmps29
  go_wp2_with (first | (refine wpList_makeMap_new _ rfl _ rfl ?_; intro w1 hM hBW) | (go_at_call 33; refine (keyC _ _).mono ?_; rintro e w2 ⟨rfl, hb1⟩; replace hM := hM.below hb1; replace hBW := bstep hBW hb1; clear hb1) | (refine wpList_insert_new _ rfl _ _ _ _ rfl _ _ Tryd.underlying58 Tryd.underlying9 w.heap.size w.heap.size _ rfl hM ⟨#[97, 117, 116, 111]⟩ (vv 1 0) rfl rfl (by decide) (Nat.le_refl _) ?_; intro w2 hM2 hb1; replace hM := hM2; replace hBW := hBW.trans hb1; clear hb1 hM2))
  go_ret
  exact ⟨hBW, .inr ⟨_, rfl, hM⟩⟩
set_option maxHeartbeats 1000000 in
set_option maxRecDepth 100000 in
theorem keys7 (w : World) : Calls Tryd.prog 29 #[.int .i64 7] w (KeysPost 7 w) := by
  go_enter Tryd.func29, Tryd.ntmps29
  go_wp2_with (first | (refine wpList_makeMap_new _ rfl _ rfl ?_; intro w1 hM hBW) | (go_at_call 33; refine (keyC _ _).mono ?_; rintro e w2 ⟨rfl, hb1⟩; replace hM := hM.below hb1; replace hBW := bstep hBW hb1; clear hb1) | (refine wpList_insert_new _ rfl _ _ _ _ rfl _ _ Tryd.underlying58 Tryd.underlying9 w.heap.size w.heap.size _ rfl hM ⟨#[97, 117, 116, 111]⟩ (vv 1 0) rfl rfl (by decide) (Nat.le_refl _) ?_; intro w2 hM2 hb1; replace hM := hM2; replace hBW := hBW.trans hb1; clear hb1 hM2))
  go_ret
  exact ⟨hBW, .inr ⟨_, rfl, hM⟩⟩
set_option maxHeartbeats 1000000 in
theorem keysNo (p : Int) (h0 : ¬ p = 0) (h2 : ¬ p = 2) (h3 : ¬ p = 3) (h4 : ¬ p = 4) (h7 : ¬ p = 7) (w : World) : Calls Tryd.prog 29 #[.int .i64 p] w (KeysPost p w) := by
  have hk : Hid (keysL p = []) := Lib.hid (by unfold keysL; rw [if_neg h0, if_neg h2, if_neg h3, if_neg (by omega)])
  go_enter Tryd.func29, Tryd.ntmps29
  go_wp2
  go_ret
  exact ⟨Below.refl _ _, .inl ⟨rfl, hk.out⟩⟩
theorem keys (p : Int) (w : World) : Calls Tryd.prog 29 #[.int .i64 p] w (KeysPost p w) := by
  by_cases h0 : p = 0
  · subst h0; exact keys0 w
  · by_cases h2 : p = 2
    · subst h2; exact keys2 w
    · by_cases h3 : p = 3
      · subst h3; exact keys3 w
      · by_cases h4 : p = 4
        · subst h4; exact keys4 w
        · by_cases h7 : p = 7
          · subst h7; exact keys7 w
          · exact keysNo p h0 h2 h3 h4 h7 w
end Go.Proofs.YtofjmhigfihhbaaDoor.Word

namespace Go.Proofs.YtofjmhigfihhbaaDoor.Word
open Go.RowKit Go.Proofs.YtofjmhigfihhbaaDoor.Low Go.Proofs.YtofjmhigfihhbaaDoor.Map Go.Proofs.YtofjmhigfihhbaaDoor.Blk
theorem eq_list (t : ByteArray) (l : List UInt8) : (t = ⟨l.toArray⟩) ↔ t.data.toList = l := by
  constructor
  · rintro rfl; rfl
  · intro h; apply Go.WideShapes.bytes_inj; rw [h]
theorem look_keys (p : Int) (t : ByteArray) : lookL t (keysL p) = (Giv.keyV p t.data.toList).map (fun x => vv x.1 x.2) := by
  have go : ∀ (l : List UInt8) (v : Value) (r : List (ByteArray × Value)), lookL t (kv l v :: r) = if t.data.toList = l then some v else lookL t r := by
    intro l v r
    show (if t = _ then _ else _) = _
    simp only [eq_list]
  unfold keysL Giv.keyV
  by_cases h0 : p = 0
  · rw [if_pos h0, if_pos h0]; (repeat rw [go]); simp only [apply_ite (Option.map (fun x : Int × Int => vv x.1 x.2)), Option.map_some, Option.map_none, lookL]
  · rw [if_neg h0, if_neg h0]
    by_cases h2 : p = 2
    · rw [if_pos h2, if_pos h2]; (repeat rw [go]); simp only [apply_ite (Option.map (fun x : Int × Int => vv x.1 x.2)), Option.map_some, Option.map_none, lookL]
    · rw [if_neg h2, if_neg h2]
      by_cases h3 : p = 3
      · rw [if_pos h3, if_pos h3]; (repeat rw [go]); simp only [apply_ite (Option.map (fun x : Int × Int => vv x.1 x.2)), Option.map_some, Option.map_none, lookL]
      · rw [if_neg h3, if_neg h3]
        by_cases h4 : p = 4 ∨ p = 7
        · rw [if_pos h4, if_pos h4]; (repeat rw [go]); simp only [apply_ite (Option.map (fun x : Int × Int => vv x.1 x.2)), Option.map_some, Option.map_none, lookL]
        · rw [if_neg h4, if_neg h4]; rfl
def WordPost (p : Int) (t : List UInt8) (w : World) (e : Ending) (w' : World) : Prop :=
  e = .returned (.tuple #[.agg #[.int .i64 (Giv.wordV p t).1, .int .i64 (Giv.wordV p t).2.1], .bool (Giv.wordV p t).2.2]) ∧ Below w.heap.size w w'
theorem lt_of_some {h : Array Obj} {i : Nat} {o : Obj} (e : h[i]? = some o) : i < h.size := by
  rcases Nat.lt_or_ge i h.size with h' | h'
  · exact h'
  · rw [Array.getElem?_eq_none h'] at e; cases e
theorem zeroV : ∀ w, (zeroValue 27).run Tryd.prog w = .ok (vv 0 0) w := fun _ => by kernel_rfl
abbrev TV : TypeId := 27
set_option maxRecDepth 100000 in
set_option maxHeartbeats 1000000 in
theorem word (p : Int) (s : ByteArray) (w : World) (hs : s.size ≤ 140737488355328) :
    Calls Tryd.prog 18 #[.int .i64 p, .string s] w (WordPost p (lowB s).data.toList w) := by
  have L := fun W => lower s W hs
  generalize lowB s = t at *
  have K := fun W => keys p W
  by_cases h1 : t.data.toList = [105, 110, 104, 101, 114, 105, 116]
  · have H : Hid (Giv.wordV p t.data.toList = (7, 0, true)) := Lib.hid (by unfold Giv.wordV; rw [if_pos h1])
    have e1 : (t.toList == ([105, 110, 104, 101, 114, 105, 116] : List UInt8)) = true := by rw [ByteArray.toList_eq, beq_iff_eq]; exact h1
    clear h1
    go_enter Tryd.func18, Tryd.ntmps18
    go_wp2_with (first | (go_at_call 28; refine (L _).mono ?_; rintro e w1 ⟨rfl, hb⟩; have hblk := blk_below (heap_alloc_at w _) hb; have hc0 := blk_cell hblk 0; have hc1 := blk_cell hblk 1; have hf0 := blk_frozen hblk 0; have hf1 := blk_frozen hblk 1; have hbw := bstep ((Below.refl w.heap.size w).alloc (Nat.le_refl _) _) hb; have Hblk := Lib.hid hblk; clear hblk hb))
    refine bodyPost_ret (results_ct rfl _ _ w.heap.size TV #[.int .i64 7, .int .i64 0] (0, 0) _ rfl (by refine blk_put (cs := #[.int .i64 7, .int .i64 0]) ?_ 1 _ rfl; refine blk_put (cs := #[.int .i64 0, .int .i64 0]) ?_ 0 _ rfl; exact Hblk.out) Tryd.underlying27 rfl (by kernel_rfl)) rfl ?_
    exact ⟨by rw [H.out]; rfl, (hbw.setCell (p := ⟨w.heap.size, 0, none⟩) (Nat.le_refl _) _).setCell (p := ⟨w.heap.size, 1, none⟩) (Nat.le_refl _) _⟩
  · skip
    by_cases h2 : t.data.toList = [105, 110, 105, 116, 105, 97, 108]
    · have H : Hid (Giv.wordV p t.data.toList = (8, 0, true)) := Lib.hid (by unfold Giv.wordV; rw [if_neg h1, if_pos h2])
      have e1 : (t.toList == ([105, 110, 104, 101, 114, 105, 116] : List UInt8)) = false := by rw [ByteArray.toList_eq, beq_eq_false_iff_ne]; exact h1
      have e2 : (t.toList == ([105, 110, 105, 116, 105, 97, 108] : List UInt8)) = true := by rw [ByteArray.toList_eq, beq_iff_eq]; exact h2
      clear h1 h2
      go_enter Tryd.func18, Tryd.ntmps18
      go_wp2_with (first | (go_at_call 28; refine (L _).mono ?_; rintro e w1 ⟨rfl, hb⟩; have hblk := blk_below (heap_alloc_at w _) hb; have hc0 := blk_cell hblk 0; have hc1 := blk_cell hblk 1; have hf0 := blk_frozen hblk 0; have hf1 := blk_frozen hblk 1; have hbw := bstep ((Below.refl w.heap.size w).alloc (Nat.le_refl _) _) hb; have Hblk := Lib.hid hblk; clear hblk hb))
      refine bodyPost_ret (results_ct rfl _ _ w.heap.size TV #[.int .i64 8, .int .i64 0] (0, 0) _ rfl (by refine blk_put (cs := #[.int .i64 8, .int .i64 0]) ?_ 1 _ rfl; refine blk_put (cs := #[.int .i64 0, .int .i64 0]) ?_ 0 _ rfl; exact Hblk.out) Tryd.underlying27 rfl (by kernel_rfl)) rfl ?_
      exact ⟨by rw [H.out]; rfl, (hbw.setCell (p := ⟨w.heap.size, 0, none⟩) (Nat.le_refl _) _).setCell (p := ⟨w.heap.size, 1, none⟩) (Nat.le_refl _) _⟩
    · skip
      by_cases h3 : t.data.toList = [117, 110, 115, 101, 116]
      · have H : Hid (Giv.wordV p t.data.toList = (9, 0, true)) := Lib.hid (by unfold Giv.wordV; rw [if_neg h1, if_neg h2, if_pos h3])
        have e1 : (t.toList == ([105, 110, 104, 101, 114, 105, 116] : List UInt8)) = false := by rw [ByteArray.toList_eq, beq_eq_false_iff_ne]; exact h1
        have e2 : (t.toList == ([105, 110, 105, 116, 105, 97, 108] : List UInt8)) = false := by rw [ByteArray.toList_eq, beq_eq_false_iff_ne]; exact h2
        have e3 : (t.toList == ([117, 110, 115, 101, 116] : List UInt8)) = true := by rw [ByteArray.toList_eq, beq_iff_eq]; exact h3
        clear h1 h2 h3
        go_enter Tryd.func18, Tryd.ntmps18
        go_wp2_with (first | (go_at_call 28; refine (L _).mono ?_; rintro e w1 ⟨rfl, hb⟩; have hblk := blk_below (heap_alloc_at w _) hb; have hc0 := blk_cell hblk 0; have hc1 := blk_cell hblk 1; have hf0 := blk_frozen hblk 0; have hf1 := blk_frozen hblk 1; have hbw := bstep ((Below.refl w.heap.size w).alloc (Nat.le_refl _) _) hb; have Hblk := Lib.hid hblk; clear hblk hb))
        refine bodyPost_ret (results_ct rfl _ _ w.heap.size TV #[.int .i64 9, .int .i64 0] (0, 0) _ rfl (by refine blk_put (cs := #[.int .i64 9, .int .i64 0]) ?_ 1 _ rfl; refine blk_put (cs := #[.int .i64 0, .int .i64 0]) ?_ 0 _ rfl; exact Hblk.out) Tryd.underlying27 rfl (by kernel_rfl)) rfl ?_
        exact ⟨by rw [H.out]; rfl, (hbw.setCell (p := ⟨w.heap.size, 0, none⟩) (Nat.le_refl _) _).setCell (p := ⟨w.heap.size, 1, none⟩) (Nat.le_refl _) _⟩
      · skip
        have e1 : (t.toList == ([105, 110, 104, 101, 114, 105, 116] : List UInt8)) = false := by rw [ByteArray.toList_eq, beq_eq_false_iff_ne]; exact h1
        have e2 : (t.toList == ([105, 110, 105, 116, 105, 97, 108] : List UInt8)) = false := by rw [ByteArray.toList_eq, beq_eq_false_iff_ne]; exact h2
        have e3 : (t.toList == ([117, 110, 115, 101, 116] : List UInt8)) = false := by rw [ByteArray.toList_eq, beq_eq_false_iff_ne]; exact h3
        have H0 : Giv.wordV p t.data.toList = (match Giv.keyV p t.data.toList with | some (k, n) => (k, n, true) | none => (0, 0, false)) := by unfold Giv.wordV; rw [if_neg h1, if_neg h2, if_neg h3]; cases Giv.keyV p t.data.toList <;> rfl
        clear h1 h2 h3
        have hlk := look_keys p t
        obtain ⟨x, y, b, hx, H⟩ : ∃ x y b, (∀ e, ((e = (none : Option Nat) ∧ keysL p = []) ∨ True) → True) ∧ Hid (Giv.wordV p t.data.toList = (x, y, b) ∧ (lookL t (keysL p)).getD (vv 0 0) = vv x y ∧ (lookL t (keysL p)).isSome = b) := by
          cases hk : Giv.keyV p t.data.toList with
          | none => exact ⟨0, 0, false, fun _ _ => trivial, Lib.hid ⟨by rw [H0, hk], by rw [hlk, hk]; rfl, by rw [hlk, hk]; rfl⟩⟩
          | some z => exact ⟨z.1, z.2, true, fun _ _ => trivial, Lib.hid ⟨by rw [H0, hk], by rw [hlk, hk]; rfl, by rw [hlk, hk]; rfl⟩⟩
        clear H0 hlk hx
        go_enter Tryd.func18, Tryd.ntmps18
        go_wp2_with (first | (go_at_call 28; refine (L _).mono ?_; rintro e w1 ⟨rfl, hb⟩; have hblk := blk_below (heap_alloc_at w _) hb; have hbw := bstep ((Below.refl w.heap.size w).alloc (Nat.le_refl _) _) hb; have Hblk := Lib.hid hblk; clear hblk hb) | (go_at_call 29; refine (K _).mono ?_; rintro e w2 ⟨hb2, hor⟩; have hblk := blk_below Hblk.out hb2; have hal := fun o => blk_below hblk ((Below.refl w2.heap.size w2).alloc (Nat.le_refl _) o); have hc0 := fun o => blk_cell (hal o) 0; have hc1 := fun o => blk_cell (hal o) 1; have hf0 := fun o => blk_frozen (hal o) 0; have hf1 := fun o => blk_frozen (hal o) 1; have Hal := Lib.hid hal; clear hal; have hbw2 := bstep hbw hb2; have Hblk2 := Lib.hid hblk; clear hblk; obtain ⟨mv, rfl, hlk⟩ : ∃ mv, e = .returned mv ∧ (Instr.lookup 58 mv (.string t) true).run Tryd.prog w2 = (.ok (.tuple #[.agg #[.int .i64 x, .int .i64 y], .bool b]) w2) := (by obtain ⟨h1, h2⟩ | ⟨b', h1, h2⟩ := hor <;> first | (refine ⟨_, h1, ?_⟩; obtain ⟨H1, H2, H3⟩ := H.out; unfold vv at H2; rw [h2] at H2 H3; rw [run_look_nil _ _ _ t (vv 0 0) rfl rfl (zeroV w2), ← H2, ← H3]; rfl) | (refine ⟨_, h1, ?_⟩; obtain ⟨H1, H2, H3⟩ := H.out; rw [run_look _ _ _ b' (keysL p) t (vv 0 0) rfl rfl (zeroV w2) h2, H2, H3]; rfl)); clear hor hb2))
        refine bodyPost_ret (results_ct rfl _ _ w.heap.size TV #[.int .i64 x, .int .i64 y] (0, 0) _ rfl (by refine blk_put (cs := #[.int .i64 x, .int .i64 0]) ?_ 1 _ rfl; refine blk_put (cs := #[.int .i64 0, .int .i64 0]) ?_ 0 _ rfl; exact Hal.out _) Tryd.underlying27 rfl (by kernel_rfl)) rfl ?_
        exact ⟨by rw [H.out.1]; rfl, ((hbw2.alloc (Nat.le_of_lt (lt_of_some Hblk2.out)) _).setCell (p := ⟨w.heap.size, 0, none⟩) (Nat.le_refl _) _).setCell (p := ⟨w.heap.size, 1, none⟩) (Nat.le_refl _) _⟩
end Go.Proofs.YtofjmhigfihhbaaDoor.Word

