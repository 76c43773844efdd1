/- What value.keys and value.word answer: the words of each property, in any case; memory that was there stays. -/
import Derived.Test.YtofjmhigfihhbaaDoorMap
namespace Go.Proofs.YtofjmhigfihhbaaDoor.Word
open Go.RowKit Go.Proofs.YtofjmhigfihhbaaDoor.Low Go.Proofs.YtofjmhigfihhbaaDoor.Map
def vv (k n : Int) : Value := .agg #[.int .i64 k, .int .i64 n]
set_option maxHeartbeats 400000 in
theorem keyC (n : Int) (w : World) : Calls Tryd.prog 33 #[.int .i64 n] w fun e w' => e = .returned (vv 1 n) ∧ Below w.heap.size w w' := by
  go_enter Tryd.func33, Tryd.ntmps33
  go_wp2
  exact bodyPost_ret (v := vv 1 n) (by simp [results, Tryd.results33, go_sem, vv]) rfl ⟨rfl, (Below.refl _ _).alloc (Nat.le_refl _) _⟩
set_option maxHeartbeats 400000 in
theorem colC (n : Int) (w : World) : Calls Tryd.prog 34 #[.int .i64 n] w fun e w' => e = .returned (vv 6 n) ∧ Below w.heap.size w w' := by
  go_enter Tryd.func34, Tryd.ntmps34
  go_wp2
  exact bodyPost_ret (v := vv 6 n) (by simp [results, Tryd.results34, go_sem, vv]) rfl ⟨rfl, (Below.refl _ _).alloc (Nat.le_refl _) _⟩
abbrev kv (l : List UInt8) (v : Value) : ByteArray × Value := (⟨l.toArray⟩, v)
def keysL (p : Int) : List (ByteArray × Value) :=
  if p = 0 then [kv [98, 108, 97, 99, 107] (vv 6 0), kv [119, 104, 105, 116, 101] (vv 6 16777215), kv [114, 101, 100] (vv 6 16711680), kv [103, 114, 101, 101, 110] (vv 6 32768), kv [98, 108, 117, 101] (vv 6 255)]
  else if p = 2 then [kv [108, 101, 102, 116] (vv 1 0), kv [114, 105, 103, 104, 116] (vv 1 1), kv [99, 101, 110, 116, 101, 114] (vv 1 2)]
  else if p = 3 then [kv [110, 111, 110, 101] (vv 1 0), kv [98, 108, 111, 99, 107] (vv 1 1), kv [105, 110, 108, 105, 110, 101] (vv 1 2)]
  else if p = 4 ∨ p = 7 then [kv [97, 117, 116, 111] (vv 1 0)]
  else []
/-- What keys hands back. -/
def KeysPost (p : Int) (w : World) (e : Ending) (w' : World) : Prop :=
  Below w.heap.size w w' ∧ ((e = .returned (.map none) ∧ keysL p = []) ∨ ∃ b, e = .returned (.map (some b)) ∧ MapAt w' b (keysL p))
set_option maxHeartbeats 1000000 in
set_option maxRecDepth 100000 in
theorem keys0 (w : World) : Calls Tryd.prog 29 #[.int .i64 0] w (KeysPost 0 w) := by
  go_enter Tryd.func29, Tryd.ntmps29
  go_wp2_with (first | (refine wpList_makeMap_new _ rfl _ rfl ?_; intro w1 hM hBW) | (go_at_call 34; refine (colC _ _).mono ?_; rintro e w2 ⟨rfl, hb1⟩; replace hM := hM.below hb1; replace hBW := bstep hBW hb1; clear hb1) | (refine wpList_insert_new _ rfl _ _ _ _ rfl _ _ Tryd.underlying58 Tryd.underlying9 w.heap.size w.heap.size _ rfl hM ⟨#[98, 108, 97, 99, 107]⟩ (vv 6 0) rfl rfl (by decide) (Nat.le_refl _) ?_; intro w2 hM2 hb1; replace hM := hM2; replace hBW := hBW.trans hb1; clear hb1 hM2) | (refine wpList_insert_new _ rfl _ _ _ _ rfl _ _ Tryd.underlying58 Tryd.underlying9 w.heap.size w.heap.size _ rfl hM ⟨#[119, 104, 105, 116, 101]⟩ (vv 6 16777215) rfl rfl (by decide) (Nat.le_refl _) ?_; intro w2 hM2 hb1; replace hM := hM2; replace hBW := hBW.trans hb1; clear hb1 hM2) | (refine wpList_insert_new _ rfl _ _ _ _ rfl _ _ Tryd.underlying58 Tryd.underlying9 w.heap.size w.heap.size _ rfl hM ⟨#[114, 101, 100]⟩ (vv 6 16711680) rfl rfl (by decide) (Nat.le_refl _) ?_; intro w2 hM2 hb1; replace hM := hM2; replace hBW := hBW.trans hb1; clear hb1 hM2) | (refine wpList_insert_new _ rfl _ _ _ _ rfl _ _ Tryd.underlying58 Tryd.underlying9 w.heap.size w.heap.size _ rfl hM ⟨#[103, 114, 101, 101, 110]⟩ (vv 6 32768) rfl rfl (by decide) (Nat.le_refl _) ?_; intro w2 hM2 hb1; replace hM := hM2; replace hBW := hBW.trans hb1; clear hb1 hM2) | (refine wpList_insert_new _ rfl _ _ _ _ rfl _ _ Tryd.underlying58 Tryd.underlying9 w.heap.size w.heap.size _ rfl hM ⟨#[98, 108, 117, 101]⟩ (vv 6 255) rfl rfl (by decide) (Nat.le_refl _) ?_; intro w2 hM2 hb1; replace hM := hM2; replace hBW := hBW.trans hb1; clear hb1 hM2))
  go_ret
  exact ⟨hBW, .inr ⟨_, rfl, hM⟩⟩
set_option maxHeartbeats 1000000 in
set_option maxRecDepth 100000 in
theorem keys2 (w : World) : Calls Tryd.prog 29 #[.int .i64 2] w (KeysPost 2 w) := by
  go_enter Tryd.func29, Tryd.ntmps29
  go_wp2_with (first | (refine wpList_makeMap_new _ rfl _ rfl ?_; intro w1 hM hBW) | (go_at_call 33; refine (keyC _ _).mono ?_; rintro e w2 ⟨rfl, hb1⟩; replace hM := hM.below hb1; replace hBW := bstep hBW hb1; clear hb1) | (refine wpList_insert_new _ rfl _ _ _ _ rfl _ _ Tryd.underlying58 Tryd.underlying9 w.heap.size w.heap.size _ rfl hM ⟨#[108, 101, 102, 116]⟩ (vv 1 0) rfl rfl (by decide) (Nat.le_refl _) ?_; intro w2 hM2 hb1; replace hM := hM2; replace hBW := hBW.trans hb1; clear hb1 hM2) | (refine wpList_insert_new _ rfl _ _ _ _ rfl _ _ Tryd.underlying58 Tryd.underlying9 w.heap.size w.heap.size _ rfl hM ⟨#[114, 105, 103, 104, 116]⟩ (vv 1 1) rfl rfl (by decide) (Nat.le_refl _) ?_; intro w2 hM2 hb1; replace hM := hM2; replace hBW := hBW.trans hb1; clear hb1 hM2) | (refine wpList_insert_new _ rfl _ _ _ _ rfl _ _ Tryd.underlying58 Tryd.underlying9 w.heap.size w.heap.size _ rfl hM ⟨#[99, 101, 110, 116, 101, 114]⟩ (vv 1 2) rfl rfl (by decide) (Nat.le_refl _) ?_; intro w2 hM2 hb1; replace hM := hM2; replace hBW := hBW.trans hb1; clear hb1 hM2))
  go_ret
  exact ⟨hBW, .inr ⟨_, rfl, hM⟩⟩
set_option maxHeartbeats 1000000 in
set_option maxRecDepth 100000 in
theorem keys3 (w : World) : Calls Tryd.prog 29 #[.int .i64 3] w (KeysPost 3 w) := by
  go_enter Tryd.func29, Tryd.ntmps29
  go_wp2_with (first | (refine wpList_makeMap_new _ rfl _ rfl ?_; intro w1 hM hBW) | (go_at_call 33; refine (keyC _ _).mono ?_; rintro e w2 ⟨rfl, hb1⟩; replace hM := hM.below hb1; replace hBW := bstep hBW hb1; clear hb1) | (refine wpList_insert_new _ rfl _ _ _ _ rfl _ _ Tryd.underlying58 Tryd.underlying9 w.heap.size w.heap.size _ rfl hM ⟨#[110, 111, 110, 101]⟩ (vv 1 0) rfl rfl (by decide) (Nat.le_refl _) ?_; intro w2 hM2 hb1; replace hM := hM2; replace hBW := hBW.trans hb1; clear hb1 hM2) | (refine wpList_insert_new _ rfl _ _ _ _ rfl _ _ Tryd.underlying58 Tryd.underlying9 w.heap.size w.heap.size _ rfl hM ⟨#[98, 108, 111, 99, 107]⟩ (vv 1 1) rfl rfl (by decide) (Nat.le_refl _) ?_; intro w2 hM2 hb1; replace hM := hM2; replace hBW := hBW.trans hb1; clear hb1 hM2) | (refine wpList_insert_new _ rfl _ _ _ _ rfl _ _ Tryd.underlying58 Tryd.underlying9 w.heap.size w.heap.size _ rfl hM ⟨#[105, 110, 108, 105, 110, 101]⟩ (vv 1 2) rfl rfl (by decide) (Nat.le_refl _) ?_; intro w2 hM2 hb1; replace hM := hM2; replace hBW := hBW.trans hb1; clear hb1 hM2))
  go_ret
  exact ⟨hBW, .inr ⟨_, rfl, hM⟩⟩
set_option maxHeartbeats 1000000 in
set_option maxRecDepth 100000 in
theorem keys4 (w : World) : Calls Tryd.prog 29 #[.int .i64 4] w (KeysPost 4 w) := by
  go_enter Tryd.func29, Tryd.ntmps29
  go_wp2_with (first | (refine wpList_makeMap_new _ rfl _ rfl ?_; intro w1 hM hBW) | (go_at_call 33; refine (keyC _ _).mono ?_; rintro e w2 ⟨rfl, hb1⟩; replace hM := hM.below hb1; replace hBW := bstep hBW hb1; clear hb1) | (refine wpList_insert_new _ rfl _ _ _ _ rfl _ _ Tryd.underlying58 Tryd.underlying9 w.heap.size w.heap.size _ rfl hM ⟨#[97, 117, 116, 111]⟩ (vv 1 0) rfl rfl (by decide) (Nat.le_refl _) ?_; intro w2 hM2 hb1; replace hM := hM2; replace hBW := hBW.trans hb1; clear hb1 hM2))
  go_ret
  exact ⟨hBW, .inr ⟨_, rfl, hM⟩⟩
set_option maxHeartbeats 1000000 in
set_option maxRecDepth 100000 in
theorem keys7 (w : World) : Calls Tryd.prog 29 #[.int .i64 7] w (KeysPost 7 w) := by
  go_enter Tryd.func29, Tryd.ntmps29
  go_wp2_with (first | (refine wpList_makeMap_new _ rfl _ rfl ?_; intro w1 hM hBW) | (go_at_call 33; refine (keyC _ _).mono ?_; rintro e w2 ⟨rfl, hb1⟩; replace hM := hM.below hb1; replace hBW := bstep hBW hb1; clear hb1) | (refine wpList_insert_new _ rfl _ _ _ _ rfl _ _ Tryd.underlying58 Tryd.underlying9 w.heap.size w.heap.size _ rfl hM ⟨#[97, 117, 116, 111]⟩ (vv 1 0) rfl rfl (by decide) (Nat.le_refl _) ?_; intro w2 hM2 hb1; replace hM := hM2; replace hBW := hBW.trans hb1; clear hb1 hM2))
  go_ret
  exact ⟨hBW, .inr ⟨_, rfl, hM⟩⟩
set_option maxHeartbeats 1000000 in
theorem keysNo (p : Int) (h0 : ¬ p = 0) (h2 : ¬ p = 2) (h3 : ¬ p = 3) (h4 : ¬ p = 4) (h7 : ¬ p = 7) (w : World) : Calls Tryd.prog 29 #[.int .i64 p] w (KeysPost p w) := by
  have hk : Hid (keysL p = []) := Lib.hid (by unfold keysL; rw [if_neg h0, if_neg h2, if_neg h3, if_neg (by omega)])
  go_enter Tryd.func29, Tryd.ntmps29
  go_wp2
  go_ret
  exact ⟨Below.refl _ _, .inl ⟨rfl, hk.out⟩⟩
theorem keys (p : Int) (w : World) : Calls Tryd.prog 29 #[.int .i64 p] w (KeysPost p w) := by
  by_cases h0 : p = 0
  · subst h0; exact keys0 w
  · by_cases h2 : p = 2
    · subst h2; exact keys2 w
    · by_cases h3 : p = 3
      · subst h3; exact keys3 w
      · by_cases h4 : p = 4
        · subst h4; exact keys4 w
        · by_cases h7 : p = 7
          · subst h7; exact keys7 w
          · exact keysNo p h0 h2 h3 h4 h7 w
end Go.Proofs.YtofjmhigfihhbaaDoor.Word
