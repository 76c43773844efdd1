/- What value.names, value.Name and value.Prop answer, for every name and number; memory that was there stays. -/
import Derived.Test.YtofjmhigfihhbaaDoorLower
import Derived.Laws.ResultCell
namespace Go.Proofs.YtofjmhigfihhbaaDoor.Nam
open Go.RowKit Go.Proofs.YtofjmhigfihhbaaDoor.Low
def n0 : ByteArray := ⟨#[99, 111, 108, 111, 114]⟩
def n1 : ByteArray := ⟨#[102, 111, 110, 116, 45, 115, 105, 122, 101]⟩
def n2 : ByteArray := ⟨#[116, 101, 120, 116, 45, 97, 108, 105, 103, 110]⟩
def n3 : ByteArray := ⟨#[100, 105, 115, 112, 108, 97, 121]⟩
def n4 : ByteArray := ⟨#[119, 105, 100, 116, 104]⟩
def n5 : ByteArray := ⟨#[109, 97, 114, 103, 105, 110]⟩
def n6 : ByteArray := ⟨#[111, 112, 97, 99, 105, 116, 121]⟩
def n7 : ByteArray := ⟨#[122, 45, 105, 110, 100, 101, 120]⟩
def namesA : Value := .agg #[.string n0, .string n1, .string n2, .string n3, .string n4, .string n5, .string n6, .string n7]
set_option maxHeartbeats 400000 in
theorem names (w : World) : Calls Tryd.prog 27 #[] w fun e w' => e = .returned namesA ∧ Below w.heap.size w w' := by
  go_enter Tryd.func27, Tryd.ntmps27
  go_wp2
  exact bodyPost_ret (v := namesA) (by simp [results, Tryd.results27, go_sem, namesA, n0, n1, n2, n3, n4, n5, n6, n7]) rfl ⟨rfl, (Below.refl _ _).alloc (Nat.le_refl _) _⟩
theorem at0 : ∀ w, (Instr.index 56 namesA (.int .i64 0)).run Tryd.prog w = .ok (.string n0) w := fun _ => by kernel_rfl
theorem at1 : ∀ w, (Instr.index 56 namesA (.int .i64 1)).run Tryd.prog w = .ok (.string n1) w := fun _ => by kernel_rfl
theorem at2 : ∀ w, (Instr.index 56 namesA (.int .i64 2)).run Tryd.prog w = .ok (.string n2) w := fun _ => by kernel_rfl
theorem at3 : ∀ w, (Instr.index 56 namesA (.int .i64 3)).run Tryd.prog w = .ok (.string n3) w := fun _ => by kernel_rfl
theorem at4 : ∀ w, (Instr.index 56 namesA (.int .i64 4)).run Tryd.prog w = .ok (.string n4) w := fun _ => by kernel_rfl
theorem at5 : ∀ w, (Instr.index 56 namesA (.int .i64 5)).run Tryd.prog w = .ok (.string n5) w := fun _ => by kernel_rfl
theorem at6 : ∀ w, (Instr.index 56 namesA (.int .i64 6)).run Tryd.prog w = .ok (.string n6) w := fun _ => by kernel_rfl
theorem at7 : ∀ w, (Instr.index 56 namesA (.int .i64 7)).run Tryd.prog w = .ok (.string n7) w := fun _ => by kernel_rfl
theorem is_ (p : Int) (w : World) : Calls Tryd.prog 17 #[.int .i64 p] w fun e w' => e = .returned (.bool (decide (0 ≤ p ∧ p < 8))) ∧ w = w' := by
  by_cases h1 : 0 ≤ p
  · by_cases h2 : p < 8
    · have h3 : decide (0 ≤ p ∧ p < 8) = true := by simp [h1, h2]
      rw [h3]
      go_enter Tryd.func17, Tryd.ntmps17
      go_wp2
      go_ret
      exact ⟨rfl, rfl⟩
    · have h3 : decide (0 ≤ p ∧ p < 8) = false := by simp [h2]
      rw [h3]
      go_enter Tryd.func17, Tryd.ntmps17
      go_wp2
      go_ret
      exact ⟨rfl, rfl⟩
  · have h3 : decide (0 ≤ p ∧ p < 8) = false := by simp [h1]
    rw [h3]
    go_enter Tryd.func17, Tryd.ntmps17
    go_wp2
    go_ret
    exact ⟨rfl, rfl⟩
def nameOf (p : Int) : ByteArray := if p = 0 then n0 else if p = 1 then n1 else if p = 2 then n2 else if p = 3 then n3 else if p = 4 then n4 else if p = 5 then n5 else if p = 6 then n6 else if p = 7 then n7 else str []
def propOf (s : ByteArray) : Int × Bool := if s = n0 then (0, true) else if s = n1 then (1, true) else if s = n2 then (2, true) else if s = n3 then (3, true) else if s = n4 then (4, true) else if s = n5 then (5, true) else if s = n6 then (6, true) else if s = n7 then (7, true) else (0, false)
theorem eqb (a b : ByteArray) : (a.toList == b.toList) = decide (a = b) := by
  rw [ByteArray.toList_eq, ByteArray.toList_eq]
  by_cases h : a = b
  · subst h; simp
  · rw [decide_eq_false h, beq_eq_false_iff_ne]; exact fun e => h (Go.WideShapes.bytes_inj e)
set_option maxHeartbeats 2000000 in
theorem prop (s : ByteArray) (w : World) : Calls Tryd.prog 16 #[.string s] w fun e w' => e = .returned (.tuple #[.int .i64 (propOf s).1, .bool (propOf s).2]) ∧ Below w.heap.size w w' := by
  obtain ⟨r, Hr⟩ : ∃ r, Hid (propOf s = r) := ⟨_, Lib.hid rfl⟩
  rw [Hr.out]
  go_enter Tryd.func16, Tryd.ntmps16
  go_wp2_with (go_at_call 27; refine (names _).mono ?_; rintro e w1 ⟨rfl, hb⟩)
  go_loop [7] (fun v => ∃ k : Nat, v = .int .i64 k ∧ k ≤ 8 ∧ (0 < k → s ≠ n0) ∧ (1 < k → s ≠ n1) ∧ (2 < k → s ≠ n2) ∧ (3 < k → s ≠ n3) ∧ (4 < k → s ≠ n4) ∧ (5 < k → s ≠ n5) ∧ (6 < k → s ≠ n6) ∧ (7 < k → s ≠ n7)) (fun v => 8 - (intOf v).toNat)
  case atStart => exact ⟨0, rfl, by omega, by omega, by omega, by omega, by omega, by omega, by omega, by omega, by omega⟩
  case round =>
    obtain ⟨k, rfl, hk, g0, g1, g2, g3, g4, g5, g6, g7⟩ := hrel
    have G := Lib.hid (And.intro g0 (And.intro g1 (And.intro g2 (And.intro g3 (And.intro g4 (And.intro g5 (And.intro g6 g7)))))))
    clear g0 g1 g2 g3 g4 g5 g6 g7
    have hkk : k = 0 ∨ k = 1 ∨ k = 2 ∨ k = 3 ∨ k = 4 ∨ k = 5 ∨ k = 6 ∨ k = 7 ∨ k = 8 := by omega
    clear hk
    rcases hkk with rfl | rfl | rfl | rfl | rfl | rfl | rfl | rfl | rfl
    · have hx := at0
      by_cases e : s = n0
      · have hq : (n0.toList == s.toList) = true := by rw [eqb, e]; simp
        have H : Hid (r = (0, true)) := Lib.hid (by
          obtain ⟨g0, g1, g2, g3, g4, g5, g6, g7⟩ := G.out
          rw [← Hr.out]; unfold propOf; rw [if_pos e])
        clear e
        go_wp2
        go_ret2
        exact ⟨by rw [H.out]; rfl, hb⟩
      · have hq : (n0.toList == s.toList) = false := by rw [eqb, decide_eq_false (fun h => e h.symm)]
        have E := Lib.hid e
        clear e
        go_wp2
        go_round
        case rel =>
          obtain ⟨g0, g1, g2, g3, g4, g5, g6, g7⟩ := G.out
          exact ⟨1, rfl, by omega, fun _ => E.out, by omega, by omega, by omega, by omega, by omega, by omega, by omega⟩
        case measure => simp [intOf]
    · have hx := at1
      by_cases e : s = n1
      · have hq : (n1.toList == s.toList) = true := by rw [eqb, e]; simp
        have H : Hid (r = (1, true)) := Lib.hid (by
          obtain ⟨g0, g1, g2, g3, g4, g5, g6, g7⟩ := G.out
          rw [← Hr.out]; unfold propOf; rw [if_neg (g0 (by omega))]; rw [if_pos e])
        clear e
        go_wp2
        go_ret2
        exact ⟨by rw [H.out]; rfl, hb⟩
      · have hq : (n1.toList == s.toList) = false := by rw [eqb, decide_eq_false (fun h => e h.symm)]
        have E := Lib.hid e
        clear e
        go_wp2
        go_round
        case rel =>
          obtain ⟨g0, g1, g2, g3, g4, g5, g6, g7⟩ := G.out
          exact ⟨2, rfl, by omega, fun _ => g0 (by omega), fun _ => E.out, by omega, by omega, by omega, by omega, by omega, by omega⟩
        case measure => simp [intOf]
    · have hx := at2
      by_cases e : s = n2
      · have hq : (n2.toList == s.toList) = true := by rw [eqb, e]; simp
        have H : Hid (r = (2, true)) := Lib.hid (by
          obtain ⟨g0, g1, g2, g3, g4, g5, g6, g7⟩ := G.out
          rw [← Hr.out]; unfold propOf; rw [if_neg (g0 (by omega))]; rw [if_neg (g1 (by omega))]; rw [if_pos e])
        clear e
        go_wp2
        go_ret2
        exact ⟨by rw [H.out]; rfl, hb⟩
      · have hq : (n2.toList == s.toList) = false := by rw [eqb, decide_eq_false (fun h => e h.symm)]
        have E := Lib.hid e
        clear e
        go_wp2
        go_round
        case rel =>
          obtain ⟨g0, g1, g2, g3, g4, g5, g6, g7⟩ := G.out
          exact ⟨3, rfl, by omega, fun _ => g0 (by omega), fun _ => g1 (by omega), fun _ => E.out, by omega, by omega, by omega, by omega, by omega⟩
        case measure => simp [intOf]
    · have hx := at3
      by_cases e : s = n3
      · have hq : (n3.toList == s.toList) = true := by rw [eqb, e]; simp
        have H : Hid (r = (3, true)) := Lib.hid (by
          obtain ⟨g0, g1, g2, g3, g4, g5, g6, g7⟩ := G.out
          rw [← Hr.out]; unfold propOf; rw [if_neg (g0 (by omega))]; rw [if_neg (g1 (by omega))]; rw [if_neg (g2 (by omega))]; rw [if_pos e])
        clear e
        go_wp2
        go_ret2
        exact ⟨by rw [H.out]; rfl, hb⟩
      · have hq : (n3.toList == s.toList) = false := by rw [eqb, decide_eq_false (fun h => e h.symm)]
        have E := Lib.hid e
        clear e
        go_wp2
        go_round
        case rel =>
          obtain ⟨g0, g1, g2, g3, g4, g5, g6, g7⟩ := G.out
          exact ⟨4, rfl, by omega, fun _ => g0 (by omega), fun _ => g1 (by omega), fun _ => g2 (by omega), fun _ => E.out, by omega, by omega, by omega, by omega⟩
        case measure => simp [intOf]
    · have hx := at4
      by_cases e : s = n4
      · have hq : (n4.toList == s.toList) = true := by rw [eqb, e]; simp
        have H : Hid (r = (4, true)) := Lib.hid (by
          obtain ⟨g0, g1, g2, g3, g4, g5, g6, g7⟩ := G.out
          rw [← Hr.out]; unfold propOf; rw [if_neg (g0 (by omega))]; rw [if_neg (g1 (by omega))]; rw [if_neg (g2 (by omega))]; rw [if_neg (g3 (by omega))]; rw [if_pos e])
        clear e
        go_wp2
        go_ret2
        exact ⟨by rw [H.out]; rfl, hb⟩
      · have hq : (n4.toList == s.toList) = false := by rw [eqb, decide_eq_false (fun h => e h.symm)]
        have E := Lib.hid e
        clear e
        go_wp2
        go_round
        case rel =>
          obtain ⟨g0, g1, g2, g3, g4, g5, g6, g7⟩ := G.out
          exact ⟨5, rfl, by omega, fun _ => g0 (by omega), fun _ => g1 (by omega), fun _ => g2 (by omega), fun _ => g3 (by omega), fun _ => E.out, by omega, by omega, by omega⟩
        case measure => simp [intOf]
    · have hx := at5
      by_cases e : s = n5
      · have hq : (n5.toList == s.toList) = true := by rw [eqb, e]; simp
        have H : Hid (r = (5, true)) := Lib.hid (by
          obtain ⟨g0, g1, g2, g3, g4, g5, g6, g7⟩ := G.out
          rw [← Hr.out]; unfold propOf; rw [if_neg (g0 (by omega))]; rw [if_neg (g1 (by omega))]; rw [if_neg (g2 (by omega))]; rw [if_neg (g3 (by omega))]; rw [if_neg (g4 (by omega))]; rw [if_pos e])
        clear e
        go_wp2
        go_ret2
        exact ⟨by rw [H.out]; rfl, hb⟩
      · have hq : (n5.toList == s.toList) = false := by rw [eqb, decide_eq_false (fun h => e h.symm)]
        have E := Lib.hid e
        clear e
        go_wp2
        go_round
        case rel =>
          obtain ⟨g0, g1, g2, g3, g4, g5, g6, g7⟩ := G.out
          exact ⟨6, rfl, by omega, fun _ => g0 (by omega), fun _ => g1 (by omega), fun _ => g2 (by omega), fun _ => g3 (by omega), fun _ => g4 (by omega), fun _ => E.out, by omega, by omega⟩
        case measure => simp [intOf]
    · have hx := at6
      by_cases e : s = n6
      · have hq : (n6.toList == s.toList) = true := by rw [eqb, e]; simp
        have H : Hid (r = (6, true)) := Lib.hid (by
          obtain ⟨g0, g1, g2, g3, g4, g5, g6, g7⟩ := G.out
          rw [← Hr.out]; unfold propOf; rw [if_neg (g0 (by omega))]; rw [if_neg (g1 (by omega))]; rw [if_neg (g2 (by omega))]; rw [if_neg (g3 (by omega))]; rw [if_neg (g4 (by omega))]; rw [if_neg (g5 (by omega))]; rw [if_pos e])
        clear e
        go_wp2
        go_ret2
        exact ⟨by rw [H.out]; rfl, hb⟩
      · have hq : (n6.toList == s.toList) = false := by rw [eqb, decide_eq_false (fun h => e h.symm)]
        have E := Lib.hid e
        clear e
        go_wp2
        go_round
        case rel =>
          obtain ⟨g0, g1, g2, g3, g4, g5, g6, g7⟩ := G.out
          exact ⟨7, rfl, by omega, fun _ => g0 (by omega), fun _ => g1 (by omega), fun _ => g2 (by omega), fun _ => g3 (by omega), fun _ => g4 (by omega), fun _ => g5 (by omega), fun _ => E.out, by omega⟩
        case measure => simp [intOf]
    · have hx := at7
      by_cases e : s = n7
      · have hq : (n7.toList == s.toList) = true := by rw [eqb, e]; simp
        have H : Hid (r = (7, true)) := Lib.hid (by
          obtain ⟨g0, g1, g2, g3, g4, g5, g6, g7⟩ := G.out
          rw [← Hr.out]; unfold propOf; rw [if_neg (g0 (by omega))]; rw [if_neg (g1 (by omega))]; rw [if_neg (g2 (by omega))]; rw [if_neg (g3 (by omega))]; rw [if_neg (g4 (by omega))]; rw [if_neg (g5 (by omega))]; rw [if_neg (g6 (by omega))]; rw [if_pos e])
        clear e
        go_wp2
        go_ret2
        exact ⟨by rw [H.out]; rfl, hb⟩
      · have hq : (n7.toList == s.toList) = false := by rw [eqb, decide_eq_false (fun h => e h.symm)]
        have E := Lib.hid e
        clear e
        go_wp2
        go_round
        case rel =>
          obtain ⟨g0, g1, g2, g3, g4, g5, g6, g7⟩ := G.out
          exact ⟨8, rfl, by omega, fun _ => g0 (by omega), fun _ => g1 (by omega), fun _ => g2 (by omega), fun _ => g3 (by omega), fun _ => g4 (by omega), fun _ => g5 (by omega), fun _ => g6 (by omega), fun _ => E.out⟩
        case measure => simp [intOf]
    · have H : Hid (r = (0, false)) := Lib.hid (by
        obtain ⟨g0, g1, g2, g3, g4, g5, g6, g7⟩ := G.out
        rw [← Hr.out]; unfold propOf; rw [if_neg (g0 (by omega))]; rw [if_neg (g1 (by omega))]; rw [if_neg (g2 (by omega))]; rw [if_neg (g3 (by omega))]; rw [if_neg (g4 (by omega))]; rw [if_neg (g5 (by omega))]; rw [if_neg (g6 (by omega))]; rw [if_neg (g7 (by omega))])
      go_wp2
      go_ret2
      exact ⟨by rw [H.out]; rfl, hb⟩
end Go.Proofs.YtofjmhigfihhbaaDoor.Nam
