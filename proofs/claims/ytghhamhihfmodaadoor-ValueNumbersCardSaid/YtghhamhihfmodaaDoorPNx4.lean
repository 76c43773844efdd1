-- Printed by a driver of this session (wip/tools/myprint.py) over the kit's print. Lean checks it.
import Derived.Test.YtghhamhihfmodaaDoorPNx0
import Derived.Test.YtghhamhihfmodaaDoorPNx1
import Derived.Test.YtghhamhihfmodaaDoorPNx3
namespace Go.Proofs.YtghhamhihfmodaaDoor.PN
open Go.RowKit Go.Proofs.YtghhamhihfmodaaDoorW.PrintWords Go.Proofs.YtghhamhihfmodaaDoorW.PrintLast Go.Proofs.YtghhamhihfmodaaDoorW.PrintMore
attribute [local go_sem] max2_int min2_int max_two min_two max_three min_three max_four min_four   -- for this text's walks alone
set_option linter.unusedVariables false
set_option linter.unusedSimpArgs false
open Go.Proofs.YtghhamhihfmodaaDoor.Giv


attribute [local go_sem high] eqA27
/-! ### tapestrierlaw7_ValueNumbers: function 8 -/
mutual
def tapestrierlaw7_ValueNumbers.l0 : Nat → Int → Bool → Bool → Int → Option (Bool)
  | 0, _, _, _, _ => none
  | k + 1, x0, x1, x5, x6 => if x6 < 8 then ((value_Parse.f k x6 (([(⟨6, (⟨#[]⟩ : ByteArray), x0, x1, 0⟩ : S25)] : List (S25)))).bind fun bt139 => (if x6 = 6 then (tapestrierlaw7_ValueNumbers.j1 k x0 x1 x5 x6 bt139.2.2 true bt139.1 bt139.2.1) else (if x6 = 7 then (if x1 = true then (tapestrierlaw7_ValueNumbers.j1 k x0 x1 x5 x6 bt139.2.2 true bt139.1 bt139.2.1) else (if x6 = 5 then (tapestrierlaw7_ValueNumbers.j1 k x0 x1 x5 x6 bt139.2.2 (x0 == 0) bt139.1 bt139.2.1) else (tapestrierlaw7_ValueNumbers.j1 k x0 x1 x5 x6 bt139.2.2 false bt139.1 bt139.2.1))) else (if x6 = 5 then (tapestrierlaw7_ValueNumbers.j1 k x0 x1 x5 x6 bt139.2.2 (x0 == 0) bt139.1 bt139.2.1) else (tapestrierlaw7_ValueNumbers.j1 k x0 x1 x5 x6 bt139.2.2 false bt139.1 bt139.2.1))))) else (some x5)
def tapestrierlaw7_ValueNumbers.j1 : Nat → Int → Bool → Bool → Int → Bool → Bool → Int → Int → Option (Bool)
  | 0, _, _, _, _, _, _, _, _ => none
  | k + 1, x0, x1, x5, x6, x8, x9, x143000, x143001 => if x6 = 6 then (tapestrierlaw7_ValueNumbers.j2 k x0 x1 x5 x6 x8 x9 (decide (x0 < 0)) x143000 x143001 5 x0) else (tapestrierlaw7_ValueNumbers.j2 k x0 x1 x5 x6 x8 x9 false x143000 x143001 5 x0)
def tapestrierlaw7_ValueNumbers.j2 : Nat → Int → Bool → Bool → Int → Bool → Bool → Bool → Int → Int → Int → Int → Option (Bool)
  | 0, _, _, _, _, _, _, _, _, _, _, _ => none
  | k + 1, x0, x1, x5, x6, x8, x9, x49, x143000, x143001, x144000, x144001 => if x49 = true then (tapestrierlaw7_ValueNumbers.j3 k x0 x1 x5 x6 x8 x9 x143000 x143001 x144000 0) else (tapestrierlaw7_ValueNumbers.j3 k x0 x1 x5 x6 x8 x9 x143000 x143001 x144000 x144001)
def tapestrierlaw7_ValueNumbers.j3 : Nat → Int → Bool → Bool → Int → Bool → Bool → Int → Int → Int → Int → Option (Bool)
  | 0, _, _, _, _, _, _, _, _, _, _ => none
  | k + 1, x0, x1, x5, x6, x8, x9, x143000, x143001, x144000, x144001 => if x6 = 6 then (tapestrierlaw7_ValueNumbers.j4 k x0 x1 x5 x6 x8 x9 (decide (x0 > 1000)) x143000 x143001 x144000 x144001) else (tapestrierlaw7_ValueNumbers.j4 k x0 x1 x5 x6 x8 x9 false x143000 x143001 x144000 x144001)
def tapestrierlaw7_ValueNumbers.j4 : Nat → Int → Bool → Bool → Int → Bool → Bool → Bool → Int → Int → Int → Int → Option (Bool)
  | 0, _, _, _, _, _, _, _, _, _, _, _ => none
  | k + 1, x0, x1, x5, x6, x8, x9, x56, x143000, x143001, x144000, x144001 => if x56 = true then (tapestrierlaw7_ValueNumbers.j5 k x0 x1 x5 x6 x8 x9 x143000 x143001 x144000 1000) else (tapestrierlaw7_ValueNumbers.j5 k x0 x1 x5 x6 x8 x9 x143000 x143001 x144000 x144001)
def tapestrierlaw7_ValueNumbers.j5 : Nat → Int → Bool → Bool → Int → Bool → Bool → Int → Int → Int → Int → Option (Bool)
  | 0, _, _, _, _, _, _, _, _, _, _ => none
  | k + 1, x0, x1, x5, x6, x8, x9, x143000, x143001, x144000, x144001 => if x6 = 5 then (if (x8 != x9) = true then (some false) else (if x8 = true then (if (!(x143000 == 2) || (!(x143001 == x144001))) = true then (some false) else (tapestrierlaw7_ValueNumbers.l0 k x0 x1 x5 (wrap64 (x6 + 1)))) else (tapestrierlaw7_ValueNumbers.l0 k x0 x1 x5 (wrap64 (x6 + 1))))) else (if (x8 != x9) = true then (some false) else (if x8 = true then (if (!(x143000 == x144000) || (!(x143001 == x144001))) = true then (some false) else (tapestrierlaw7_ValueNumbers.l0 k x0 x1 x5 (wrap64 (x6 + 1)))) else (tapestrierlaw7_ValueNumbers.l0 k x0 x1 x5 (wrap64 (x6 + 1)))))
end
def tapestrierlaw7_ValueNumbers.f (k : Nat) (a0 : Int) (a1 : Bool) : Option (Bool) := (tapestrierlaw7_alive.f k).bind fun t135 => (tapestrierlaw7_ValueNumbers.l0 k a0 a1 t135 0)
theorem tapestrierlaw7_ValueNumbers.mono_l : ∀ k, (∀ y0 y1 y2 y3, LeO (tapestrierlaw7_ValueNumbers.l0 k y0 y1 y2 y3) (tapestrierlaw7_ValueNumbers.l0 (k + 1) y0 y1 y2 y3)) ∧ (∀ y0 y1 y2 y3 y4 y5 y6 y7, LeO (tapestrierlaw7_ValueNumbers.j1 k y0 y1 y2 y3 y4 y5 y6 y7) (tapestrierlaw7_ValueNumbers.j1 (k + 1) y0 y1 y2 y3 y4 y5 y6 y7)) ∧ (∀ y0 y1 y2 y3 y4 y5 y6 y7 y8 y9 y10, LeO (tapestrierlaw7_ValueNumbers.j2 k y0 y1 y2 y3 y4 y5 y6 y7 y8 y9 y10) (tapestrierlaw7_ValueNumbers.j2 (k + 1) y0 y1 y2 y3 y4 y5 y6 y7 y8 y9 y10)) ∧ (∀ y0 y1 y2 y3 y4 y5 y6 y7 y8 y9, LeO (tapestrierlaw7_ValueNumbers.j3 k y0 y1 y2 y3 y4 y5 y6 y7 y8 y9) (tapestrierlaw7_ValueNumbers.j3 (k + 1) y0 y1 y2 y3 y4 y5 y6 y7 y8 y9)) ∧ (∀ y0 y1 y2 y3 y4 y5 y6 y7 y8 y9 y10, LeO (tapestrierlaw7_ValueNumbers.j4 k y0 y1 y2 y3 y4 y5 y6 y7 y8 y9 y10) (tapestrierlaw7_ValueNumbers.j4 (k + 1) y0 y1 y2 y3 y4 y5 y6 y7 y8 y9 y10)) ∧ (∀ y0 y1 y2 y3 y4 y5 y6 y7 y8 y9, LeO (tapestrierlaw7_ValueNumbers.j5 k y0 y1 y2 y3 y4 y5 y6 y7 y8 y9) (tapestrierlaw7_ValueNumbers.j5 (k + 1) y0 y1 y2 y3 y4 y5 y6 y7 y8 y9))
  | 0 => ⟨fun _ _ _ _ r h => by simp [tapestrierlaw7_ValueNumbers.l0] at h, fun _ _ _ _ _ _ _ _ r h => by simp [tapestrierlaw7_ValueNumbers.j1] at h, fun _ _ _ _ _ _ _ _ _ _ _ r h => by simp [tapestrierlaw7_ValueNumbers.j2] at h, fun _ _ _ _ _ _ _ _ _ _ r h => by simp [tapestrierlaw7_ValueNumbers.j3] at h, fun _ _ _ _ _ _ _ _ _ _ _ r h => by simp [tapestrierlaw7_ValueNumbers.j4] at h, fun _ _ _ _ _ _ _ _ _ _ r h => by simp [tapestrierlaw7_ValueNumbers.j5] at h⟩
  | k + 1 => by
    obtain ⟨ih0, ih1, ih2, ih3, ih4, ih5⟩ := tapestrierlaw7_ValueNumbers.mono_l k
    refine ⟨?_, ?_, ?_, ?_, ?_, ?_⟩
    · intro y0 y1 y2 y3
      unfold tapestrierlaw7_ValueNumbers.l0
      repeat' first
      | (with_reducible exact ih0 _ _ _ _)
      | (with_reducible exact ih1 _ _ _ _ _ _ _ _)
      | (with_reducible exact ih2 _ _ _ _ _ _ _ _ _ _ _)
      | (with_reducible exact ih3 _ _ _ _ _ _ _ _ _ _)
      | (with_reducible exact ih4 _ _ _ _ _ _ _ _ _ _ _)
      | (with_reducible exact ih5 _ _ _ _ _ _ _ _ _ _)
      | (with_reducible exact tapestrierlaw7_alive.mono _)
      | (with_reducible exact value_Parse.mono _ _ _)
      | (with_reducible exact LeO.refl _)
      | (with_reducible exact LeO.none _)
      | (with_reducible refine LeO.ite ?_ ?_)
      | (with_reducible refine LeO.bind ?_ (fun _ => ?_))
      | exact ih0 _ _ _ _
      | exact ih1 _ _ _ _ _ _ _ _
      | exact ih2 _ _ _ _ _ _ _ _ _ _ _
      | exact ih3 _ _ _ _ _ _ _ _ _ _
      | exact ih4 _ _ _ _ _ _ _ _ _ _ _
      | exact ih5 _ _ _ _ _ _ _ _ _ _
      | exact tapestrierlaw7_alive.mono _
      | exact value_Parse.mono _ _ _
      | exact LeO.none _
      | refine LeO.ite ?_ ?_
      | refine LeO.bind ?_ (fun _ => ?_)
    · intro y0 y1 y2 y3 y4 y5 y6 y7
      unfold tapestrierlaw7_ValueNumbers.j1
      repeat' first
      | (with_reducible exact ih0 _ _ _ _)
      | (with_reducible exact ih1 _ _ _ _ _ _ _ _)
      | (with_reducible exact ih2 _ _ _ _ _ _ _ _ _ _ _)
      | (with_reducible exact ih3 _ _ _ _ _ _ _ _ _ _)
      | (with_reducible exact ih4 _ _ _ _ _ _ _ _ _ _ _)
      | (with_reducible exact ih5 _ _ _ _ _ _ _ _ _ _)
      | (with_reducible exact tapestrierlaw7_alive.mono _)
      | (with_reducible exact value_Parse.mono _ _ _)
      | (with_reducible exact LeO.refl _)
      | (with_reducible exact LeO.none _)
      | (with_reducible refine LeO.ite ?_ ?_)
      | (with_reducible refine LeO.bind ?_ (fun _ => ?_))
      | exact ih0 _ _ _ _
      | exact ih1 _ _ _ _ _ _ _ _
      | exact ih2 _ _ _ _ _ _ _ _ _ _ _
      | exact ih3 _ _ _ _ _ _ _ _ _ _
      | exact ih4 _ _ _ _ _ _ _ _ _ _ _
      | exact ih5 _ _ _ _ _ _ _ _ _ _
      | exact tapestrierlaw7_alive.mono _
      | exact value_Parse.mono _ _ _
      | exact LeO.none _
      | refine LeO.ite ?_ ?_
      | refine LeO.bind ?_ (fun _ => ?_)
    · intro y0 y1 y2 y3 y4 y5 y6 y7 y8 y9 y10
      unfold tapestrierlaw7_ValueNumbers.j2
      repeat' first
      | (with_reducible exact ih0 _ _ _ _)
      | (with_reducible exact ih1 _ _ _ _ _ _ _ _)
      | (with_reducible exact ih2 _ _ _ _ _ _ _ _ _ _ _)
      | (with_reducible exact ih3 _ _ _ _ _ _ _ _ _ _)
      | (with_reducible exact ih4 _ _ _ _ _ _ _ _ _ _ _)
      | (with_reducible exact ih5 _ _ _ _ _ _ _ _ _ _)
      | (with_reducible exact tapestrierlaw7_alive.mono _)
      | (with_reducible exact value_Parse.mono _ _ _)
      | (with_reducible exact LeO.refl _)
      | (with_reducible exact LeO.none _)
      | (with_reducible refine LeO.ite ?_ ?_)
      | (with_reducible refine LeO.bind ?_ (fun _ => ?_))
      | exact ih0 _ _ _ _
      | exact ih1 _ _ _ _ _ _ _ _
      | exact ih2 _ _ _ _ _ _ _ _ _ _ _
      | exact ih3 _ _ _ _ _ _ _ _ _ _
      | exact ih4 _ _ _ _ _ _ _ _ _ _ _
      | exact ih5 _ _ _ _ _ _ _ _ _ _
      | exact tapestrierlaw7_alive.mono _
      | exact value_Parse.mono _ _ _
      | exact LeO.none _
      | refine LeO.ite ?_ ?_
      | refine LeO.bind ?_ (fun _ => ?_)
    · intro y0 y1 y2 y3 y4 y5 y6 y7 y8 y9
      unfold tapestrierlaw7_ValueNumbers.j3
      repeat' first
      | (with_reducible exact ih0 _ _ _ _)
      | (with_reducible exact ih1 _ _ _ _ _ _ _ _)
      | (with_reducible exact ih2 _ _ _ _ _ _ _ _ _ _ _)
      | (with_reducible exact ih3 _ _ _ _ _ _ _ _ _ _)
      | (with_reducible exact ih4 _ _ _ _ _ _ _ _ _ _ _)
      | (with_reducible exact ih5 _ _ _ _ _ _ _ _ _ _)
      | (with_reducible exact tapestrierlaw7_alive.mono _)
      | (with_reducible exact value_Parse.mono _ _ _)
      | (with_reducible exact LeO.refl _)
      | (with_reducible exact LeO.none _)
      | (with_reducible refine LeO.ite ?_ ?_)
      | (with_reducible refine LeO.bind ?_ (fun _ => ?_))
      | exact ih0 _ _ _ _
      | exact ih1 _ _ _ _ _ _ _ _
      | exact ih2 _ _ _ _ _ _ _ _ _ _ _
      | exact ih3 _ _ _ _ _ _ _ _ _ _
      | exact ih4 _ _ _ _ _ _ _ _ _ _ _
      | exact ih5 _ _ _ _ _ _ _ _ _ _
      | exact tapestrierlaw7_alive.mono _
      | exact value_Parse.mono _ _ _
      | exact LeO.none _
      | refine LeO.ite ?_ ?_
      | refine LeO.bind ?_ (fun _ => ?_)
    · intro y0 y1 y2 y3 y4 y5 y6 y7 y8 y9 y10
      unfold tapestrierlaw7_ValueNumbers.j4
      repeat' first
      | (with_reducible exact ih0 _ _ _ _)
      | (with_reducible exact ih1 _ _ _ _ _ _ _ _)
      | (with_reducible exact ih2 _ _ _ _ _ _ _ _ _ _ _)
      | (with_reducible exact ih3 _ _ _ _ _ _ _ _ _ _)
      | (with_reducible exact ih4 _ _ _ _ _ _ _ _ _ _ _)
      | (with_reducible exact ih5 _ _ _ _ _ _ _ _ _ _)
      | (with_reducible exact tapestrierlaw7_alive.mono _)
      | (with_reducible exact value_Parse.mono _ _ _)
      | (with_reducible exact LeO.refl _)
      | (with_reducible exact LeO.none _)
      | (with_reducible refine LeO.ite ?_ ?_)
      | (with_reducible refine LeO.bind ?_ (fun _ => ?_))
      | exact ih0 _ _ _ _
      | exact ih1 _ _ _ _ _ _ _ _
      | exact ih2 _ _ _ _ _ _ _ _ _ _ _
      | exact ih3 _ _ _ _ _ _ _ _ _ _
      | exact ih4 _ _ _ _ _ _ _ _ _ _ _
      | exact ih5 _ _ _ _ _ _ _ _ _ _
      | exact tapestrierlaw7_alive.mono _
      | exact value_Parse.mono _ _ _
      | exact LeO.none _
      | refine LeO.ite ?_ ?_
      | refine LeO.bind ?_ (fun _ => ?_)
    · intro y0 y1 y2 y3 y4 y5 y6 y7 y8 y9
      unfold tapestrierlaw7_ValueNumbers.j5
      repeat' first
      | (with_reducible exact ih0 _ _ _ _)
      | (with_reducible exact ih1 _ _ _ _ _ _ _ _)
      | (with_reducible exact ih2 _ _ _ _ _ _ _ _ _ _ _)
      | (with_reducible exact ih3 _ _ _ _ _ _ _ _ _ _)
      | (with_reducible exact ih4 _ _ _ _ _ _ _ _ _ _ _)
      | (with_reducible exact ih5 _ _ _ _ _ _ _ _ _ _)
      | (with_reducible exact tapestrierlaw7_alive.mono _)
      | (with_reducible exact value_Parse.mono _ _ _)
      | (with_reducible exact LeO.refl _)
      | (with_reducible exact LeO.none _)
      | (with_reducible refine LeO.ite ?_ ?_)
      | (with_reducible refine LeO.bind ?_ (fun _ => ?_))
      | exact ih0 _ _ _ _
      | exact ih1 _ _ _ _ _ _ _ _
      | exact ih2 _ _ _ _ _ _ _ _ _ _ _
      | exact ih3 _ _ _ _ _ _ _ _ _ _
      | exact ih4 _ _ _ _ _ _ _ _ _ _ _
      | exact ih5 _ _ _ _ _ _ _ _ _ _
      | exact tapestrierlaw7_alive.mono _
      | exact value_Parse.mono _ _ _
      | exact LeO.none _
      | refine LeO.ite ?_ ?_
      | refine LeO.bind ?_ (fun _ => ?_)
theorem tapestrierlaw7_ValueNumbers.mono : ∀ a0 a1 k, LeO (tapestrierlaw7_ValueNumbers.f k a0 a1) (tapestrierlaw7_ValueNumbers.f (k + 1) a0 a1) := by
  intro a0 a1 k
  obtain ⟨ih0, ih1, ih2, ih3, ih4, ih5⟩ := tapestrierlaw7_ValueNumbers.mono_l k
  unfold tapestrierlaw7_ValueNumbers.f
  repeat' first
      | (with_reducible exact ih0 _ _ _ _)
      | (with_reducible exact ih1 _ _ _ _ _ _ _ _)
      | (with_reducible exact ih2 _ _ _ _ _ _ _ _ _ _ _)
      | (with_reducible exact ih3 _ _ _ _ _ _ _ _ _ _)
      | (with_reducible exact ih4 _ _ _ _ _ _ _ _ _ _ _)
      | (with_reducible exact ih5 _ _ _ _ _ _ _ _ _ _)
      | (with_reducible exact tapestrierlaw7_alive.mono _)
      | (with_reducible exact value_Parse.mono _ _ _)
      | (with_reducible exact LeO.refl _)
      | (with_reducible exact LeO.none _)
      | (with_reducible refine LeO.ite ?_ ?_)
      | (with_reducible refine LeO.bind ?_ (fun _ => ?_))
      | exact ih0 _ _ _ _
      | exact ih1 _ _ _ _ _ _ _ _
      | exact ih2 _ _ _ _ _ _ _ _ _ _ _
      | exact ih3 _ _ _ _ _ _ _ _ _ _
      | exact ih4 _ _ _ _ _ _ _ _ _ _ _
      | exact ih5 _ _ _ _ _ _ _ _ _ _
      | exact tapestrierlaw7_alive.mono _
      | exact value_Parse.mono _ _ _
      | exact LeO.none _
      | refine LeO.ite ?_ ?_
      | refine LeO.bind ?_ (fun _ => ?_)
set_option maxHeartbeats 8000000 in
set_option maxRecDepth 100000 in
theorem tapestrierlaw7_ValueNumbers.calls (k : Nat) (a0 : Int) (a1 : Bool) (r : Bool) (w : World) (h : tapestrierlaw7_ValueNumbers.f k a0 a1 = some r) :
    Calls Tryd.prog 8 #[.int .i64 a0, .bool a1] w fun e w' => e = .returned (.bool r) ∧ Below w.heap.size w w' := by
  have hu25 := Tryd.underlying25
  have hu27 := Tryd.underlying27
  have HB := Aside0.mk (Below.refl w.heap.size w)
  have H : ((tapestrierlaw7_alive.f k).bind fun t135 => (tapestrierlaw7_ValueNumbers.l0 k a0 a1 t135 0)) = some r := h
  clear h
  replace H := Option.bind_eq_some_iff.mp H
  obtain ⟨t135, A30, H⟩ := H
  replace H : (tapestrierlaw7_ValueNumbers.l0 k a0 a1 t135 0) = some r := H
  have A3 := Aside0.mk A30
  clear A30
  have H' := Aside0.mk H
  clear H
  go_enter Tryd.func8, Tryd.ntmps8
  go_wp2_with (first | ((with_reducible refine gate_callee (f := 12) rfl ?_); refine goesL_ (some 11) rfl rfl Tryd.func12 (by kernel_rfl) rfl #[] rfl (by (try simp only [List.map_toArray, List.map_cons, List.map_nil]); first | done | rfl | (simp only [List.length_drop, List.length_take]; rfl)) ?_; (with_reducible refine (tapestrierlaw7_alive.calls k  t135 _ A3.out).mono ?_); rintro e w4 ⟨rfl, hb⟩; refine ⟨_, rfl, ?_⟩; have n0_ := Aside0.mk (below_step (by repeat (first | (with_reducible first | exact HB.out | apply below_alloc | apply pw_below_drewN | apply below_drew1) | exact HB.out)) hb); clear HB; have HB := n0_; clear n0_; (try clear hb); (try clear hb2); (try clear hk); (try clear hi)))
  go_loopg [6] k (fun kq v6 w' => ∃ (x6_1 : Int), v6 = .int .i64 x6_1 ∧ Aside0 (tapestrierlaw7_ValueNumbers.l0 kq a0 a1 t135 x6_1 = some r) ∧ Aside0 (kq ≤ k) ∧ Aside0 (Below w.heap.size w w'))
  case atStart => exact ⟨(0), (by first | rfl | (simp; done) | (simp [*]; done)), H', ⟨Nat.le_refl _⟩, ⟨by repeat (first | (with_reducible first | exact HB.out | apply below_alloc | apply pw_below_drewN | apply below_drew1) | exact HB.out)⟩⟩
  case round =>
    clear H'
    try clear c1
    try clear p2
    obtain ⟨x6_1, rfl, HA, HK1, HB⟩ := hrel
    cases gk with
    | zero => exact absurd HA.out (by simp [tapestrierlaw7_ValueNumbers.l0])
    | succ k1 =>
      have H := HA.out
      clear HA
      simp only [tapestrierlaw7_ValueNumbers.l0] at H
      by_cases c5 : x6_1 < 8
      · rw [if_pos c5] at H
        have c5b0 : decide (x6_1 < 8) = true := decide_eq_true c5
        clear c5
        obtain ⟨y136, hy136⟩ : ∃ y_ : List (S25), y_ = (([(⟨6, (⟨#[]⟩ : ByteArray), a0, a1, 0⟩ : S25)] : List (S25))) := ⟨_, rfl⟩
        replace H : ((value_Parse.f k1 x6_1 y136).bind fun bt139 => (if x6_1 = 6 then (tapestrierlaw7_ValueNumbers.j1 k1 a0 a1 t135 x6_1 bt139.2.2 true bt139.1 bt139.2.1) else (if x6_1 = 7 then (if a1 = true then (tapestrierlaw7_ValueNumbers.j1 k1 a0 a1 t135 x6_1 bt139.2.2 true bt139.1 bt139.2.1) else (if x6_1 = 5 then (tapestrierlaw7_ValueNumbers.j1 k1 a0 a1 t135 x6_1 bt139.2.2 (a0 == 0) bt139.1 bt139.2.1) else (tapestrierlaw7_ValueNumbers.j1 k1 a0 a1 t135 x6_1 bt139.2.2 false bt139.1 bt139.2.1))) else (if x6_1 = 5 then (tapestrierlaw7_ValueNumbers.j1 k1 a0 a1 t135 x6_1 bt139.2.2 (a0 == 0) bt139.1 bt139.2.1) else (tapestrierlaw7_ValueNumbers.j1 k1 a0 a1 t135 x6_1 bt139.2.2 false bt139.1 bt139.2.1))))) = some r := by first | (rw [hy136]; with_reducible exact H) | (have H2_ := (Option.bind_some _ _).symm.trans H; rw [hy136]; with_reducible exact H2_) | (have H2_ := (Option.bind_some _ _).symm.trans H; with_reducible exact H2_) | with_reducible exact H | (rw [hy136]; exact H) | exact H
        have Ny136 := Aside0.mk hy136
        clear hy136
        replace H := Option.bind_eq_some_iff.mp H
        obtain ⟨⟨t139, t140, t141⟩, A60, H⟩ := H
        replace H : (if x6_1 = 6 then (tapestrierlaw7_ValueNumbers.j1 k1 a0 a1 t135 x6_1 t141 true t139 t140) else (if x6_1 = 7 then (if a1 = true then (tapestrierlaw7_ValueNumbers.j1 k1 a0 a1 t135 x6_1 t141 true t139 t140) else (if x6_1 = 5 then (tapestrierlaw7_ValueNumbers.j1 k1 a0 a1 t135 x6_1 t141 (a0 == 0) t139 t140) else (tapestrierlaw7_ValueNumbers.j1 k1 a0 a1 t135 x6_1 t141 false t139 t140))) else (if x6_1 = 5 then (tapestrierlaw7_ValueNumbers.j1 k1 a0 a1 t135 x6_1 t141 (a0 == 0) t139 t140) else (tapestrierlaw7_ValueNumbers.j1 k1 a0 a1 t135 x6_1 t141 false t139 t140)))) = some r := H
        have A6 := Aside0.mk A60
        clear A60
        have HC7 := Aside0.mk H
        clear H
        go_upto_region 6 with (first | ((with_reducible refine gate_dst (N := 21) rfl ?_); refine Kd.R_lit k25 _ 25 ?hg (N := 21) ?hd (xs := ([(⟨6, (⟨#[]⟩ : ByteArray), a0, a1, 0⟩ : S25)] : List (S25))) (inner := [.int .i64 6, .string (⟨#[]⟩ : ByteArray), .int .i64 a0, .bool a1, .int .i64 0]) (ok := fun _ => True) (okp := fun _ => True) ?hr ?hp (fun _ hk => hk) trivial (Below.refl _ _) (Nat.le_refl _) (by simp) ?_; (case hd => rfl); (case hg => rfl); (case hr => first | (go_simp; done) | (go_simp; rfl)); (case hp => exact (Reps.c5 (show Kd.M k25 _ _ _ (⟨6, (⟨#[]⟩ : ByteArray), a0, a1, 0⟩ : S25) [.int .i64 6, .string (⟨#[]⟩ : ByteArray), .int .i64 a0, .bool a1, .int .i64 0] from (k25_mkM _ _ _ (⟨6, (⟨#[]⟩ : ByteArray), a0, a1, 0⟩ : S25) )) (Reps.none _ _))); intro v137 w8 ho9 hb hg_ hnew_; clear hg_ hnew_; (first | rw [← Ny136.out] at ho9 | (simp only [Int.reduceToNat] at ho9; rw [← Ny136.out] at ho9)); have n0_ := Aside0.mk (Kd.R_lower ho9 (below_size (by repeat (first | (with_reducible first | exact HB.out | apply below_alloc | apply pw_below_drewN | apply below_drew1) | exact HB.out)))); have n1_ := Aside0.mk (below_step (by repeat (first | (with_reducible first | exact HB.out | apply below_alloc | apply pw_below_drewN | apply below_drew1) | exact HB.out)) hb); clear HB; have HO138 := n0_; have HB := n1_; clear n0_ n1_; clear hb ho9; obtain ⟨Ao10, co10, eo10⟩ := Kd.R_slice HO138.out; subst eo10) | ((with_reducible refine gate_callee (f := 13) rfl ?_); refine goesL_ (some 22) rfl rfl Tryd.func13 (by kernel_rfl) rfl #[.int .i64 x6_1, .slice Ao10 y136.length co10] rfl (by (try simp only [List.map_toArray, List.map_cons, List.map_nil]); first | done | rfl | (simp only [List.length_drop, List.length_take]; rfl)) ?_; (with_reducible refine (value_Parse.calls k1 x6_1 _ _ y136 t139 t140 t141 _ ?side1 ?side2 A6.out).mono ?_); (case side1 => repeat (first | exact (Kd.R_reads' HO138.out).2.2 | (with_reducible refine Kd.C_alloc ?_ _) | (with_reducible refine Kd.C_drewN ?_ _) | (with_reducible refine Kd.C_drew ?_))); (case side2 => exact (Kd.R_reads' HO138.out).2.1); rintro e w11 ⟨rfl, hb⟩; refine ⟨_, rfl, ?_⟩; have n0_ := Aside0.mk (Kd.R_below (by (with_reducible repeat (first | apply Kd.R_alloc | apply Kd.R_drewN | apply Kd.R_drew)); exact HO138.out) hb); have n1_ := Aside0.mk (below_step (by repeat (first | (with_reducible first | exact HB.out | apply below_alloc | apply pw_below_drewN | apply below_drew1) | exact HB.out)) hb); clear HO138; clear HB; have HO138 := n0_; have HB := n1_; clear n0_ n1_; (try clear hb); (try clear hb2); (try clear hk); (try clear hi)) | ((with_reducible refine gate_dst (N := 7) rfl ?_); refine box_event ?hg (N := 7) ?hd (cs := #[.int .i64 0, .int .i64 0]) (t := 27) ?hr ?_; (case hd => rfl); (case hg => rfl); (case hr => first | (go_simp; done) | (go_simp; rfl)); intro gb142 hg w12 hbox hb; have n0_ := Aside0.mk (Kd.R_below (by (with_reducible repeat (first | apply Kd.R_alloc | apply Kd.R_drewN | apply Kd.R_drew)); exact HO138.out) hb); have n1_ := Aside0.mk (below_step (by repeat (first | (with_reducible first | exact HB.out | apply below_alloc | apply pw_below_drewN | apply below_drew1) | exact HB.out)) hb); have n2_ := Aside0.mk (hbox); have n3_ := Aside0.mk ((by rw [hg]; exact (below_size (by repeat (first | (with_reducible first | exact HB.out | apply below_alloc | apply pw_below_drewN | apply below_drew1) | exact HB.out))) : w.heap.size ≤ gb142)); have n4_ := Aside0.mk ((by rw [hg]; exact (below_size (by repeat (first | (with_reducible first | exact HB.out | apply below_alloc | apply pw_below_drewN | apply below_drew1) | exact HB.out))) : w.heap.size ≤ gb142)); clear HO138; clear HB; have HO138 := n0_; have HB := n1_; have BK142 := n2_; have GW142 := n3_; have GE142 := n4_; clear n0_ n1_ n2_ n3_ n4_; clear hb hbox hg; have hcz13_0 : w12.cell? ⟨gb142, 0, none⟩ = some (.int .i64 0) := (blk_cell BK142.out 0).trans rfl; have hcz13_1 : w12.cell? ⟨gb142, 1, none⟩ = some (.int .i64 0) := (blk_cell BK142.out 1).trans rfl; have hfz13_0 := blk_frozen BK142.out 0; have hfz13_1 := blk_frozen BK142.out 1))
        (try simp only [Act.put, List.setIfInBounds_toArray, List.set_cons_zero, List.set_cons_succ])
        go_cut [9] (fun v9 wc => ∃ (kq : Nat) (x9_6 : Bool), v9 = .bool x9_6 ∧ Aside0 (tapestrierlaw7_ValueNumbers.j1 kq a0 a1 t135 x6_1 t141 x9_6 t139 t140 = some r) ∧ Aside0 (kq ≤ k1) ∧ Aside0 (wc.heap[gb142]? = some (.cells #[.int .i64 t139, .int .i64 t140] 27 (0, 0))) ∧ Aside0 (Below w.heap.size w wc))
        case first =>
          have H := HC7.out
          clear HC7
          by_cases c14 : x6_1 = 6
          · rw [if_pos c14] at H
            have c14b0 : (x6_1 == 6) = true := beq_iff_eq.mpr c14
            have c14b1 : (x6_1 != 6) = false := bne_eq_false_iff_eq.mpr c14
            clear c14
            (first | rw [c14b0] | (simp only [i64_w, i32_w]; rw [c14b0]) | skip)
            have H' := Aside0.mk H
            clear H
            go_wp2
            go_meet
            case rel => exact ⟨_, (true), (by first | rfl | (simp; done) | (simp [*]; done)), H', ⟨by have := HK1.out; first | omega | exact Nat.le_refl _⟩, ⟨by (with_reducible repeat (first | refine blk_drewN ?_ _ | refine blk_drew ?_ | refine blk_alloc ?_ _)); refine blk_put (cs := #[.int .i64 t139, .int .i64 0]) ?_ 1 _ rfl; (with_reducible repeat (first | refine blk_drewN ?_ _ | refine blk_drew ?_ | refine blk_alloc ?_ _)); refine blk_put (cs := #[.int .i64 0, .int .i64 0]) ?_ 0 _ rfl; (with_reducible repeat (first | refine blk_drewN ?_ _ | refine blk_drew ?_ | refine blk_alloc ?_ _)); exact BK142.out⟩, ⟨by repeat (first | (with_reducible first | exact HB.out | apply below_alloc | apply pw_below_drewN | apply below_drew1 | refine below_set ?_ GE142.out) | exact HB.out)⟩⟩
          · rw [if_neg c14] at H
            have c14b0 : (x6_1 == 6) = false := beq_eq_false_iff_ne.mpr c14
            have c14b1 : (x6_1 != 6) = true := bne_iff_ne.mpr c14
            (first | rw [c14b0] | (simp only [i64_w, i32_w]; rw [c14b0]) | skip)
            by_cases c15 : x6_1 = 7
            · rw [if_pos c15] at H
              have c15b0 : (x6_1 == 7) = true := beq_iff_eq.mpr c15
              have c15b1 : (x6_1 != 7) = false := bne_eq_false_iff_eq.mpr c15
              clear c15
              by_cases c16 : a1 = true
              · subst c16
                have H1 : (tapestrierlaw7_ValueNumbers.j1 k1 a0 true t135 x6_1 t141 true t139 t140) = some r := by rw [if_pos rfl] at H; exact H
                clear H
                have H := H1
                clear H1
                have H' := Aside0.mk H
                clear H
                go_wp2
                go_meet
                case rel => exact ⟨_, (true), (by first | rfl | (simp; done) | (simp [*]; done)), H', ⟨by have := HK1.out; first | omega | exact Nat.le_refl _⟩, ⟨by (with_reducible repeat (first | refine blk_drewN ?_ _ | refine blk_drew ?_ | refine blk_alloc ?_ _)); refine blk_put (cs := #[.int .i64 t139, .int .i64 0]) ?_ 1 _ rfl; (with_reducible repeat (first | refine blk_drewN ?_ _ | refine blk_drew ?_ | refine blk_alloc ?_ _)); refine blk_put (cs := #[.int .i64 0, .int .i64 0]) ?_ 0 _ rfl; (with_reducible repeat (first | refine blk_drewN ?_ _ | refine blk_drew ?_ | refine blk_alloc ?_ _)); exact BK142.out⟩, ⟨by repeat (first | (with_reducible first | exact HB.out | apply below_alloc | apply pw_below_drewN | apply below_drew1 | refine below_set ?_ GE142.out) | exact HB.out)⟩⟩
              · replace c16 := Bool.eq_false_iff.mpr c16
                subst c16
                have H1 : (if x6_1 = 5 then (tapestrierlaw7_ValueNumbers.j1 k1 a0 false t135 x6_1 t141 (a0 == 0) t139 t140) else (tapestrierlaw7_ValueNumbers.j1 k1 a0 false t135 x6_1 t141 false t139 t140)) = some r := by rw [if_neg (show ¬ (false = true) by decide)] at H; exact H
                clear H
                have H := H1
                clear H1
                by_cases c17 : x6_1 = 5
                · rw [if_pos c17] at H
                  have c17b0 : (x6_1 == 5) = true := beq_iff_eq.mpr c17
                  have c17b1 : (x6_1 != 5) = false := bne_eq_false_iff_eq.mpr c17
                  clear c17
                  have H' := Aside0.mk H
                  clear H
                  go_wp2
                  go_meet
                  case rel => exact ⟨_, ((a0 == 0)), (by first | rfl | (simp; done) | (simp [*]; done)), H', ⟨by have := HK1.out; first | omega | exact Nat.le_refl _⟩, ⟨by (with_reducible repeat (first | refine blk_drewN ?_ _ | refine blk_drew ?_ | refine blk_alloc ?_ _)); refine blk_put (cs := #[.int .i64 t139, .int .i64 0]) ?_ 1 _ rfl; (with_reducible repeat (first | refine blk_drewN ?_ _ | refine blk_drew ?_ | refine blk_alloc ?_ _)); refine blk_put (cs := #[.int .i64 0, .int .i64 0]) ?_ 0 _ rfl; (with_reducible repeat (first | refine blk_drewN ?_ _ | refine blk_drew ?_ | refine blk_alloc ?_ _)); exact BK142.out⟩, ⟨by repeat (first | (with_reducible first | exact HB.out | apply below_alloc | apply pw_below_drewN | apply below_drew1 | refine below_set ?_ GE142.out) | exact HB.out)⟩⟩
                · rw [if_neg c17] at H
                  have c17b0 : (x6_1 == 5) = false := beq_eq_false_iff_ne.mpr c17
                  have c17b1 : (x6_1 != 5) = true := bne_iff_ne.mpr c17
                  have H' := Aside0.mk H
                  clear H
                  go_wp2
                  go_meet
                  case rel => exact ⟨_, (false), (by first | rfl | (simp; done) | (simp [*]; done)), H', ⟨by have := HK1.out; first | omega | exact Nat.le_refl _⟩, ⟨by (with_reducible repeat (first | refine blk_drewN ?_ _ | refine blk_drew ?_ | refine blk_alloc ?_ _)); refine blk_put (cs := #[.int .i64 t139, .int .i64 0]) ?_ 1 _ rfl; (with_reducible repeat (first | refine blk_drewN ?_ _ | refine blk_drew ?_ | refine blk_alloc ?_ _)); refine blk_put (cs := #[.int .i64 0, .int .i64 0]) ?_ 0 _ rfl; (with_reducible repeat (first | refine blk_drewN ?_ _ | refine blk_drew ?_ | refine blk_alloc ?_ _)); exact BK142.out⟩, ⟨by repeat (first | (with_reducible first | exact HB.out | apply below_alloc | apply pw_below_drewN | apply below_drew1 | refine below_set ?_ GE142.out) | exact HB.out)⟩⟩
            · rw [if_neg c15] at H
              have c15b0 : (x6_1 == 7) = false := beq_eq_false_iff_ne.mpr c15
              have c15b1 : (x6_1 != 7) = true := bne_iff_ne.mpr c15
              by_cases c18 : x6_1 = 5
              · rw [if_pos c18] at H
                have c18b0 : (x6_1 == 5) = true := beq_iff_eq.mpr c18
                have c18b1 : (x6_1 != 5) = false := bne_eq_false_iff_eq.mpr c18
                clear c18
                have H' := Aside0.mk H
                clear H
                go_wp2
                go_meet
                case rel => exact ⟨_, ((a0 == 0)), (by first | rfl | (simp; done) | (simp [*]; done)), H', ⟨by have := HK1.out; first | omega | exact Nat.le_refl _⟩, ⟨by (with_reducible repeat (first | refine blk_drewN ?_ _ | refine blk_drew ?_ | refine blk_alloc ?_ _)); refine blk_put (cs := #[.int .i64 t139, .int .i64 0]) ?_ 1 _ rfl; (with_reducible repeat (first | refine blk_drewN ?_ _ | refine blk_drew ?_ | refine blk_alloc ?_ _)); refine blk_put (cs := #[.int .i64 0, .int .i64 0]) ?_ 0 _ rfl; (with_reducible repeat (first | refine blk_drewN ?_ _ | refine blk_drew ?_ | refine blk_alloc ?_ _)); exact BK142.out⟩, ⟨by repeat (first | (with_reducible first | exact HB.out | apply below_alloc | apply pw_below_drewN | apply below_drew1 | refine below_set ?_ GE142.out) | exact HB.out)⟩⟩
              · rw [if_neg c18] at H
                have c18b0 : (x6_1 == 5) = false := beq_eq_false_iff_ne.mpr c18
                have c18b1 : (x6_1 != 5) = true := bne_iff_ne.mpr c18
                have H' := Aside0.mk H
                clear H
                go_wp2
                go_meet
                case rel => exact ⟨_, (false), (by first | rfl | (simp; done) | (simp [*]; done)), H', ⟨by have := HK1.out; first | omega | exact Nat.le_refl _⟩, ⟨by (with_reducible repeat (first | refine blk_drewN ?_ _ | refine blk_drew ?_ | refine blk_alloc ?_ _)); refine blk_put (cs := #[.int .i64 t139, .int .i64 0]) ?_ 1 _ rfl; (with_reducible repeat (first | refine blk_drewN ?_ _ | refine blk_drew ?_ | refine blk_alloc ?_ _)); refine blk_put (cs := #[.int .i64 0, .int .i64 0]) ?_ 0 _ rfl; (with_reducible repeat (first | refine blk_drewN ?_ _ | refine blk_drew ?_ | refine blk_alloc ?_ _)); exact BK142.out⟩, ⟨by repeat (first | (with_reducible first | exact HB.out | apply below_alloc | apply pw_below_drewN | apply below_drew1 | refine below_set ?_ GE142.out) | exact HB.out)⟩⟩
        case rest =>
          clear HC7
          try clear c1
          try clear p2
          try clear c5
          try clear c5b0
          try clear c8
          try clear c12
          try clear c13
          try clear c14
          try clear c14b0
          try clear c14b1
          try clear c15
          try clear c15b0
          try clear c15b1
          try clear c16
          try clear c17
          try clear c17b0
          try clear c17b1
          try clear c18
          try clear c18b0
          try clear c18b1
          try clear hcz13_0
          try clear hcz13_1
          try clear hfz13_0
          try clear hfz13_1
          try clear p2
          obtain ⟨kq, x9_6, rfl, HA, HJ6, BK142, HB⟩ := hcut
          cases kq with
          | zero => exact absurd HA.out (by simp [tapestrierlaw7_ValueNumbers.j1])
          | succ kj6 =>
            have H := HA.out
            clear HA
            simp only [tapestrierlaw7_ValueNumbers.j1] at H
            have HC19 := Aside0.mk H
            clear H
            go_upto_region 8 with (first | ((with_reducible refine gate_dst (N := 10) rfl ?_); refine box_event ?hg (N := 10) ?hd (cs := #[.int .i64 0, .int .i64 0]) (t := 27) ?hr ?_; (case hd => rfl); (case hg => rfl); (case hr => first | (go_simp; done) | (go_simp; rfl)); intro gb143 hg w20 hbox hb; have n0_ := Aside0.mk (blk_below (g := gb142) (o := .cells #[.int .i64 t139, .int .i64 t140] 27 (0, 0)) (by (with_reducible repeat (first | refine blk_drewN ?_ _ | refine blk_drew ?_ | refine blk_alloc ?_ _)); exact BK142.out) hb); have n1_ := Aside0.mk (below_step (by repeat (first | (with_reducible first | exact HB.out | apply below_alloc | apply pw_below_drewN | apply below_drew1 | refine below_set ?_ GE142.out) | exact HB.out)) hb); have n2_ := Aside0.mk (hbox); have n3_ := Aside0.mk ((by rw [hg]; exact (below_size (by repeat (first | (with_reducible first | exact HB.out | apply below_alloc | apply pw_below_drewN | apply below_drew1 | refine below_set ?_ GE142.out) | exact HB.out))) : w.heap.size ≤ gb143)); have n4_ := Aside0.mk ((by rw [hg]; exact (below_size (by repeat (first | (with_reducible first | exact HB.out | apply below_alloc | apply pw_below_drewN | apply below_drew1 | refine below_set ?_ GE142.out) | exact HB.out))) : w.heap.size ≤ gb143)); have n5_ := Aside0.mk ((by rw [hg]; exact Nat.ne_of_lt (blk_lt (g := gb142) (o := .cells #[.int .i64 t139, .int .i64 t140] 27 (0, 0)) (by (with_reducible repeat (first | refine blk_drewN ?_ _ | refine blk_drew ?_ | refine blk_alloc ?_ _)); exact BK142.out)) : gb142 ≠ gb143)); have n6_ := Aside0.mk ((by rw [hg]; exact Nat.ne_of_gt (blk_lt (g := gb142) (o := .cells #[.int .i64 t139, .int .i64 t140] 27 (0, 0)) (by (with_reducible repeat (first | refine blk_drewN ?_ _ | refine blk_drew ?_ | refine blk_alloc ?_ _)); exact BK142.out)) : gb143 ≠ gb142)); clear BK142; clear HB; have BK142 := n0_; have HB := n1_; have BK143 := n2_; have GW143 := n3_; have GE143 := n4_; have NB142_143 := n5_; have NB143_142 := n6_; clear n0_ n1_ n2_ n3_ n4_ n5_ n6_; clear hb hbox hg; have hnb21 := NB143_142.out; have hnc21 := NB142_143.out; have hcz22_0 : w20.cell? ⟨gb143, 0, none⟩ = some (.int .i64 0) := (blk_cell BK143.out 0).trans rfl; have hcz22_1 : w20.cell? ⟨gb143, 1, none⟩ = some (.int .i64 0) := (blk_cell BK143.out 1).trans rfl; have hfz22_0 := blk_frozen BK143.out 0; have hfz22_1 := blk_frozen BK143.out 1))
            (try simp only [Act.put, List.setIfInBounds_toArray, List.set_cons_zero, List.set_cons_succ])
            go_cut [49] (fun v49 wc => ∃ (kq : Nat) (x49_18 : Bool), v49 = .bool x49_18 ∧ Aside0 (tapestrierlaw7_ValueNumbers.j2 kq a0 a1 t135 x6_1 t141 x9_6 x49_18 t139 t140 5 a0 = some r) ∧ Aside0 (kq ≤ kj6) ∧ Aside0 (wc.heap[gb142]? = some (.cells #[.int .i64 t139, .int .i64 t140] 27 (0, 0))) ∧ Aside0 (wc.heap[gb143]? = some (.cells #[.int .i64 5, .int .i64 a0] 27 (0, 0))) ∧ Aside0 (Below w.heap.size w wc))
            case first =>
              have H := HC19.out
              clear HC19
              by_cases c23 : x6_1 = 6
              · rw [if_pos c23] at H
                have c23b0 : (x6_1 == 6) = true := beq_iff_eq.mpr c23
                have c23b1 : (x6_1 != 6) = false := bne_eq_false_iff_eq.mpr c23
                clear c23
                (first | rw [c23b0] | (simp only [i64_w, i32_w]; rw [c23b0]) | skip)
                have H' := Aside0.mk H
                clear H
                go_wp2
                go_meet
                case rel => exact ⟨_, (decide (a0 < 0)), (by first | rfl | (simp; done) | (simp [*]; done)), H', ⟨by have := HK1.out; have := HJ6.out; first | omega | exact Nat.le_refl _⟩, ⟨by (with_reducible repeat (first | refine blk_drewN ?_ _ | refine blk_drew ?_ | refine blk_alloc ?_ _)); refine blk_far ?_ NB142_143.out _; (with_reducible repeat (first | refine blk_drewN ?_ _ | refine blk_drew ?_ | refine blk_alloc ?_ _)); refine blk_far ?_ NB142_143.out _; (with_reducible repeat (first | refine blk_drewN ?_ _ | refine blk_drew ?_ | refine blk_alloc ?_ _)); exact BK142.out⟩, ⟨by (with_reducible repeat (first | refine blk_drewN ?_ _ | refine blk_drew ?_ | refine blk_alloc ?_ _)); refine blk_put (cs := #[.int .i64 5, .int .i64 0]) ?_ 1 _ rfl; (with_reducible repeat (first | refine blk_drewN ?_ _ | refine blk_drew ?_ | refine blk_alloc ?_ _)); refine blk_put (cs := #[.int .i64 0, .int .i64 0]) ?_ 0 _ rfl; (with_reducible repeat (first | refine blk_drewN ?_ _ | refine blk_drew ?_ | refine blk_alloc ?_ _)); exact BK143.out⟩, ⟨by repeat (first | (with_reducible first | exact HB.out | apply below_alloc | apply pw_below_drewN | apply below_drew1 | refine below_set ?_ GE142.out | refine below_set ?_ GE143.out) | exact HB.out)⟩⟩
              · rw [if_neg c23] at H
                have c23b0 : (x6_1 == 6) = false := beq_eq_false_iff_ne.mpr c23
                have c23b1 : (x6_1 != 6) = true := bne_iff_ne.mpr c23
                (first | rw [c23b0] | (simp only [i64_w, i32_w]; rw [c23b0]) | skip)
                have H' := Aside0.mk H
                clear H
                go_wp2
                go_meet
                case rel => exact ⟨_, (false), (by first | rfl | (simp; done) | (simp [*]; done)), H', ⟨by have := HK1.out; have := HJ6.out; first | omega | exact Nat.le_refl _⟩, ⟨by (with_reducible repeat (first | refine blk_drewN ?_ _ | refine blk_drew ?_ | refine blk_alloc ?_ _)); refine blk_far ?_ NB142_143.out _; (with_reducible repeat (first | refine blk_drewN ?_ _ | refine blk_drew ?_ | refine blk_alloc ?_ _)); refine blk_far ?_ NB142_143.out _; (with_reducible repeat (first | refine blk_drewN ?_ _ | refine blk_drew ?_ | refine blk_alloc ?_ _)); exact BK142.out⟩, ⟨by (with_reducible repeat (first | refine blk_drewN ?_ _ | refine blk_drew ?_ | refine blk_alloc ?_ _)); refine blk_put (cs := #[.int .i64 5, .int .i64 0]) ?_ 1 _ rfl; (with_reducible repeat (first | refine blk_drewN ?_ _ | refine blk_drew ?_ | refine blk_alloc ?_ _)); refine blk_put (cs := #[.int .i64 0, .int .i64 0]) ?_ 0 _ rfl; (with_reducible repeat (first | refine blk_drewN ?_ _ | refine blk_drew ?_ | refine blk_alloc ?_ _)); exact BK143.out⟩, ⟨by repeat (first | (with_reducible first | exact HB.out | apply below_alloc | apply pw_below_drewN | apply below_drew1 | refine below_set ?_ GE142.out | refine below_set ?_ GE143.out) | exact HB.out)⟩⟩
            case rest =>
              clear HC19
              try clear c1
              try clear c2
              try clear p2
              try clear c5
              try clear c5b0
              try clear c8
              try clear c12
              try clear c13
              try clear c14
              try clear c14b0
              try clear c14b1
              try clear c15
              try clear c15b0
              try clear c15b1
              try clear c16
              try clear c17
              try clear c17b0
              try clear c17b1
              try clear c18
              try clear c18b0
              try clear c18b1
              try clear c21
              try clear c23
              try clear c23b0
              try clear c23b1
              try clear hcz13_0
              try clear hcz13_1
              try clear hcz22_0
              try clear hcz22_1
              try clear hfz13_0
              try clear hfz13_1
              try clear hfz22_0
              try clear hfz22_1
              try clear p2
              obtain ⟨kq, x49_18, rfl, HA, HJ18, BK142, BK143, HB⟩ := hcut
              cases kq with
              | zero => exact absurd HA.out (by simp [tapestrierlaw7_ValueNumbers.j2])
              | succ kj18 =>
                have H := HA.out
                clear HA
                simp only [tapestrierlaw7_ValueNumbers.j2] at H
                have HC24 := Aside0.mk H
                clear H
                go_upto_if 49 with (fail)
                go_cut [] (fun wc => ∃ (kq : Nat) (x144001_23 : Int), Aside0 (tapestrierlaw7_ValueNumbers.j3 kq a0 a1 t135 x6_1 t141 x9_6 t139 t140 5 x144001_23 = some r) ∧ Aside0 (kq ≤ kj18) ∧ Aside0 (wc.heap[gb142]? = some (.cells #[.int .i64 t139, .int .i64 t140] 27 (0, 0))) ∧ Aside0 (wc.heap[gb143]? = some (.cells #[.int .i64 5, .int .i64 x144001_23] 27 (0, 0))) ∧ Aside0 (Below w.heap.size w wc))
                case first =>
                  have H := HC24.out
                  clear HC24
                  by_cases c25 : x49_18 = true
                  · subst c25
                    have H1 : (tapestrierlaw7_ValueNumbers.j3 kj18 a0 a1 t135 x6_1 t141 x9_6 t139 t140 5 0) = some r := by rw [if_pos rfl] at H; exact H
                    clear H
                    have H := H1
                    clear H1
                    have H' := Aside0.mk H
                    clear H
                    have hnb26 := NB143_142.out
                    have hnc26 := NB142_143.out
                    have hcz27_0 : wc.cell? ⟨gb143, 0, none⟩ = some (.int .i64 5) := (blk_cell BK143.out 0).trans rfl
                    have hcz27_1 : wc.cell? ⟨gb143, 1, none⟩ = some (.int .i64 a0) := (blk_cell BK143.out 1).trans rfl
                    have hfz27_0 := blk_frozen BK143.out 0
                    have hfz27_1 := blk_frozen BK143.out 1
                    go_wp2
                    go_meet
                    case rel => exact ⟨_, (0), H', ⟨by have := HK1.out; have := HJ6.out; have := HJ18.out; first | omega | exact Nat.le_refl _⟩, ⟨by (with_reducible repeat (first | refine blk_drewN ?_ _ | refine blk_drew ?_ | refine blk_alloc ?_ _)); refine blk_far ?_ NB142_143.out _; (with_reducible repeat (first | refine blk_drewN ?_ _ | refine blk_drew ?_ | refine blk_alloc ?_ _)); exact BK142.out⟩, ⟨by (with_reducible repeat (first | refine blk_drewN ?_ _ | refine blk_drew ?_ | refine blk_alloc ?_ _)); refine blk_put (cs := #[.int .i64 5, .int .i64 a0]) ?_ 1 _ rfl; (with_reducible repeat (first | refine blk_drewN ?_ _ | refine blk_drew ?_ | refine blk_alloc ?_ _)); exact BK143.out⟩, ⟨by repeat (first | (with_reducible first | exact HB.out | apply below_alloc | apply pw_below_drewN | apply below_drew1 | refine below_set ?_ GE142.out | refine below_set ?_ GE143.out) | exact HB.out)⟩⟩
                  · replace c25 := Bool.eq_false_iff.mpr c25
                    subst c25
                    have H1 : (tapestrierlaw7_ValueNumbers.j3 kj18 a0 a1 t135 x6_1 t141 x9_6 t139 t140 5 a0) = some r := by rw [if_neg (show ¬ (false = true) by decide)] at H; exact H
                    clear H
                    have H := H1
                    clear H1
                    have H' := Aside0.mk H
                    clear H
                    go_wp2
                    go_meet
                    case rel => exact ⟨_, (a0), H', ⟨by have := HK1.out; have := HJ6.out; have := HJ18.out; first | omega | exact Nat.le_refl _⟩, ⟨by (with_reducible repeat (first | refine blk_drewN ?_ _ | refine blk_drew ?_ | refine blk_alloc ?_ _)); exact BK142.out⟩, ⟨by (with_reducible repeat (first | refine blk_drewN ?_ _ | refine blk_drew ?_ | refine blk_alloc ?_ _)); exact BK143.out⟩, ⟨by repeat (first | (with_reducible first | exact HB.out | apply below_alloc | apply pw_below_drewN | apply below_drew1 | refine below_set ?_ GE142.out | refine below_set ?_ GE143.out) | exact HB.out)⟩⟩
                case rest =>
                  clear HC24
                  try clear c1
                  try clear c2
                  try clear p2
                  try clear c5
                  try clear c5b0
                  try clear c8
                  try clear c12
                  try clear c13
                  try clear c14
                  try clear c14b0
                  try clear c14b1
                  try clear c15
                  try clear c15b0
                  try clear c15b1
                  try clear c16
                  try clear c17
                  try clear c17b0
                  try clear c17b1
                  try clear c18
                  try clear c18b0
                  try clear c18b1
                  try clear c21
                  try clear c23
                  try clear c23b0
                  try clear c23b1
                  try clear c25
                  try clear c26
                  try clear hcz13_0
                  try clear hcz13_1
                  try clear hcz22_0
                  try clear hcz22_1
                  try clear hcz27_0
                  try clear hcz27_1
                  try clear hfz13_0
                  try clear hfz13_1
                  try clear hfz22_0
                  try clear hfz22_1
                  try clear hfz27_0
                  try clear hfz27_1
                  try clear p2
                  obtain ⟨kq, x144001_23, HA, HJ23, BK142, BK143, HB⟩ := hcut
                  cases kq with
                  | zero => exact absurd HA.out (by simp [tapestrierlaw7_ValueNumbers.j3])
                  | succ kj23 =>
                    have H := HA.out
                    clear HA
                    simp only [tapestrierlaw7_ValueNumbers.j3] at H
                    have HC28 := Aside0.mk H
                    clear H
                    go_upto_region 10 with (fail)
                    go_cut [56] (fun v56 wc => ∃ (kq : Nat) (x56_27 : Bool), v56 = .bool x56_27 ∧ Aside0 (tapestrierlaw7_ValueNumbers.j4 kq a0 a1 t135 x6_1 t141 x9_6 x56_27 t139 t140 5 x144001_23 = some r) ∧ Aside0 (kq ≤ kj23) ∧ Aside0 (wc.heap[gb142]? = some (.cells #[.int .i64 t139, .int .i64 t140] 27 (0, 0))) ∧ Aside0 (wc.heap[gb143]? = some (.cells #[.int .i64 5, .int .i64 x144001_23] 27 (0, 0))) ∧ Aside0 (Below w.heap.size w wc))
                    case first =>
                      have H := HC28.out
                      clear HC28
                      by_cases c29 : x6_1 = 6
                      · rw [if_pos c29] at H
                        have c29b0 : (x6_1 == 6) = true := beq_iff_eq.mpr c29
                        have c29b1 : (x6_1 != 6) = false := bne_eq_false_iff_eq.mpr c29
                        clear c29
                        (first | rw [c29b0] | (simp only [i64_w, i32_w]; rw [c29b0]) | skip)
                        have H' := Aside0.mk H
                        clear H
                        go_wp2
                        go_meet
                        case rel => exact ⟨_, (decide (a0 > 1000)), (by first | rfl | (simp; done) | (simp [*]; done)), H', ⟨by have := HK1.out; have := HJ6.out; have := HJ18.out; have := HJ23.out; first | omega | exact Nat.le_refl _⟩, ⟨by (with_reducible repeat (first | refine blk_drewN ?_ _ | refine blk_drew ?_ | refine blk_alloc ?_ _)); exact BK142.out⟩, ⟨by (with_reducible repeat (first | refine blk_drewN ?_ _ | refine blk_drew ?_ | refine blk_alloc ?_ _)); exact BK143.out⟩, ⟨by repeat (first | (with_reducible first | exact HB.out | apply below_alloc | apply pw_below_drewN | apply below_drew1 | refine below_set ?_ GE142.out | refine below_set ?_ GE143.out) | exact HB.out)⟩⟩
                      · rw [if_neg c29] at H
                        have c29b0 : (x6_1 == 6) = false := beq_eq_false_iff_ne.mpr c29
                        have c29b1 : (x6_1 != 6) = true := bne_iff_ne.mpr c29
                        (first | rw [c29b0] | (simp only [i64_w, i32_w]; rw [c29b0]) | skip)
                        have H' := Aside0.mk H
                        clear H
                        go_wp2
                        go_meet
                        case rel => exact ⟨_, (false), (by first | rfl | (simp; done) | (simp [*]; done)), H', ⟨by have := HK1.out; have := HJ6.out; have := HJ18.out; have := HJ23.out; first | omega | exact Nat.le_refl _⟩, ⟨by (with_reducible repeat (first | refine blk_drewN ?_ _ | refine blk_drew ?_ | refine blk_alloc ?_ _)); exact BK142.out⟩, ⟨by (with_reducible repeat (first | refine blk_drewN ?_ _ | refine blk_drew ?_ | refine blk_alloc ?_ _)); exact BK143.out⟩, ⟨by repeat (first | (with_reducible first | exact HB.out | apply below_alloc | apply pw_below_drewN | apply below_drew1 | refine below_set ?_ GE142.out | refine below_set ?_ GE143.out) | exact HB.out)⟩⟩
                    case rest =>
                      clear HC28
                      try clear c1
                      try clear c2
                      try clear p2
                      try clear c5
                      try clear c5b0
                      try clear c8
                      try clear c12
                      try clear c13
                      try clear c14
                      try clear c14b0
                      try clear c14b1
                      try clear c15
                      try clear c15b0
                      try clear c15b1
                      try clear c16
                      try clear c17
                      try clear c17b0
                      try clear c17b1
                      try clear c18
                      try clear c18b0
                      try clear c18b1
                      try clear c21
                      try clear c23
                      try clear c23b0
                      try clear c23b1
                      try clear c25
                      try clear c26
                      try clear c29
                      try clear c29b0
                      try clear c29b1
                      try clear hcz13_0
                      try clear hcz13_1
                      try clear hcz22_0
                      try clear hcz22_1
                      try clear hcz27_0
                      try clear hcz27_1
                      try clear hfz13_0
                      try clear hfz13_1
                      try clear hfz22_0
                      try clear hfz22_1
                      try clear hfz27_0
                      try clear hfz27_1
                      try clear p2
                      obtain ⟨kq, x56_27, rfl, HA, HJ27, BK142, BK143, HB⟩ := hcut
                      cases kq with
                      | zero => exact absurd HA.out (by simp [tapestrierlaw7_ValueNumbers.j4])
                      | succ kj27 =>
                        have H := HA.out
                        clear HA
                        simp only [tapestrierlaw7_ValueNumbers.j4] at H
                        have HC30 := Aside0.mk H
                        clear H
                        go_upto_if 56 with (fail)
                        go_cut [] (fun wc => ∃ (kq : Nat) (x144001_29 : Int), Aside0 (tapestrierlaw7_ValueNumbers.j5 kq a0 a1 t135 x6_1 t141 x9_6 t139 t140 5 x144001_29 = some r) ∧ Aside0 (kq ≤ kj27) ∧ Aside0 (wc.heap[gb142]? = some (.cells #[.int .i64 t139, .int .i64 t140] 27 (0, 0))) ∧ Aside0 (wc.heap[gb143]? = some (.cells #[.int .i64 5, .int .i64 x144001_29] 27 (0, 0))) ∧ Aside0 (Below w.heap.size w wc))
                        case first =>
                          have H := HC30.out
                          clear HC30
                          by_cases c31 : x56_27 = true
                          · subst c31
                            have H1 : (tapestrierlaw7_ValueNumbers.j5 kj27 a0 a1 t135 x6_1 t141 x9_6 t139 t140 5 1000) = some r := by rw [if_pos rfl] at H; exact H
                            clear H
                            have H := H1
                            clear H1
                            have H' := Aside0.mk H
                            clear H
                            have hnb32 := NB143_142.out
                            have hnc32 := NB142_143.out
                            have hcz33_0 : wc.cell? ⟨gb143, 0, none⟩ = some (.int .i64 5) := (blk_cell BK143.out 0).trans rfl
                            have hcz33_1 : wc.cell? ⟨gb143, 1, none⟩ = some (.int .i64 x144001_23) := (blk_cell BK143.out 1).trans rfl
                            have hfz33_0 := blk_frozen BK143.out 0
                            have hfz33_1 := blk_frozen BK143.out 1
                            go_wp2
                            go_meet
                            case rel => exact ⟨_, (1000), H', ⟨by have := HK1.out; have := HJ6.out; have := HJ18.out; have := HJ23.out; have := HJ27.out; first | omega | exact Nat.le_refl _⟩, ⟨by (with_reducible repeat (first | refine blk_drewN ?_ _ | refine blk_drew ?_ | refine blk_alloc ?_ _)); refine blk_far ?_ NB142_143.out _; (with_reducible repeat (first | refine blk_drewN ?_ _ | refine blk_drew ?_ | refine blk_alloc ?_ _)); exact BK142.out⟩, ⟨by (with_reducible repeat (first | refine blk_drewN ?_ _ | refine blk_drew ?_ | refine blk_alloc ?_ _)); refine blk_put (cs := #[.int .i64 5, .int .i64 x144001_23]) ?_ 1 _ rfl; (with_reducible repeat (first | refine blk_drewN ?_ _ | refine blk_drew ?_ | refine blk_alloc ?_ _)); exact BK143.out⟩, ⟨by repeat (first | (with_reducible first | exact HB.out | apply below_alloc | apply pw_below_drewN | apply below_drew1 | refine below_set ?_ GE142.out | refine below_set ?_ GE143.out) | exact HB.out)⟩⟩
                          · replace c31 := Bool.eq_false_iff.mpr c31
                            subst c31
                            have H1 : (tapestrierlaw7_ValueNumbers.j5 kj27 a0 a1 t135 x6_1 t141 x9_6 t139 t140 5 x144001_23) = some r := by rw [if_neg (show ¬ (false = true) by decide)] at H; exact H
                            clear H
                            have H := H1
                            clear H1
                            have H' := Aside0.mk H
                            clear H
                            go_wp2
                            go_meet
                            case rel => exact ⟨_, (x144001_23), H', ⟨by have := HK1.out; have := HJ6.out; have := HJ18.out; have := HJ23.out; have := HJ27.out; first | omega | exact Nat.le_refl _⟩, ⟨by (with_reducible repeat (first | refine blk_drewN ?_ _ | refine blk_drew ?_ | refine blk_alloc ?_ _)); exact BK142.out⟩, ⟨by (with_reducible repeat (first | refine blk_drewN ?_ _ | refine blk_drew ?_ | refine blk_alloc ?_ _)); exact BK143.out⟩, ⟨by repeat (first | (with_reducible first | exact HB.out | apply below_alloc | apply pw_below_drewN | apply below_drew1 | refine below_set ?_ GE142.out | refine below_set ?_ GE143.out) | exact HB.out)⟩⟩
                        case rest =>
                          clear HC30
                          try clear c1
                          try clear c2
                          try clear p2
                          try clear c3
                          try clear c5
                          try clear c5b0
                          try clear c8
                          try clear c12
                          try clear c13
                          try clear c14
                          try clear c14b0
                          try clear c14b1
                          try clear c15
                          try clear c15b0
                          try clear c15b1
                          try clear c16
                          try clear c17
                          try clear c17b0
                          try clear c17b1
                          try clear c18
                          try clear c18b0
                          try clear c18b1
                          try clear c21
                          try clear c23
                          try clear c23b0
                          try clear c23b1
                          try clear c25
                          try clear c26
                          try clear c29
                          try clear c29b0
                          try clear c29b1
                          try clear c31
                          try clear c32
                          try clear hcz13_0
                          try clear hcz13_1
                          try clear hcz22_0
                          try clear hcz22_1
                          try clear hcz27_0
                          try clear hcz27_1
                          try clear hcz33_0
                          try clear hcz33_1
                          try clear hfz13_0
                          try clear hfz13_1
                          try clear hfz22_0
                          try clear hfz22_1
                          try clear hfz27_0
                          try clear hfz27_1
                          try clear hfz33_0
                          try clear hfz33_1
                          try clear p2
                          obtain ⟨kq, x144001_29, HA, HJ29, BK142, BK143, HB⟩ := hcut
                          cases kq with
                          | zero => exact absurd HA.out (by simp [tapestrierlaw7_ValueNumbers.j5])
                          | succ kj29 =>
                            have H := HA.out
                            clear HA
                            simp only [tapestrierlaw7_ValueNumbers.j5] at H
                            by_cases c34 : x6_1 = 5
                            · rw [if_pos c34] at H
                              have c34b0 : (x6_1 == 5) = true := beq_iff_eq.mpr c34
                              have c34b1 : (x6_1 != 5) = false := bne_eq_false_iff_eq.mpr c34
                              clear c34
                              by_cases c35 : (t141 != x9_6) = true
                              · rw [if_pos c35] at H
                                have c35b0 : (t141 != x9_6) = true := c35
                                (try (have c35b1 : decide (t141 = x9_6) = false := by simpa using c35))
                                (try (have c35b2 : (t141 == x9_6) = false := by simpa using c35))
                                (try (have c35b3 : ¬ (t141 = x9_6) := by simpa using c35))
                                clear c35
                                obtain rfl := Option.some.inj H
                                have hnb36 := NB143_142.out
                                have hnc36 := NB142_143.out
                                have hcz37_0 : wc.cell? ⟨gb143, 0, none⟩ = some (.int .i64 5) := (blk_cell BK143.out 0).trans rfl
                                have hcz37_1 : wc.cell? ⟨gb143, 1, none⟩ = some (.int .i64 x144001_29) := (blk_cell BK143.out 1).trans rfl
                                have hfz37_0 := blk_frozen BK143.out 0
                                have hfz37_1 := blk_frozen BK143.out 1
                                go_wp2
                                go_ret
                                exact ⟨by first | rfl | (simp [errW_none, errW_some] <;> rfl) | (simp [*, errW_none, errW_some] <;> rfl), by repeat (first | (with_reducible first | exact HB.out | apply below_alloc | apply pw_below_drewN | apply below_drew1 | refine below_set ?_ GE142.out | refine below_set ?_ GE143.out) | exact HB.out)⟩
                              · rw [if_neg c35] at H
                                have c35b0 : (t141 != x9_6) = false := by simpa using c35
                                (try (have c35b1 : decide (t141 = x9_6) = true := by simpa using c35))
                                (try (have c35b2 : (t141 == x9_6) = true := by simpa using c35))
                                clear c35
                                by_cases c38 : t141 = true
                                · subst c38
                                  have H1 : (if (!(t139 == 2) || (!(t140 == x144001_29))) = true then (some false) else (tapestrierlaw7_ValueNumbers.l0 kj29 a0 a1 t135 (wrap64 (x6_1 + 1)))) = some r := by rw [if_pos rfl] at H; exact H
                                  clear H
                                  have H := H1
                                  clear H1
                                  by_cases c39 : (!(t139 == 2) || (!(t140 == x144001_29))) = true
                                  · rw [if_pos c39] at H
                                    have c39b0 : (!(t139 == 2) || (!(t140 == x144001_29))) = true := c39
                                    clear c39
                                    obtain rfl := Option.some.inj H
                                    have hnb40 := NB143_142.out
                                    have hnc40 := NB142_143.out
                                    have hcz41_0 : wc.cell? ⟨gb143, 0, none⟩ = some (.int .i64 5) := (blk_cell BK143.out 0).trans rfl
                                    have hcz41_1 : wc.cell? ⟨gb143, 1, none⟩ = some (.int .i64 x144001_29) := (blk_cell BK143.out 1).trans rfl
                                    have hfz41_0 := blk_frozen BK143.out 0
                                    have hfz41_1 := blk_frozen BK143.out 1
                                    have hcz42_0 : wc.cell? ⟨gb142, 0, none⟩ = some (.int .i64 t139) := (blk_cell BK142.out 0).trans rfl
                                    have hcz42_1 : wc.cell? ⟨gb142, 1, none⟩ = some (.int .i64 t140) := (blk_cell BK142.out 1).trans rfl
                                    have hfz42_0 := blk_frozen BK142.out 0
                                    have hfz42_1 := blk_frozen BK142.out 1
                                    go_wp2
                                    go_ret
                                    exact ⟨by first | rfl | (simp [errW_none, errW_some] <;> rfl) | (simp [*, errW_none, errW_some] <;> rfl), by repeat (first | (with_reducible first | exact HB.out | apply below_alloc | apply pw_below_drewN | apply below_drew1 | refine below_set ?_ GE142.out | refine below_set ?_ GE143.out) | exact HB.out)⟩
                                  · rw [if_neg c39] at H
                                    have c39b0 : (!(t139 == 2) || (!(t140 == x144001_29))) = false := by simpa using c39
                                    clear c39
                                    have H' := Aside0.mk H
                                    clear H
                                    have hnb43 := NB143_142.out
                                    have hnc43 := NB142_143.out
                                    have hcz44_0 : wc.cell? ⟨gb143, 0, none⟩ = some (.int .i64 5) := (blk_cell BK143.out 0).trans rfl
                                    have hcz44_1 : wc.cell? ⟨gb143, 1, none⟩ = some (.int .i64 x144001_29) := (blk_cell BK143.out 1).trans rfl
                                    have hfz44_0 := blk_frozen BK143.out 0
                                    have hfz44_1 := blk_frozen BK143.out 1
                                    have hcz45_0 : wc.cell? ⟨gb142, 0, none⟩ = some (.int .i64 t139) := (blk_cell BK142.out 0).trans rfl
                                    have hcz45_1 : wc.cell? ⟨gb142, 1, none⟩ = some (.int .i64 t140) := (blk_cell BK142.out 1).trans rfl
                                    have hfz45_0 := blk_frozen BK142.out 0
                                    have hfz45_1 := blk_frozen BK142.out 1
                                    go_wp2
                                    go_roundg kj29
                                    case measure => have := HK1.out; have := HJ6.out; have := HJ18.out; have := HJ23.out; have := HJ27.out; have := HJ29.out; omega
                                    case rel => exact ⟨(wrap64 (x6_1 + 1)), (by first | rfl | (simp; done) | (simp [*]; done)), H', ⟨by have := HK1.out; have := HJ6.out; have := HJ18.out; have := HJ23.out; have := HJ27.out; have := HJ29.out; omega⟩, ⟨by repeat (first | (with_reducible first | exact HB.out | apply below_alloc | apply pw_below_drewN | apply below_drew1 | refine below_set ?_ GE142.out | refine below_set ?_ GE143.out) | exact HB.out)⟩⟩
                                · replace c38 := Bool.eq_false_iff.mpr c38
                                  subst c38
                                  have H1 : (tapestrierlaw7_ValueNumbers.l0 kj29 a0 a1 t135 (wrap64 (x6_1 + 1))) = some r := by rw [if_neg (show ¬ (false = true) by decide)] at H; exact H
                                  clear H
                                  have H := H1
                                  clear H1
                                  have H' := Aside0.mk H
                                  clear H
                                  have hnb46 := NB143_142.out
                                  have hnc46 := NB142_143.out
                                  have hcz47_0 : wc.cell? ⟨gb143, 0, none⟩ = some (.int .i64 5) := (blk_cell BK143.out 0).trans rfl
                                  have hcz47_1 : wc.cell? ⟨gb143, 1, none⟩ = some (.int .i64 x144001_29) := (blk_cell BK143.out 1).trans rfl
                                  have hfz47_0 := blk_frozen BK143.out 0
                                  have hfz47_1 := blk_frozen BK143.out 1
                                  go_wp2
                                  go_roundg kj29
                                  case measure => have := HK1.out; have := HJ6.out; have := HJ18.out; have := HJ23.out; have := HJ27.out; have := HJ29.out; omega
                                  case rel => exact ⟨(wrap64 (x6_1 + 1)), (by first | rfl | (simp; done) | (simp [*]; done)), H', ⟨by have := HK1.out; have := HJ6.out; have := HJ18.out; have := HJ23.out; have := HJ27.out; have := HJ29.out; omega⟩, ⟨by repeat (first | (with_reducible first | exact HB.out | apply below_alloc | apply pw_below_drewN | apply below_drew1 | refine below_set ?_ GE142.out | refine below_set ?_ GE143.out) | exact HB.out)⟩⟩
                            · rw [if_neg c34] at H
                              have c34b0 : (x6_1 == 5) = false := beq_eq_false_iff_ne.mpr c34
                              have c34b1 : (x6_1 != 5) = true := bne_iff_ne.mpr c34
                              by_cases c48 : (t141 != x9_6) = true
                              · rw [if_pos c48] at H
                                have c48b0 : (t141 != x9_6) = true := c48
                                (try (have c48b1 : decide (t141 = x9_6) = false := by simpa using c48))
                                (try (have c48b2 : (t141 == x9_6) = false := by simpa using c48))
                                (try (have c48b3 : ¬ (t141 = x9_6) := by simpa using c48))
                                clear c48
                                obtain rfl := Option.some.inj H
                                go_wp2
                                go_ret
                                exact ⟨by first | rfl | (simp [errW_none, errW_some] <;> rfl) | (simp [*, errW_none, errW_some] <;> rfl), by repeat (first | (with_reducible first | exact HB.out | apply below_alloc | apply pw_below_drewN | apply below_drew1 | refine below_set ?_ GE142.out | refine below_set ?_ GE143.out) | exact HB.out)⟩
                              · rw [if_neg c48] at H
                                have c48b0 : (t141 != x9_6) = false := by simpa using c48
                                (try (have c48b1 : decide (t141 = x9_6) = true := by simpa using c48))
                                (try (have c48b2 : (t141 == x9_6) = true := by simpa using c48))
                                clear c48
                                by_cases c49 : t141 = true
                                · subst c49
                                  have H1 : (if (!(t139 == 5) || (!(t140 == x144001_29))) = true then (some false) else (tapestrierlaw7_ValueNumbers.l0 kj29 a0 a1 t135 (wrap64 (x6_1 + 1)))) = some r := by rw [if_pos rfl] at H; exact H
                                  clear H
                                  have H := H1
                                  clear H1
                                  by_cases c50 : (!(t139 == 5) || (!(t140 == x144001_29))) = true
                                  · rw [if_pos c50] at H
                                    have c50b0 : (!(t139 == 5) || (!(t140 == x144001_29))) = true := c50
                                    clear c50
                                    obtain rfl := Option.some.inj H
                                    have hnb51 := NB142_143.out
                                    have hnc51 := NB143_142.out
                                    have hcz52_0 : wc.cell? ⟨gb142, 0, none⟩ = some (.int .i64 t139) := (blk_cell BK142.out 0).trans rfl
                                    have hcz52_1 : wc.cell? ⟨gb142, 1, none⟩ = some (.int .i64 t140) := (blk_cell BK142.out 1).trans rfl
                                    have hfz52_0 := blk_frozen BK142.out 0
                                    have hfz52_1 := blk_frozen BK142.out 1
                                    have hcz53_0 : wc.cell? ⟨gb143, 0, none⟩ = some (.int .i64 5) := (blk_cell BK143.out 0).trans rfl
                                    have hcz53_1 : wc.cell? ⟨gb143, 1, none⟩ = some (.int .i64 x144001_29) := (blk_cell BK143.out 1).trans rfl
                                    have hfz53_0 := blk_frozen BK143.out 0
                                    have hfz53_1 := blk_frozen BK143.out 1
                                    go_wp2
                                    go_ret
                                    exact ⟨by first | rfl | (simp [errW_none, errW_some] <;> rfl) | (simp [*, errW_none, errW_some] <;> rfl), by repeat (first | (with_reducible first | exact HB.out | apply below_alloc | apply pw_below_drewN | apply below_drew1 | refine below_set ?_ GE142.out | refine below_set ?_ GE143.out) | exact HB.out)⟩
                                  · rw [if_neg c50] at H
                                    have c50b0 : (!(t139 == 5) || (!(t140 == x144001_29))) = false := by simpa using c50
                                    clear c50
                                    have H' := Aside0.mk H
                                    clear H
                                    have hnb54 := NB142_143.out
                                    have hnc54 := NB143_142.out
                                    have hcz55_0 : wc.cell? ⟨gb142, 0, none⟩ = some (.int .i64 t139) := (blk_cell BK142.out 0).trans rfl
                                    have hcz55_1 : wc.cell? ⟨gb142, 1, none⟩ = some (.int .i64 t140) := (blk_cell BK142.out 1).trans rfl
                                    have hfz55_0 := blk_frozen BK142.out 0
                                    have hfz55_1 := blk_frozen BK142.out 1
                                    have hcz56_0 : wc.cell? ⟨gb143, 0, none⟩ = some (.int .i64 5) := (blk_cell BK143.out 0).trans rfl
                                    have hcz56_1 : wc.cell? ⟨gb143, 1, none⟩ = some (.int .i64 x144001_29) := (blk_cell BK143.out 1).trans rfl
                                    have hfz56_0 := blk_frozen BK143.out 0
                                    have hfz56_1 := blk_frozen BK143.out 1
                                    go_wp2
                                    go_roundg kj29
                                    case measure => have := HK1.out; have := HJ6.out; have := HJ18.out; have := HJ23.out; have := HJ27.out; have := HJ29.out; omega
                                    case rel => exact ⟨(wrap64 (x6_1 + 1)), (by first | rfl | (simp; done) | (simp [*]; done)), H', ⟨by have := HK1.out; have := HJ6.out; have := HJ18.out; have := HJ23.out; have := HJ27.out; have := HJ29.out; omega⟩, ⟨by repeat (first | (with_reducible first | exact HB.out | apply below_alloc | apply pw_below_drewN | apply below_drew1 | refine below_set ?_ GE142.out | refine below_set ?_ GE143.out) | exact HB.out)⟩⟩
                                · replace c49 := Bool.eq_false_iff.mpr c49
                                  subst c49
                                  have H1 : (tapestrierlaw7_ValueNumbers.l0 kj29 a0 a1 t135 (wrap64 (x6_1 + 1))) = some r := by rw [if_neg (show ¬ (false = true) by decide)] at H; exact H
                                  clear H
                                  have H := H1
                                  clear H1
                                  have H' := Aside0.mk H
                                  clear H
                                  go_wp2
                                  go_roundg kj29
                                  case measure => have := HK1.out; have := HJ6.out; have := HJ18.out; have := HJ23.out; have := HJ27.out; have := HJ29.out; omega
                                  case rel => exact ⟨(wrap64 (x6_1 + 1)), (by first | rfl | (simp; done) | (simp [*]; done)), H', ⟨by have := HK1.out; have := HJ6.out; have := HJ18.out; have := HJ23.out; have := HJ27.out; have := HJ29.out; omega⟩, ⟨by repeat (first | (with_reducible first | exact HB.out | apply below_alloc | apply pw_below_drewN | apply below_drew1 | refine below_set ?_ GE142.out | refine below_set ?_ GE143.out) | exact HB.out)⟩⟩
      · rw [if_neg c5] at H
        have c5b0 : decide (x6_1 < 8) = false := decide_eq_false c5
        clear c5
        obtain rfl := Option.some.inj H
        go_wp2
        go_ret
        exact ⟨by first | rfl | (simp [errW_none, errW_some] <;> rfl) | (simp [*, errW_none, errW_some] <;> rfl), by repeat (first | (with_reducible first | exact HB.out | apply below_alloc | apply pw_below_drewN | apply below_drew1) | exact HB.out)⟩

/-- THE ONE PURE STATEMENT of tapestrierlaw7_ValueNumbers: yours. -/
def tapestrierlaw7_ValueNumbers.Pure : Prop := ∀ (a0 : Int) (a1 : Bool), (Lit.int .i64 a0).wf = true → ∃ k, tapestrierlaw7_ValueNumbers.f k a0 a1 = some true
theorem tapestrierlaw7_ValueNumbers.walk (P : tapestrierlaw7_ValueNumbers.Pure) (a0 : Int) (a1 : Bool) (w : World) (w0 : (Lit.int .i64 a0).wf = true) :
    Calls Tryd.prog 8 #[.int .i64 a0, .bool a1] w fun e w' => e = .returned (.bool true) ∧ Below w.heap.size w w' := by
  obtain ⟨k, h⟩ := P a0 a1 w0
  refine (tapestrierlaw7_ValueNumbers.calls k a0 a1 true w h).mono ?_
  rintro e w' ⟨rfl, hd⟩
  exact ⟨rfl, hd⟩

end Go.Proofs.YtghhamhihfmodaaDoor.PN
