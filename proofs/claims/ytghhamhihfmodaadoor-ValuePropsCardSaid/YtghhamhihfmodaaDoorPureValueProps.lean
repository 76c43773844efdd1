/- The plain law of ValueProps. -/
import Derived.Test.YtghhamhihfmodaaDoorPQx4
import Derived.Test.YtghhamhihfmodaaDoorPureQ
namespace Go.Proofs.YtghhamhihfmodaaDoor.Pure
open Go.RowKit Go.Proofs.YtghhamhihfmodaaDoor.PQ Go.Proofs.YtghhamhihfmodaaDoorW.PrintWords Go.Proofs.YtghhamhihfmodaaDoorW.PrintLast Go.Proofs.YtghhamhihfmodaaDoorW.PrintMore Go.Proofs.YtghhamhihfmodaaDoor.Giv Go.Proofs.YtghhamhihfmodaaDoor.Low Go.Proofs.YtghhamhihfmodaaDoor.PureQ
theorem rname (p : Int) : tapestrierref1_Name.f p = value_Name.f p := by
  unfold tapestrierref1_Name.f value_Name.f
  rw [Option.bind_some]
  by_cases h0 : p < 0
  · rw [if_pos h0, if_neg (by omega)]; rfl
  · rw [if_neg h0]
    by_cases h8 : p ≥ 8
    · rw [if_pos (by exact h8), if_neg (by omega)]; rfl
    · have hp : p = 0 ∨ p = 1 ∨ p = 2 ∨ p = 3 ∨ p = 4 ∨ p = 5 ∨ p = 6 ∨ p = 7 := by omega
      rcases hp with rfl | rfl | rfl | rfl | rfl | rfl | rfl | rfl <;> rfl
theorem rstep (k : Nat) (s n : ByteArray) (i j : Int) (hi : i < 8) (hn : value_Name.f i = some n) (hw : wrap64 (i + 1) = j) :
    tapestrierref1_Prop.l0 (k + 1) s i = if s = n then some (i, true) else tapestrierref1_Prop.l0 k s j := by
  conv => lhs; unfold tapestrierref1_Prop.l0
  rw [if_pos hi, rname, hn, Option.bind_some, hw]
  by_cases h : s = n
  · rw [if_pos h, if_pos (by rw [h])]
  · rw [if_neg h, if_neg (by rw [ByteArray.toList_eq, ByteArray.toList_eq]; intro e; exact h (Go.WideShapes.bytes_inj e.symm))]
theorem rprop (k : Nat) (s : ByteArray) : tapestrierref1_Prop.f (k + 9) s = value_Prop.f s := by
  unfold tapestrierref1_Prop.f value_Prop.f
  rw [← propOf_eq]
  rw [rstep (k + 8) s Nam.n0 0 1 (by decide) rfl (by decide +kernel), rstep (k + 7) s Nam.n1 1 2 (by decide) rfl (by decide +kernel), rstep (k + 6) s Nam.n2 2 3 (by decide) rfl (by decide +kernel), rstep (k + 5) s Nam.n3 3 4 (by decide) rfl (by decide +kernel),
    rstep (k + 4) s Nam.n4 4 5 (by decide) rfl (by decide +kernel), rstep (k + 3) s Nam.n5 5 6 (by decide) rfl (by decide +kernel), rstep (k + 2) s Nam.n6 6 7 (by decide) rfl (by decide +kernel), rstep (k + 1) s Nam.n7 7 8 (by decide) rfl (by decide +kernel)]
  have e : tapestrierref1_Prop.l0 (k + 1) s 8 = some (0, false) := by unfold tapestrierref1_Prop.l0; rw [if_neg (by decide)]
  rw [e]
  unfold Nam.propOf
  simp only [apply_ite (some : Int × Bool → Option (Int × Bool))]
theorem inh (p : Int) : tapestrierref1_Inherits.f p = value_Inherits.f p := by
  unfold tapestrierref1_Inherits.f value_Inherits.f
  have e : decide (p < 3) = decide (p ≤ 2) := decide_eq_decide.2 (by omega)
  rw [e]
theorem ini (p : Int) : tapestrierref1_Initial.f p = value_Initial.f p := rfl
theorem inh_some (p : Int) : ∃ b, value_Inherits.f p = some b := by
  unfold value_Inherits.f
  split <;> exact ⟨_, rfl⟩
theorem ini_some (p : Int) : ∃ b, value_Initial.f p = some b := by
  unfold value_Initial.f
  repeat' split
  all_goals exact ⟨_, rfl⟩
theorem back (p : Int) (h : 0 ≤ p ∧ p < 8) : propV (str (nameV.getD p.toNat [])).data.toList = (p, true) := by
  have hp : p = 0 ∨ p = 1 ∨ p = 2 ∨ p = 3 ∨ p = 4 ∨ p = 5 ∨ p = 6 ∨ p = 7 := by omega
  rcases hp with rfl | rfl | rfl | rfl | rfl | rfl | rfl | rfl <;> decide +kernel
theorem back_none : propV (str []).data.toList = (0, false) := by decide +kernel
theorem ValueProps : tapestrierlaw7_ValueProps.Pure := by
  intro p s _ _
  refine ⟨13, ?_⟩
  unfold tapestrierlaw7_ValueProps.f
  obtain ⟨b, hb⟩ := inh_some p
  obtain ⟨c, hc⟩ := ini_some p
  rw [alive_f 9, Option.bind_some, rprop 4, rname, inh, ini, hb, hc]
  unfold value_Prop.f value_Name.f
  simp only [Option.bind_some, if_true, beq_self_eq_true]
  by_cases h : 0 ≤ p ∧ p < 8
  · rw [if_pos h, back p h, if_pos (show p ≥ 0 from h.1), decide_eq_true h.2]
    simp
  · rw [if_neg h, back_none]
    by_cases h0 : p ≥ 0
    · rw [if_pos h0, decide_eq_false (by omega)]; rfl
    · rw [if_neg h0]; rfl
end Go.Proofs.YtghhamhihfmodaaDoor.Pure
namespace Go.Proofs.YtghhamhihfmodaaDoor
open Go.RowKit in
theorem walkValueProps (a0 : Int) (a1 : ByteArray) (W : World) (w0 : (Lit.int .i64 a0).wf = true) (w1 : a1.size ≤ 140737488351232) (_ : True) :
    Calls Tryd.prog 11 #[.int .i64 a0, .string a1] W fun e W' => e = .returned (.bool true) ∧ Below W.heap.size W W' :=
  PQ.tapestrierlaw7_ValueProps.walk Pure.ValueProps a0 a1 W w0 w1
theorem anyFact {α : Prop} : α → True := fun _ => trivial
end Go.Proofs.YtghhamhihfmodaaDoor
