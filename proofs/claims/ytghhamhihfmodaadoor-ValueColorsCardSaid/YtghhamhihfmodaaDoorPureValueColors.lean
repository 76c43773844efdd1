/- The plain law of ValueColors. -/
import Derived.Test.YtghhamhihfmodaaDoorPCx4
import Derived.Test.YtghhamhihfmodaaDoorPureC
import Derived.Laws.BitsLemmas
import Derived.IntWalk
namespace Go.Proofs.YtghhamhihfmodaaDoor.Pure
open Go.RowKit Go.Proofs.YtghhamhihfmodaaDoor.PC Go.Proofs.YtghhamhihfmodaaDoorW.PrintWords Go.Proofs.YtghhamhihfmodaaDoorW.PrintLast Go.Proofs.YtghhamhihfmodaaDoorW.PrintMore Go.Proofs.YtghhamhihfmodaaDoor.Giv Go.Proofs.YtghhamhihfmodaaDoor.Low Go.Proofs.YtghhamhihfmodaaDoor.PureC
theorem and15 (x : Int) (h0 : 0 ≤ x) (h1 : x < 16777216) : bits .and .i64 x 15 = x % 16 :=
  bits_mask .i64 24 (by decide) (fun n a b => by rw [IntKind.wrap_i64]; omega) 4 (by decide) x h0 h1
def D (up : Bool) : ByteArray := if up = true then ⟨#[48, 49, 50, 51, 52, 53, 54, 55, 56, 57, 65, 66, 67, 68, 69, 70]⟩ else ⟨#[48, 49, 50, 51, 52, 53, 54, 55, 56, 57, 97, 98, 99, 100, 101, 102]⟩
def hc (up : Bool) (r : Int) : UInt8 := UInt8.ofNat (if r < 10 then 48 + r.toNat else (if up = true then 55 else 87) + r.toNat)
theorem hc_all : ∀ r : Fin 16, ∀ up : Bool, (D up).extract r.val (r.val + 1) = str [hc up (r.val : Int)] ∧ hexV (hc up (r.val : Int)) = some (r.val : Int) := by decide +kernel
theorem hc_ext (r : Int) (up : Bool) (h : 0 ≤ r ∧ r < 16) : (D up).extract r.toNat (r + 1).toNat = str [hc up r] := by
  obtain ⟨n, rfl⟩ := Int.eq_ofNat_of_zero_le h.1
  exact (hc_all ⟨n, by omega⟩ up).1
theorem hc_hex (r : Int) (up : Bool) (h : 0 ≤ r ∧ r < 16) : hexV (hc up r) = some r := by
  obtain ⟨n, rfl⟩ := Int.eq_ofNat_of_zero_le h.1
  exact (hc_all ⟨n, by omega⟩ up).2
theorem wrap64_id (n : Int) (h : -9223372036854775808 ≤ n ∧ n ≤ 9223372036854775807) : wrap64 n = n := by unfold wrap64; omega
theorem D_size (up : Bool) : (D up).size = 16 := by cases up <;> rfl
theorem str_app (l m : List UInt8) : str l ++ str m = str (l ++ m) := by
  apply Go.WideShapes.bytes_inj
  simp [str]
theorem lstep (k : Nat) (n : Int) (sh up : Bool) (l : List UInt8) (want i j q v : Int) (hi : i ≥ 0) (hz : 0 ≤ IntKind.u64.wrap (wrap64 (4 * i))) (hs : shr .i64 n (IntKind.u64.wrap (wrap64 (4 * i))) = q)
    (hq : 0 ≤ q ∧ q < 16777216) (hj : wrap64 (i - 1) = j) (hl : l.length ≤ 10) (hw : 0 ≤ want ∧ want ≤ 16777216) (hsh : sh = true → i ≤ 2) (hv : v = if sh = true then want * 256 + 17 * (q % 16) else want * 16 + q % 16) :
    tapestrierlaw7_ValueColors.l0 (k + 1) n sh (D up) (str l) want i = tapestrierlaw7_ValueColors.l0 k n sh (D up) (str (l ++ [hc up (q % 16)])) v j := by
  have hr : 0 ≤ q % 16 ∧ q % 16 < 16 := ⟨Int.emod_nonneg _ (by decide), Int.emod_lt_of_pos _ (by decide)⟩
  have e1 : wrap64 (q % 16 + 1) = q % 16 + 1 := wrap64_id _ (by omega)
  conv => lhs; unfold tapestrierlaw7_ValueColors.l0
  rw [if_pos hi, if_pos hz, hs, and15 q hq.1 hq.2, e1, hc_ext _ up hr, str_app, hj]
  have hsz : (str l).size + (str [hc up (q % 16)]).size ≤ 9223372036854775807 := by
    show l.length + 1 ≤ _; omega
  cases sh
  · rw [if_neg (by decide), if_pos hr.1, if_pos (by omega), if_pos (by rw [D_size]; omega), if_pos hsz]
    rw [wrap64_id (want * 16) (by omega), wrap64_id _ (by omega), hv]; rfl
  · have h2 := hsh rfl
    rw [if_pos rfl, if_neg (by omega), if_pos hr.1, if_pos (by omega), if_pos (by rw [D_size]; omega), if_pos hsz]
    rw [wrap64_id (want * 256) (by omega), wrap64_id (17 * (q % 16)) (by omega), wrap64_id _ (by omega), hv]; rfl
theorem sstep (k : Nat) (n : Int) (up : Bool) (l : List UInt8) (want i j : Int) (hi : i > 2) (hz : 0 ≤ IntKind.u64.wrap (wrap64 (4 * i))) (hj : wrap64 (i - 1) = j) :
    tapestrierlaw7_ValueColors.l0 (k + 1) n true (D up) (str l) want i = tapestrierlaw7_ValueColors.l0 k n true (D up) (str l) want j := by
  conv => lhs; unfold tapestrierlaw7_ValueColors.l0
  rw [if_pos (by omega), if_pos hz, if_pos rfl, if_pos hi, hj]
theorem fin (k : Nat) (n : Int) (sh up : Bool) (a : UInt8) (l : List UInt8) (want : Int) (hc1 : colorV (a :: l) = (6, want, true)) (hc2 : (colorV ((a :: l) ++ [48])).2.2 = false) (hc3 : (colorV (103 :: l)).2.2 = false) (hl : l.length ≤ 10) :
    tapestrierlaw7_ValueColors.l0 (k + 5) n sh (D up) (str (a :: l)) want (-1) = some true := by
  have hP : ∀ m : List UInt8, m.length ≤ 20 → value_Parse.f (k + 4) 0 [(⟨3, str m, 0, false, 0⟩ : S25)] = some (colorV m) := by
    intro m hm
    rw [parse_one k 0 3 0 0 _ false (by show m.length ≤ _; omega)]
    rfl
  have he : (str (a :: l)).extract 1 (str (a :: l)).size = str l := by
    apply Go.WideShapes.bytes_inj
    simp [str, ByteArray.size]
  conv => lhs; unfold tapestrierlaw7_ValueColors.l0
  rw [if_neg (by decide), hP (a :: l) (by simp; omega), Option.bind_some, if_pos (by show (a :: l).length + 1 ≤ _; simp; omega)]
  rw [show (⟨#[48]⟩ : ByteArray) = str [48] from rfl, str_app, hP _ (by simp; omega), Option.bind_some, if_pos (by show (1 : Int) ≤ ((a :: l).length : Int); simp; omega), he, if_pos (by show 1 + l.length ≤ _; omega)]
  rw [show (⟨#[103]⟩ : ByteArray) = str [103] from rfl, str_app, List.singleton_append, hP _ (by simp; omega), Option.bind_some, hc1, hc2, hc3]
  simp
theorem col6 (a b c d e f : Int) (up : Bool) (ha : 0 ≤ a ∧ a < 16) (hb : 0 ≤ b ∧ b < 16) (hc_ : 0 ≤ c ∧ c < 16) (hd : 0 ≤ d ∧ d < 16) (he : 0 ≤ e ∧ e < 16) (hf : 0 ≤ f ∧ f < 16) :
    colorV [hc up a, hc up b, hc up c, hc up d, hc up e, hc up f] = (6, ((((((0 * 16 + a) * 16 + b) * 16 + c) * 16 + d) * 16 + e) * 16 + f), true) := by
  unfold colorV
  simp only [List.length_cons, List.length_nil, if_true, hexL, hc_hex _ up ha, hc_hex _ up hb, hc_hex _ up hc_, hc_hex _ up hd, hc_hex _ up he, hc_hex _ up hf]
theorem col3 (a b c : Int) (up : Bool) (ha : 0 ≤ a ∧ a < 16) (hb : 0 ≤ b ∧ b < 16) (hc_ : 0 ≤ c ∧ c < 16) :
    colorV [hc up a, hc up b, hc up c] = (6, ((((((0 * 16 + a) * 16 + a) * 16 + b) * 16 + b) * 16 + c) * 16 + c), true) := by
  unfold colorV
  simp only [List.length_cons, List.length_nil, if_true, hexL, hc_hex _ up ha, hc_hex _ up hb, hc_hex _ up hc_]
theorem shr_at (n i d : Int) (h : (i = 0 ∧ d = 1) ∨ (i = 1 ∧ d = 16) ∨ (i = 2 ∧ d = 256) ∨ (i = 3 ∧ d = 4096) ∨ (i = 4 ∧ d = 65536) ∨ (i = 5 ∧ d = 1048576)) : shr .i64 n (IntKind.u64.wrap (wrap64 (4 * i))) = n / d := by
  unfold shr
  have e : (2 : Int) ^ min (IntKind.u64.wrap (wrap64 (4 * i))).toNat IntKind.i64.bits = d := by
    rcases h with ⟨rfl, rfl⟩ | ⟨rfl, rfl⟩ | ⟨rfl, rfl⟩ | ⟨rfl, rfl⟩ | ⟨rfl, rfl⟩ | ⟨rfl, rfl⟩ <;> decide +kernel
  rw [e]
theorem wz (i : Int) (_ : 0 ≤ i ∧ i ≤ 5) : 0 ≤ IntKind.u64.wrap (wrap64 (4 * i)) := by rw [IntKind.wrap_u64]; exact Int.emod_nonneg _ (by decide)
theorem wj (i j : Int) (h : 0 ≤ i ∧ i ≤ 5) (hj : j = i - 1) : wrap64 (i - 1) = j := by rw [hj]; exact wrap64_id _ (by omega)
theorem j0_t (k : Nat) (n : Int) (sh up : Bool) : tapestrierlaw7_ValueColors.j0 (k + 1) n sh up true true = some true := by unfold tapestrierlaw7_ValueColors.j0; rfl
theorem j0_f (k : Nat) (n : Int) (sh up : Bool) : tapestrierlaw7_ValueColors.j0 (k + 2) n sh up true false = tapestrierlaw7_ValueColors.l0 k n sh (D up) (str []) 0 5 := by
  have e1 : ∀ x8, tapestrierlaw7_ValueColors.j1 (k + 1) n sh x8 = tapestrierlaw7_ValueColors.l0 k n sh x8 (⟨#[]⟩ : ByteArray) 0 5 := by
    intro x8; unfold tapestrierlaw7_ValueColors.j1; rfl
  cases up
  · refine Eq.trans ?_ (e1 (D false))
    unfold tapestrierlaw7_ValueColors.j0; rfl
  · refine Eq.trans ?_ (e1 (D true))
    unfold tapestrierlaw7_ValueColors.j0; rfl
theorem long (a b c d e f g : UInt8) : (colorV [a, b, c, d, e, f, g]).2.2 = false := rfl
theorem four (a b c d : UInt8) : (colorV [a, b, c, d]).2.2 = false := rfl
theorem g103 : hexV 103 = none := by decide +kernel
theorem bad6 (b c d e f : UInt8) : (colorV [103, b, c, d, e, f]).2.2 = false := by
  unfold colorV
  simp only [List.length_cons, List.length_nil, if_true, hexL, g103]
theorem bad3 (b c : UInt8) : (colorV [103, b, c]).2.2 = false := by
  unfold colorV
  simp only [List.length_cons, List.length_nil, if_true, hexL, g103]
theorem all6 (n : Int) (up : Bool) (h0 : 0 ≤ n) (h1 : n ≤ 16777215) : tapestrierlaw7_ValueColors.l0 18 n false (D up) (str []) 0 5 = some true := by
  have M : ∀ q : Int, 0 ≤ q % 16 ∧ q % 16 < 16 := fun q => ⟨Int.emod_nonneg _ (by decide), Int.emod_lt_of_pos _ (by decide)⟩
  have m0 := M (n / 1); have m1 := M (n / 16); have m2 := M (n / 256); have m3 := M (n / 4096); have m4 := M (n / 65536); have m5 := M (n / 1048576)
  obtain ⟨a, ha⟩ : ∃ a, a = n / 1048576 % 16 := ⟨_, rfl⟩
  obtain ⟨b, hb⟩ : ∃ b, b = n / 65536 % 16 := ⟨_, rfl⟩
  obtain ⟨c, hc_⟩ : ∃ c, c = n / 4096 % 16 := ⟨_, rfl⟩
  obtain ⟨d, hd⟩ : ∃ d, d = n / 256 % 16 := ⟨_, rfl⟩
  obtain ⟨e, he⟩ : ∃ e, e = n / 16 % 16 := ⟨_, rfl⟩
  obtain ⟨f, hf⟩ : ∃ f, f = n / 1 % 16 := ⟨_, rfl⟩
  rw [← ha] at m5; rw [← hb] at m4; rw [← hc_] at m3; rw [← hd] at m2; rw [← he] at m1; rw [← hf] at m0
  rw [lstep 17 n false up [] 0 5 4 (n / 1048576) (0 * 16 + a) (by decide) (wz _ (by decide)) (shr_at n 5 _ (by decide)) (by omega) (wj _ _ (by decide) rfl) (by simp) (by omega) (by simp) (by rw [ha]; rfl), ← ha]
  rw [lstep 16 n false up _ _ 4 3 (n / 65536) ((0 * 16 + a) * 16 + b) (by decide) (wz _ (by decide)) (shr_at n 4 _ (by decide)) (by omega) (wj _ _ (by decide) rfl) (by simp) (by omega) (by simp) (by rw [hb]; rfl), ← hb]
  rw [lstep 15 n false up _ _ 3 2 (n / 4096) (((0 * 16 + a) * 16 + b) * 16 + c) (by decide) (wz _ (by decide)) (shr_at n 3 _ (by decide)) (by omega) (wj _ _ (by decide) rfl) (by simp) (by omega) (by simp) (by rw [hc_]; rfl), ← hc_]
  rw [lstep 14 n false up _ _ 2 1 (n / 256) ((((0 * 16 + a) * 16 + b) * 16 + c) * 16 + d) (by decide) (wz _ (by decide)) (shr_at n 2 _ (by decide)) (by omega) (wj _ _ (by decide) rfl) (by simp) (by omega) (by simp) (by rw [hd]; rfl), ← hd]
  rw [lstep 13 n false up _ _ 1 0 (n / 16) (((((0 * 16 + a) * 16 + b) * 16 + c) * 16 + d) * 16 + e) (by decide) (wz _ (by decide)) (shr_at n 1 _ (by decide)) (by omega) (wj _ _ (by decide) rfl) (by simp) (by omega) (by simp) (by rw [he]; rfl), ← he]
  rw [lstep 12 n false up _ _ 0 (-1) (n / 1) ((((((0 * 16 + a) * 16 + b) * 16 + c) * 16 + d) * 16 + e) * 16 + f) (by decide) (wz _ (by decide)) (shr_at n 0 _ (by decide)) (by omega) (wj _ _ (by decide) rfl) (by simp) (by omega) (by simp) (by rw [hf]; rfl), ← hf]
  simp only [List.nil_append, List.cons_append]
  exact fin 7 n false up _ _ _ (col6 a b c d e f up m5 m4 m3 m2 m1 m0) (long _ _ _ _ _ _ _) (bad6 _ _ _ _ _) (by simp)
theorem all3 (n : Int) (up : Bool) (h0 : 0 ≤ n) (h1 : n ≤ 16777215) : tapestrierlaw7_ValueColors.l0 18 n true (D up) (str []) 0 5 = some true := by
  have M : ∀ q : Int, 0 ≤ q % 16 ∧ q % 16 < 16 := fun q => ⟨Int.emod_nonneg _ (by decide), Int.emod_lt_of_pos _ (by decide)⟩
  have m0 := M (n / 1); have m1 := M (n / 16); have m2 := M (n / 256)
  obtain ⟨d, hd⟩ : ∃ d, d = n / 256 % 16 := ⟨_, rfl⟩
  obtain ⟨e, he⟩ : ∃ e, e = n / 16 % 16 := ⟨_, rfl⟩
  obtain ⟨f, hf⟩ : ∃ f, f = n / 1 % 16 := ⟨_, rfl⟩
  rw [← hd] at m2; rw [← he] at m1; rw [← hf] at m0
  rw [sstep 17 n up [] 0 5 4 (by decide) (wz _ (by decide)) (wj _ _ (by decide) rfl), sstep 16 n up [] 0 4 3 (by decide) (wz _ (by decide)) (wj _ _ (by decide) rfl), sstep 15 n up [] 0 3 2 (by decide) (wz _ (by decide)) (wj _ _ (by decide) rfl)]
  rw [lstep 14 n true up _ _ 2 1 (n / 256) (0 * 256 + 17 * d) (by decide) (wz _ (by decide)) (shr_at n 2 _ (by decide)) (by omega) (wj _ _ (by decide) rfl) (by simp) (by omega) (by simp) (by rw [hd]; rfl), ← hd]
  rw [lstep 13 n true up _ _ 1 0 (n / 16) ((0 * 256 + 17 * d) * 256 + 17 * e) (by decide) (wz _ (by decide)) (shr_at n 1 _ (by decide)) (by omega) (wj _ _ (by decide) rfl) (by simp) (by omega) (by simp) (by rw [he]; rfl), ← he]
  rw [lstep 12 n true up _ _ 0 (-1) (n / 1) (((0 * 256 + 17 * d) * 256 + 17 * e) * 256 + 17 * f) (by decide) (wz _ (by decide)) (shr_at n 0 _ (by decide)) (by omega) (wj _ _ (by decide) rfl) (by simp) (by omega) (by simp) (by rw [hf]; rfl), ← hf]
  simp only [List.nil_append, List.cons_append]
  have ec := col3 d e f up m2 m1 m0
  rw [show ((((((0 * 16 + d) * 16 + d) * 16 + e) * 16 + e) * 16 + f) * 16 + f) = (((0 * 256 + 17 * d) * 256 + 17 * e) * 256 + 17 * f) by omega] at ec
  exact fin 7 n true up _ _ _ ec (four _ _ _ _) (bad3 _ _) (by simp)
theorem ValueColors : tapestrierlaw7_ValueColors.Pure := by
  intro n sh up _
  refine ⟨20, ?_⟩
  unfold tapestrierlaw7_ValueColors.f
  rw [alive_f 16, Option.bind_some, if_pos rfl]
  by_cases h0 : n < 0
  · rw [if_pos h0]; exact j0_t 19 n sh up
  rw [if_neg h0]
  by_cases h1 : n > 16777215
  · rw [decide_eq_true h1]; exact j0_t 19 n sh up
  rw [decide_eq_false h1, j0_f 18]
  cases sh
  · exact all6 n up (by omega) (by omega)
  · exact all3 n up (by omega) (by omega)
end Go.Proofs.YtghhamhihfmodaaDoor.Pure
namespace Go.Proofs.YtghhamhihfmodaaDoor
open Go.RowKit in
theorem walkValueColors (a0 : Int) (a1 a2 : Bool) (W : World) (w0 : (Lit.int .i64 a0).wf = true) (_ : True) :
    Calls Tryd.prog 4 #[.int .i64 a0, .bool a1, .bool a2] W fun e W' => e = .returned (.bool true) ∧ Below W.heap.size W W' :=
  PC.tapestrierlaw7_ValueColors.walk Pure.ValueColors a0 a1 a2 W w0
theorem anyFact {α : Prop} : α → True := fun _ => trivial
end Go.Proofs.YtghhamhihfmodaaDoor
