/- The walk of NumLong: a number of eight to two hundred equal digits is cut, where strconv's table of powers stands as the rows list it. -/
import Derived.Test.YtnddjcpnaeekcaaDoorNumW
import Derived.Laws.OwnMore
import Derived.Laws.BytesString
import Derived.Laws.Cells
import Derived.OwnWalk
import Derived.OpenShut
namespace Go.Proofs.YtnddjcpnaeekcaaDoor.NumA
open Go.RowKit
theorem wpList_make_whole {P : Program} (w : World) {ops : Array Oper} {rest : List Oper} {o : Oper} {a : Act} {Q : Exit → Act → World → Prop}
    (hg : o.guard = none) (l c : Operand) (t : TypeId) (hop : o.op = Op.makeSlice t l c)
    (base : Nat) (e : TypeId) (i : TypeInfo) (z : Value) (size : Nat) (h1 : P.underlying t = some (.slice e)) (h2 : P.info? e = some i) (h3 : i.zero = some z) (h4 : i.size = size)
    (kl kc : IntKind) (C : Int) (n : Nat) (hl : a.eval l = .int kl C) (hc : a.eval c = .int kc C) (hC : C = (n : Int)) (b1 : n * size ≤ 16777216) (b2 : i.bytes * n ≤ 281474976710656) (b3 : n ≤ maxLen) (b4 : base ≤ w.heap.size)
    (hK : ∀ w', w'.ownsRow base e size (.slice (some ⟨w.heap.size, 0, none⟩) n n) n (madeCells z.cells (n * size)).toList → w.grownBy w' none → wpList P ops Q rest (a.put o.dst (.slice (some ⟨w.heap.size, 0, none⟩) n n)) w') :
    wpList P ops Q (o :: rest) a w := by
  refine wpList_plain hg fun K hK' => ?_
  obtain ⟨w', hrun, r1, r2⟩ := run_makeSlice_full (P := P) w base t e i z size h1 h2 h3 h4 kl kc n b1 b2 b3 b4
  subst hC
  unfold Oper.wp
  simp [execOp, hop, hl, hc, hrun, Result.andThen]
  exact hK' _ _ (hK w' r1 r2)
theorem info5 : (Tryd.prog.info? 5).map (fun i => (i.zero, i.size, i.bytes)) = some (some (.int .u8 0), 1, 1) := by kernel_rfl
theorem push_list (c : UInt8) : ∀ (n : Nat) (s : ByteArray), ((List.replicate n (c.toNat : Int)).foldl (fun r n => r.push (UInt8.ofNat n.toNat)) s).data.toList = s.data.toList ++ List.replicate n c
  | 0, s => by simp
  | n + 1, s => by
    rw [List.replicate_succ, List.foldl_cons, push_list c n]
    simp [ByteArray.push, List.replicate_succ]
theorem conv_row {w : World} {B n : Nat} {xs : List Value} {base : Nat} (h : w.ownsRow base 5 1 (.slice (some ⟨B, 0, none⟩) n n) n xs) (c : UInt8) (hx : xs = List.replicate n (Value.int .u8 c.toNat)) :
    (convert 30 9 (.slice (some ⟨B, 0, none⟩) n n)).run Tryd.prog w = .ok (.string (str (List.replicate n c))) w := by
  rw [run_convert_bytes_string w 30 9 5 _ _ _ Tryd.underlying30 Tryd.underlying5 Tryd.underlying9]
  have hl := run_loadCells_list (P := Tryd.prog) (w := w) ⟨B, 0, none⟩ xs (by
    intro j v hj
    have hjn : j < n * 1 := by
      have := (List.getElem?_eq_some_iff.1 hj).1
      rw [h.1] at this; exact this
    have := h.cellAt j hjn
    rw [hj] at this
    have e : Addr.add ⟨B, 0, none⟩ j = ⟨B, j, none⟩ := by cases j <;> simp [Addr.add]
    rw [e]; exact this)
  have hlen : xs.length = n := by rw [h.1]; omega
  rw [hlen] at hl
  rw [run_bytesToString w _ n n (List.replicate n (c.toNat : Int)) (by rw [List.map_replicate, ← hx]; exact hl)]
  congr 2
  apply Go.WideShapes.bytes_inj
  rw [push_list]; simp [str]
theorem fold_rep (c : UInt8) (h1 : 49 ≤ (c.toNat : Int)) (h2 : (c.toNat : Int) ≤ 57) : ∀ n, 8 ≤ n → 11111111 ≤ foldF (List.replicate n c) := by
  have step : ∀ n x, x ≤ foldF (List.replicate n c) → 0 ≤ x → x ≤ 11111111 → min (x * 10 + 1) 1099511627776 ≤ foldF (List.replicate (n + 1) c) := by
    intro n x hx h0 h3
    rw [List.replicate_succ', foldF_snoc]
    unfold stepF dv
    split <;> omega
  have mono : ∀ n, 0 ≤ foldF (List.replicate n c) := by
    intro n
    exact (foldlF_bd _ (by rw [List.all_eq_true]; intro x hx; rw [List.eq_of_mem_replicate hx]; simp [dg, UInt8.le_iff_toNat_le]; omega) 0 (by omega) (by omega)).1
  intro n hn
  obtain ⟨m, rfl⟩ : ∃ m, n = m + 8 := ⟨n - 8, by omega⟩
  have h1 : min (0 * 10 + 1) 1099511627776 ≤ foldF (List.replicate (m + 1) c) := step m 0 (mono m) (by omega) (by omega)
  have h2 : min (1 * 10 + 1) 1099511627776 ≤ foldF (List.replicate (m + 2) c) := step (m + 1) 1 (by omega) (by omega) (by omega)
  have h3 : min (11 * 10 + 1) 1099511627776 ≤ foldF (List.replicate (m + 3) c) := step (m + 2) 11 (by omega) (by omega) (by omega)
  have h4 : min (111 * 10 + 1) 1099511627776 ≤ foldF (List.replicate (m + 4) c) := step (m + 3) 111 (by omega) (by omega) (by omega)
  have h5 : min (1111 * 10 + 1) 1099511627776 ≤ foldF (List.replicate (m + 5) c) := step (m + 4) 1111 (by omega) (by omega) (by omega)
  have h6 : min (11111 * 10 + 1) 1099511627776 ≤ foldF (List.replicate (m + 6) c) := step (m + 5) 11111 (by omega) (by omega) (by omega)
  have h7 : min (111111 * 10 + 1) 1099511627776 ≤ foldF (List.replicate (m + 7) c) := step (m + 6) 111111 (by omega) (by omega) (by omega)
  have h8 : min (1111111 * 10 + 1) 1099511627776 ≤ foldF (List.replicate (m + 8) c) := step (m + 7) 1111111 (by omega) (by omega) (by omega)
  omega
theorem long_num (neg : Bool) (c : UInt8) (h1 : 49 ≤ (c.toNat : Int)) (h2 : (c.toNat : Int) ≤ 57) (n : Nat) (hn : 8 ≤ n) :
    numBody neg (List.replicate n c) = (if neg then -2147483647 else 2147483647, true) := by
  have hall : (List.replicate n c).all dg = true := by rw [List.all_eq_true]; intro x hx; rw [List.eq_of_mem_replicate hx]; simp [dg, UInt8.le_iff_toNat_le]; omega
  have hf := fold_rep c h1 h2 n hn
  rw [body_plain _ _ hall (by cases n with | zero => omega | succ n => rfl)]
  unfold sgn capI
  cases neg
  · simp only [Bool.false_eq_true, if_false]; rw [if_pos (by omega)]
  · simp only [if_true]; rw [if_neg (by omega), if_pos (by omega)]
theorem long_numL (c : UInt8) (h1 : 49 ≤ (c.toNat : Int)) (h2 : (c.toNat : Int) ≤ 57) (n : Nat) (hn : 8 ≤ n) : numL (List.replicate n c) = (2147483647, true) := by
  have h := long_num false c h1 h2 n hn
  obtain ⟨m, rfl⟩ : ∃ m, n = m + 1 := ⟨n - 1, by omega⟩
  rw [List.replicate_succ] at h ⊢
  simp only [numL]
  rw [if_neg (by rintro rfl; exact absurd h1 (by decide)), if_neg (by rintro rfl; exact absurd h1 (by decide)), h]
  rfl
set_option maxHeartbeats 1000000 in
theorem long6 (n d : Int) (below : Bool) (w : World) (hd : 0 ≤ d ∧ d ≤ 255) (ht : tabOk w) : Calls Tryd.prog 6 #[.int .i64 n, .int .u8 d, .bool below] w fun e w' => e = .returned (.bool true) ∧ Below w.heap.size w w' := by
  by_cases hg : 8 ≤ n ∧ n ≤ 200 ∧ 1 ≤ d ∧ d ≤ 9
  · obtain ⟨hn0, hn1, hd0, hd1⟩ := hg
    obtain ⟨k, rfl⟩ := Int.eq_ofNat_of_zero_le (a := n) (by omega)
    obtain ⟨i0, hi, hz0, hz1, hz2⟩ := info_parts info5
    go_enter Tryd.func6, Tryd.ntmps6
    go_wp2_with (first | (go_at_call 11; refine (alive11 _ ht).mono ?_; rintro e w1 ⟨rfl, hb0⟩) | (at_make; refine wpList_make_whole _ rfl _ _ 30 rfl w.heap.size 5 i0 (.int .u8 0) 1 Tryd.underlying30 hi hz0 hz1 .i64 .i64 _ k rfl rfl rfl (by omega) (by rw [hz2]; omega) (by unfold maxLen; omega) hb0.size ?_; intro w2 hown hgrow))
    have hbw : Below w.heap.size w w2 := bstep hb0 ((Below.refl w1.heap.size w1).grown hgrow (Nat.le_refl _) (fun k e => by cases e))
    obtain ⟨B, hB⟩ : ∃ B, w1.heap.size = B := ⟨_, rfl⟩
    rw [hB] at hown ⊢
    have hBle : w.heap.size ≤ B := by rw [← hB]; exact hb0.size
    clear hB hgrow hb0 hi hz0 hz1 hz2
    go_loopw [9] (fun v9 wr => ∃ (i : Nat) (xs : List Value), v9 = .int .i64 i ∧ i ≤ k ∧ wr.ownsRow w.heap.size 5 1 (.slice (some ⟨B, 0, none⟩) k k) k xs ∧ (∀ j, j < i → xs[j]? = some (.int .u8 (48 + d))) ∧ Below w.heap.size w wr) (fun v9 _ => k - (intOf v9).toNat)
    case atStart => exact ⟨0, _, rfl, Nat.zero_le _, hown, fun j hj => absurd hj (Nat.not_lt_zero _), hbw⟩
    case round =>
      obtain ⟨i, xs, rfl, hik, hrow, hxs, hbr⟩ := hrel
      have Hxs := Lib.hid hxs
      clear hxs hown hbw
      by_cases hlt : i < k
      · have hl : xs.length = k * 1 := hrow.1
        have hcell := hrow.cellAt i (by omega)
        obtain ⟨v, hv⟩ : ∃ v, xs[i]? = some v := ⟨_, List.getElem?_eq_getElem (by omega)⟩
        rw [hv] at hcell
        clear hv
        have hfr := hrow.frozenAt i
        have hst := hrow.stored i (.int .u8 (48 + d))
        have Hl := Lib.hid hl
        clear hl
        go_wp2
        go_roundw
        case rel =>
          refine ⟨i + 1, _, by go_num, by omega, hst.1, ?_, hbr.setCell (p := ⟨B, i, none⟩) hBle _⟩
          intro j hj
          rw [List.getElem?_set]
          split
          · rename_i h; subst h; rw [if_pos (by have := Hl.out; omega)]
          · exact Hxs.out j (by omega)
        case measure => simp [intOf]; omega
      · obtain rfl : i = k := by omega
        obtain ⟨c, hc⟩ : ∃ c : UInt8, (c.toNat : Int) = 48 + d := ⟨UInt8.ofNat (48 + d.toNat), by simp [UInt8.toNat_ofNat]; omega⟩
        have hxe : xs = List.replicate i (Value.int .u8 c.toNat) := by
          rw [hc]
          apply List.ext_getElem?
          intro j
          by_cases hj : j < i
          · rw [Hxs.out j hj, List.getElem?_replicate, if_pos hj]
          · have := hrow.1
            rw [List.getElem?_eq_none (by omega), List.getElem?_eq_none (by simp; omega)]
        have hcv := conv_row hrow c hxe
        have hsz : (str (List.replicate i c)).size = i := by rw [str_size]; simp
        have O1 := fun W => of12_as (str (List.replicate i c)) 2147483647 true (long_numL c (by omega) (by omega) i (by omega)) (by rw [hsz]; omega) W
        have O2 := fun W => of12_as ((⟨#[45]⟩ : ByteArray) ++ str (List.replicate i c)) (-2147483647) true (by rw [one_list]; exact long_num true c (by omega) (by omega) i (by omega)) (by rw [one_size, hsz]; omega) W
        generalize str (List.replicate i c) = s at *
        clear hc hxe
        cases below with
        | true =>
          go_wp2_with (go_at_call 12; refine (O2 _).mono ?_; rintro e w' ⟨rfl, hb2⟩)
          go_ret
          exact ⟨rfl, bstep hbr hb2⟩
        | false =>
          go_wp2_with (go_at_call 12; refine (O1 _).mono ?_; rintro e w' ⟨rfl, hb2⟩)
          go_ret
          exact ⟨rfl, bstep hbr hb2⟩
  · by_cases h1 : n < 8
    · clear hg
      go_enter Tryd.func6, Tryd.ntmps6
      go_wp2_with (go_at_call 11; refine (alive11 _ ht).mono ?_; rintro e w' ⟨rfl, hb0⟩)
      go_ret
      exact ⟨rfl, hb0⟩
    · by_cases h2 : 200 < n
      · clear hg
        go_enter Tryd.func6, Tryd.ntmps6
        go_wp2_with (go_at_call 11; refine (alive11 _ ht).mono ?_; rintro e w' ⟨rfl, hb0⟩)
        go_ret
        exact ⟨rfl, hb0⟩
      · by_cases h3 : d < 1
        · clear hg
          go_enter Tryd.func6, Tryd.ntmps6
          go_wp2_with (go_at_call 11; refine (alive11 _ ht).mono ?_; rintro e w' ⟨rfl, hb0⟩)
          go_ret
          exact ⟨rfl, hb0⟩
        · have h4 : 9 < d := by omega
          clear hg
          go_enter Tryd.func6, Tryd.ntmps6
          go_wp2_with (go_at_call 11; refine (alive11 _ ht).mono ?_; rintro e w' ⟨rfl, hb0⟩)
          go_ret
          exact ⟨rfl, hb0⟩
theorem long6' (n d : Int) (below : Bool) (w : World) (_ : (Lit.int .i64 n).wf = true) (wd : (Lit.int .u8 d).wf = true) (ht : tabOk w) : Calls Tryd.prog 6 #[.int .i64 n, .int .u8 d, .bool below] w fun e w' => e = .returned (.bool true) ∧ Below w.heap.size w w' :=
  long6 n d below w (bounds_u8 wd) ht
end Go.Proofs.YtnddjcpnaeekcaaDoor.NumA
