/- tok.Text: the texts of tokens, one behind the other. -/
import Derived.Test.YtpkgnaajcibgnaaDoorXyU
import Derived.Test.YtpkgnaajcibgnaaDoorXlG
import Derived.Deep.LoopGhost
namespace Go.Proofs.YtpkgnaajcibgnaaDoor.Aw
open Go Go.RowKit Go.Lib
set_option linter.unusedVariables false
set_option linter.unusedSimpArgs false
set_option maxRecDepth 100000
def textOf (t : List Tok) : List UInt8 := (t.map oneB).flatten
theorem textOf_snoc (t : List Tok) (i : Nat) (k : Tok) (h : t[i]? = some k) : textOf (t.take (i + 1)) = textOf (t.take i) ++ oneB k := by
  have hi := (List.getElem?_eq_some_iff.1 h).1
  have e := (List.getElem?_eq_some_iff.1 h).2
  unfold textOf
  rw [List.take_succ_eq_append_getElem hi, e]
  simp
theorem bytesOf_len (c : Int) : (bytesOf [c]).length ≤ 4 := by
  have := putB_le c
  simpa [bytesOf] using this
theorem oneB_len (k : Tok) (m : Nat) (h : k.text.length ≤ m) : (oneB k).length ≤ m + 60 := by
  have h1 := num_len k.n
  have h2 := bytesOf_len k.c
  have h3 : ((P10.take (idxOf K10 k.kind + 1).toNat).drop (idxOf K10 k.kind).toNat).length ≤ 10 := by
    rw [List.length_drop, List.length_take]
    have : P10.length = 10 := rfl
    omega
  unfold oneB
  (repeat' split) <;> simp <;> omega
theorem textOf_len (m : Nat) : ∀ (t : List Tok), (∀ k ∈ t, k.text.length ≤ m) → (textOf t).length ≤ t.length * (m + 60)
  | [], _ => by simp [textOf]
  | k :: t, h => by
    have h1 := oneB_len k m (h k (by simp))
    have h2 := textOf_len m t (fun x hx => h x (by simp [hx]))
    have : textOf (k :: t) = oneB k ++ textOf t := by simp [textOf]
    rw [this, List.length_append, List.length_cons, Nat.add_mul]
    omega
theorem tab_lt {w : World} (ht : tabP w) : ∀ b, tabB b → b < w.heap.size := by
  intro b hb
  rcases Nat.lt_or_ge b w.heap.size with h | h
  · exact h
  · exfalso
    have hn : w.heap[b]? = none := Array.getElem?_eq_none h
    obtain ⟨⟨h1, h2⟩, h3⟩ := ht
    have no : ∀ (b o : Nat) {v : Value}, w.heap[b]? = none → w.cell? ⟨b, o, none⟩ = some v → False := fun b o v hb hv => by
      unfold World.cell? at hv
      rw [hb] at hv
      cases hv
    rcases hb with hb | hb | hb
    · subst hb; exact no _ _ hn (h1 0 (by decide))
    · subst hb; exact no _ _ hn (h2 0 (by decide)).1
    · subst hb
      unfold TabIs World.var? at h3
      rw [show Tryd.prog.globalNamed "internal/strconv.uint64pow10" = some 2 by kernel_rfl, Option.bind_some, hn] at h3
      cases h3
theorem one_calls (k : Tok) (hk : k.text.length < 1000000000) (w : World) (ht : tabP w) : Calls Tryd.prog 39 #[.agg #[.int .i64 k.kind, .string ⟨k.text.toArray⟩, .int .i64 k.n, .bool k.whole, .int .i64 k.c]] w fun e w' => e = .returned (.string ⟨(oneB k).toArray⟩) ∧ Below w.heap.size w w' :=
  calls_of_spec (yone k hk).2 w ⟨fun b hb => tab_lt ht b hb, ht⟩ [.agg #[.int .i64 k.kind, .string ⟨k.text.toArray⟩, .int .i64 k.n, .bool k.whole, .int .i64 k.c]] (repL_cons (by
    unfold Rep
    exact ⟨[.int .i64 k.kind, .string ⟨k.text.toArray⟩, .int .i64 k.n, .bool k.whole, .int .i64 k.c], rfl, repL_cons (rep_val rfl) (repL_cons (rep_val rfl) (repL_cons (rep_val rfl) (repL_cons (rep_val rfl) (repL_cons (rep_val rfl) repL_nil))))⟩) repL_nil)
theorem bld_keep {T e B b : Nat} {bs : List Value} {w w' : World} (h : Lib.IsBuilder T e B b bs w) (hs : w.heap.size ≤ w'.heap.size) (hk : ∀ k, k < w.heap.size → w'.heap[k]? = w.heap[k]?) (ho : w'.os = w.os ∧ w'.tape = w.tape ∧ w'.output = w.output) : Lib.IsBuilder T e B b bs w' := by
  have one : ∀ p, Lib.BuilderAt T e B b p bs w → Lib.BuilderAt T e B b p bs w' := fun p ⟨hB, v, hb, hown, hne⟩ => by
    refine ⟨hB, v, ?_, hown.kept (row := none) ⟨ho.1, ho.2.1, ho.2.2, hs, fun k hk2 _ => hk k hk2⟩ ?_, hne⟩
    · rw [hk b (Array.getElem?_eq_some_iff.1 hb).1]; exact hb
    · cases h : v.ownBlock with
      | none => exact .inl rfl
      | some q => right; simp
  exact h.elim (fun h => .inl (one _ h)) (fun h => .inr (one _ h))
set_option maxHeartbeats 4000000 in
theorem text_calls (t : List Tok) (hl : t.length < 1000000) (hk : ∀ k ∈ t, k.text.length ≤ 100000) (w : World) (ht : tabP w) (b o cap : Nat) (hb : b < w.heap.size) (hcap : t.length ≤ cap)
    (hc : ∀ i k, t[i]? = some k → w.cell? ⟨b, o + i * 5, none⟩ = some (.int .i64 k.kind) ∧ w.cell? ⟨b, o + i * 5 + 1, none⟩ = some (.string ⟨k.text.toArray⟩) ∧ w.cell? ⟨b, o + i * 5 + 2, none⟩ = some (.int .i64 k.n) ∧ w.cell? ⟨b, o + i * 5 + 3, none⟩ = some (.bool k.whole) ∧ w.cell? ⟨b, o + i * 5 + 4, none⟩ = some (.int .i64 k.c)) :
    Calls Tryd.prog 22 #[.slice (some ⟨b, o, none⟩) t.length cap] w fun e w' => e = .returned (.string ⟨(textOf t).toArray⟩) ∧ Below w.heap.size w w' := by
  have hg := tab_lt ht
  have hT : ∀ w', Below w.heap.size w w' → tabP w' := fun w' hb => tabP_mono (fun b hb2 => hb.block b (hg b hb2)) ht
  have HT := Lib.hid hT
  have HC := Lib.hid hc
  have HK := Lib.hid hk
  clear hT ht hg hc hk
  go_enter Tryd.func22, Tryd.ntmps22
  go_wp2
  have b0 : Below w.heap.size w (w.alloc (.cells #[.pointer none, .slice none 0 0] 58)) := (Below.refl _ w).alloc (Nat.le_refl _) _
  go_loopg [8] t.length (fun g s8 wx => ∃ i : Nat, i + g = t.length ∧ s8 = .int .i64 i ∧ Lib.IsBuilder 58 5 w.heap.size w.heap.size (Lib.byteCells (textOf (t.take i))) wx ∧ Below w.heap.size w wx)
  case atStart => exact ⟨0, by omega, rfl, .inl ⟨Nat.le_refl _, .slice none 0 0, heap_alloc_new w _, World.ownsRow_nil _ _ _ _, by simp [Value.ownBlock]⟩, b0⟩
  case round =>
    obtain ⟨i, hig, rfl, hB, hbx⟩ := hrel
    have hws := hbx.size
    cases gk with
    | zero =>
      obtain rfl : i = t.length := by omega
      rw [List.take_of_length_le (Nat.le_refl _)] at hB
      have cS := Tryd.Builder_String_any w.heap.size w.heap.size (textOf t) wr hB hws
      have hnot : ¬ ((t.length : Int) < (t.length : Int)) := by omega
      clear HT HC HK
      go_wp2_with (go_at_call 40; refine cS.mono ?_; rintro e W3 ⟨rfl, b3⟩)
      go_ret
      exact ⟨rfl, hbx.trans b3⟩
    | succ g =>
      have hi : i < t.length := by omega
      have hiI : (i : Int) < (t.length : Int) := by omega
      obtain ⟨k, hkk⟩ : ∃ k, t[i]? = some k := ⟨_, List.getElem?_eq_getElem hi⟩
      obtain ⟨c0, c1, c2, c3, c4⟩ := HC.out i k hkk
      have cell : ∀ o v, w.cell? ⟨b, o, none⟩ = some v → wr.cell? ⟨b, o, none⟩ = some v := fun o v h => by rw [World.cell?_of_block (w := w) (a := ⟨b, o, none⟩) (hbx.block b hb)]; exact h
      have d0 := cell _ _ c0
      have d1 := cell _ _ c1
      have d2 := cell _ _ c2
      have d3 := cell _ _ c3
      have d4 := cell _ _ c4
      clear c0 c1 c2 c3 c4 cell
      have hkt := HK.out k (List.mem_of_getElem? hkk)
      have bA : Below w.heap.size w (wr.alloc (.cells #[.int .i64 k.kind, .string ⟨k.text.toArray⟩, .int .i64 k.n, .bool k.whole, .int .i64 k.c] 26)) := hbx.alloc hws _
      have cOne := one_calls k (by omega) (wr.alloc (.cells #[.int .i64 k.kind, .string ⟨k.text.toArray⟩, .int .i64 k.n, .bool k.whole, .int .i64 k.c] 26)) (HT.out _ bA)
      have hBA : Lib.IsBuilder 58 5 w.heap.size w.heap.size (Lib.byteCells (textOf (t.take i))) (wr.alloc (.cells #[.int .i64 k.kind, .string ⟨k.text.toArray⟩, .int .i64 k.n, .bool k.whole, .int .i64 k.c] 26)) :=
        bld_keep hB (by simp) (fun j hj => heap_alloc_old wr _ hj) ⟨rfl, rfl, rfl⟩
      have hl1 := textOf_len 100000 (t.take i) (fun x hx => HK.out x (List.mem_of_mem_take hx))
      have hl2 := oneB_len k 100000 hkt
      have hl3 : (t.take i).length * (100000 + 60) ≤ 1000000 * 100060 := Nat.mul_le_mul (by rw [List.length_take]; omega) (by omega)
      have HBA := Lib.hid hBA
      have HbA := Lib.hid bA
      have Hbx := Lib.hid hbx
      clear hBA bA hB HC HT HK
      go_wp2_with (go_at_call 39; refine cOne.mono ?_; rintro e W1 ⟨rfl, b1⟩)
      clear cOne d0 d1 d2 d3 d4
      have hBW : Lib.IsBuilder 58 5 w.heap.size w.heap.size (Lib.byteCells (textOf (t.take i))) W1 :=
        bld_keep HBA.out b1.size (fun j hj => b1.block j hj) ⟨b1.os, b1.tape, b1.output⟩
      have b1' : Below w.heap.size w W1 := HbA.out.trans (b1.mono HbA.out.size)
      have cW := bld_write w.heap.size w.heap.size _ ⟨(oneB k).toArray⟩ W1 hBW (by rw [Lib.byteCells_length]; show _ + (oneB k).length ≤ _; omega) b1'.size
      clear hBW HBA HbA b1
      go_wp2_with (go_at_call 38; refine cW.mono ?_; rintro e W2 ⟨rfl, h2, b2⟩)
      go_roundg g
      case measure => omega
      case rel =>
        refine ⟨i + 1, by omega, by go_num, .inr ?_, b1'.trans b2⟩
        rw [textOf_snoc t i k hkk, Lib.byteCells_append]
        exact h2
set_option maxHeartbeats 4000000 in
theorem text_nil (w : World) (ad : Option Addr) (cap : Nat) : Calls Tryd.prog 22 #[.slice ad 0 cap] w fun e w' => e = .returned (.string ⟨#[]⟩) ∧ Below w.heap.size w w' := by
  go_enter Tryd.func22, Tryd.ntmps22
  go_wp2
  have b0 : Below w.heap.size w (w.alloc (.cells #[.pointer none, .slice none 0 0] 58)) := (Below.refl _ w).alloc (Nat.le_refl _) _
  go_loopg [8] 0 (fun g s8 wx => s8 = .int .i64 0 ∧ Lib.IsBuilder 58 5 w.heap.size w.heap.size (Lib.byteCells []) wx ∧ Below w.heap.size w wx)
  case atStart => exact ⟨rfl, .inl ⟨Nat.le_refl _, .slice none 0 0, heap_alloc_new w _, World.ownsRow_nil _ _ _ _, by simp [Value.ownBlock]⟩, b0⟩
  case round =>
    obtain ⟨rfl, hB, hbx⟩ := hrel
    have hws := hbx.size
    have cS := Tryd.Builder_String_any w.heap.size w.heap.size [] wr hB hws
    go_wp2_with (go_at_call 40; refine cS.mono ?_; rintro e W3 ⟨rfl, b3⟩)
    go_ret
    exact ⟨rfl, hbx.trans b3⟩
theorem ytext (t : List Tok) (hl : t.length < 1000000) (hk : ∀ k ∈ t, k.text.length ≤ 100000) : Pure 22 [.f (.sl (t.map tokRow))] (.str ⟨(textOf t).toArray⟩) :=
  ⟨trivial, ⟨_, Tryd.func22, by rfl, rfl⟩, fun c w vs hC hr => by
    have hp : (t.map tokRow).length = t.length := List.length_map ..
    obtain ⟨v, vs', rfl, h1, h2⟩ : ∃ v vs', vs = v :: vs' ∧ Rep c w (.f (.sl (t.map tokRow))) v ∧ RepL c w [] vs' := by unfold RepL at hr; exact hr
    unfold RepL at h2
    subst h2
    unfold Rep RepF at h1
    rcases h1 with ⟨⟨a, rfl⟩, he⟩ | ⟨b, o, cap, rfl, hc, him, hrr⟩
    · have hl0 : t = [] := by
        rw [he] at hp
        exact List.eq_nil_of_length_eq_zero hp.symm
      subst hl0
      refine (text_nil w a 0).mono ?_
      rintro e w' ⟨rfl, hb⟩
      obtain ⟨hC', hk⟩ := hC.grow hb
      exact ⟨_, _, [], c, ⟨rfl, rfl⟩, rfl, rfl, hC', rep_of _ rfl⟩
    · rw [hp] at hc ⊢
      refine (text_calls t hl hk w hC.glob.tab b o cap (hC.immB b him).1 hc (fun i k hi => ?_)).mono ?_
      · have hg : (t.map tokRow)[i]? = some (tokRow k) := by simp [hi]
        have h3 := hrr.get toks4_row i _ hg
        unfold tokRow at h3
        unfold RepC at h3
        obtain ⟨⟨y0, a0, b0⟩, h3⟩ := h3
        unfold RepC at h3
        obtain ⟨⟨y1, a1, b1⟩, h3⟩ := h3
        unfold RepC at h3
        obtain ⟨⟨y2, a2, b2⟩, h3⟩ := h3
        unfold RepC at h3
        obtain ⟨⟨y3, a3, b3⟩, h3⟩ := h3
        unfold RepC at h3
        obtain ⟨⟨y4, a4, b4⟩, h3⟩ := h3
        rw [repF_v b0] at a0
        rw [repF_v b1] at a1
        rw [repF_v b2] at a2
        rw [repF_v b3] at a3
        rw [repF_v b4] at a4
        exact ⟨a0, a1, a2, a3, a4⟩
      · rintro e w' ⟨rfl, hb⟩
        obtain ⟨hC', hk⟩ := hC.grow hb
        exact ⟨_, _, [], c, ⟨rfl, rfl⟩, rfl, rfl, hC', rep_of _ rfl⟩⟩
end Go.Proofs.YtpkgnaajcibgnaaDoor.Aw
