/- utf8.AppendRune, text.Bytes. -/
/- The program's scanner: escapes, names. -/
/- The program's scanner: signs, words, strings. -/
import Derived.Test.YtdenafhfngnlfaaDoorXyA
import Derived.Test.YtdenafhfngnlfaaDoorXrL
namespace Go.Proofs.YtdenafhfngnlfaaDoor.Aw
open Go Go.RowKit Go.Lib
set_option linter.unusedVariables false
set_option linter.unusedSimpArgs false
set_option maxRecDepth 100000
theorem shr32 {c : Int} (n : Nat) (hn : n ≤ 32) : shrI .i32 c n = c / 2 ^ n := by
  unfold shrI
  rw [show min (n : Int).toNat IntKind.i32.bits = n by show min (n : Int).toNat 32 = n; omega]
  rw [Int.fdiv_eq_ediv_of_nonneg _ (by have : (0 : Int) < 2 ^ n := Int.pow_pos (by decide); omega)]
theorem wrapU8 (x : Int) : IntKind.u8.wrap x = x % 256 := by
  have e1 : (2 ^ IntKind.u8.bits : Int) = 256 := by decide
  unfold IntKind.wrap
  rw [e1]
  simp only [show IntKind.u8.signed = false from rfl, Bool.false_and, Bool.false_eq_true, if_false]
theorem wrapU32 {x : Int} (h1 : 0 ≤ x) (h2 : x < 4294967296) : IntKind.u32.wrap x = x := by
  have e1 : (2 ^ IntKind.u32.bits : Int) = 4294967296 := by decide
  unfold IntKind.wrap
  rw [e1]
  simp only [show IntKind.u32.signed = false from rfl, Bool.false_and, Bool.false_eq_true, if_false]
  omega
theorem and8_all : ∀ x : _root_.Fin 256, andI .u8 (x.val : Int) 63 = (x.val : Int) % 64 := by decide +kernel
theorem or8_192 : ∀ x : _root_.Fin 32, orI .u8 192 (x.val : Int) = 192 + x.val := by decide +kernel
theorem or8_224 : ∀ x : _root_.Fin 16, orI .u8 224 (x.val : Int) = 224 + x.val := by decide +kernel
theorem or8_240 : ∀ x : _root_.Fin 8, orI .u8 240 (x.val : Int) = 240 + x.val := by decide +kernel
theorem or8_128 : ∀ x : _root_.Fin 64, orI .u8 128 (x.val : Int) = 128 + x.val := by decide +kernel
theorem or8_fin (k : Int) (n : Nat) (h : ∀ x : _root_.Fin n, orI .u8 k (x.val : Int) = k + x.val) {y : Int} (h0 : 0 ≤ y) (h1 : y < n) : orI .u8 k y = k + y := by
  obtain ⟨m, rfl⟩ : ∃ m : Nat, y = m := ⟨y.toNat, by omega⟩
  exact h ⟨m, by omega⟩
theorem cont8 (x : Int) : IntKind.u8.wrap (orI .u8 128 (IntKind.u8.wrap (andI .u8 (IntKind.u8.wrap x) 63))) = 128 + x % 64 := by
  have e : andI .u8 (IntKind.u8.wrap x) 63 = x % 64 := by
    rw [wrapU8]
    obtain ⟨m, hm⟩ : ∃ m : Nat, x % 256 = m := ⟨(x % 256).toNat, by omega⟩
    rw [hm]
    have := and8_all ⟨m, by omega⟩
    simp only at this
    rw [this]
    omega
  rw [e, wrapU8 (x % 64), Int.emod_eq_of_lt (a := x % 64) (by omega) (by omega), or8_fin 128 64 or8_128 (by omega) (by omega), wrapU8]
  omega
theorem lead8 (k : Int) (n : Nat) (h : ∀ x : _root_.Fin n, orI .u8 k (x.val : Int) = k + x.val) {y : Int} (h0 : 0 ≤ y) (h1 : y < n) (hk : 0 ≤ k ∧ k + n ≤ 256) : IntKind.u8.wrap (orI .u8 k (IntKind.u8.wrap y)) = k + y := by
  rw [wrapU8, wrapU8, Int.emod_eq_of_lt h0 (by omega), or8_fin k n h h0 h1]
  omega
theorem Fin.bytesK {bs xs : List UInt8} {rows : List (List F)} {H : Hp} {n : Nat} (e : rows = xs.map byteRow) : Fin (.own 0 5 1 (bs.map byteRow ++ rows)) (killH 0 H) n 0 1 (fun d H => H = [] ∧ d = .own 0 5 1 ((bs ++ xs).map byteRow)) := Fin.bytes e
theorem byteRow_of {x : Int} (h0 : 0 ≤ x) (h1 : x < 256) : [F.v (.int .u8 x)] = byteRow (b8 x) := (b8_row h0 h1).symm
theorem yrune2_spec (bs : List UInt8) (hb : bs.length < 1000000000) (c : Int) (h0 : 0 ≤ c) (h1 : c ≤ 1114111) (h2 : 128 ≤ c) : Spec P 55 [.own 0 5 1 (bs.map byteRow), .f (.v (.int .i32 c))] [] 1 (fun d H => H = [] ∧ d = .own 0 5 1 ((bs ++ putB c).map byteRow)) := by
  have hw := wrapU32 h0 (by omega)
  have s6 : shrI .i32 c 6 = c / 64 := shr32 6 (by omega)
  have s12 : shrI .i32 c 12 = c / 4096 := shr32 12 (by omega)
  have s18 : shrI .i32 c 18 = c / 262144 := shr32 18 (by omega)
  refine spec_mk tab_ok Tryd.func55 (by rfl) rfl ?_
  conv => whnf
  repeat' first
    | (refine Case.not ?_; conv => whnf)
    | (refine Case.yes ?_; conv => whnf)
    | (refine Case.no ?_; conv => whnf)
    | (refine Case.isTrue (by assumption) ?_; conv => whnf)
    | (refine Case.isFalse (by assumption) ?_; conv => whnf)
    | (refine Case.decT (by assumption) ?_; conv => whnf)
    | (refine Case.decF (by assumption) ?_; conv => whnf)
    | (refine Case.decT (by omega) ?_; conv => whnf)
    | (refine Case.decF (by omega) ?_; conv => whnf)
    | (refine Case.beqT (by omega) ?_; conv => whnf)
    | (refine Case.beqF (by omega) ?_; conv => whnf)
    | (refine Owes.mk (by first | omega | (simp; omega)) ?_; conv => whnf)
    | (refine Num.wrap ?_; conv => whnf)
    | (refine Num.id (by omega) (by omega) ?_; conv => whnf)
    | (refine Case.dec (fun _ => ?_) (fun _ => ?_) <;> conv => whnf)
    | (refine Case.beqI (fun _ => ?_) (fun _ => ?_) <;> conv => whnf)
    | (refine Case.mk (fun _ => ?_) (fun _ => ?_) <;> conv => whnf)
    | (refine Way.fst ?_; conv => whnf)
  all_goals refine Fin.bytesK ?_
  all_goals rw [hw] at *
  all_goals unfold putB right
  · rw [if_pos (by simp; omega), cont8, s6, lead8 192 32 or8_192 (by omega) (by omega) (by omega), byteRow_of (by omega) (by omega), byteRow_of (by omega) (by omega)]
    unfold utfB
    rw [if_neg (by omega), if_pos (by omega)]
    rfl
  · rw [if_pos (by simp; omega), cont8, cont8, s6, s12, lead8 224 16 or8_224 (by omega) (by omega) (by omega), byteRow_of (by omega) (by omega), byteRow_of (by omega) (by omega), byteRow_of (by omega) (by omega)]
    unfold utfB
    rw [if_neg (by omega), if_neg (by omega), if_pos (by omega)]
    rfl
  · rw [if_pos (by simp; omega), cont8, cont8, s6, s12, lead8 224 16 or8_224 (by omega) (by omega) (by omega), byteRow_of (by omega) (by omega), byteRow_of (by omega) (by omega), byteRow_of (by omega) (by omega)]
    unfold utfB
    rw [if_neg (by omega), if_neg (by omega), if_pos (by omega)]
    rfl
  · rw [if_pos (by simp; omega), cont8, cont8, cont8, s6, s12, s18, lead8 240 8 or8_240 (by omega) (by omega) (by omega), byteRow_of (by omega) (by omega), byteRow_of (by omega) (by omega), byteRow_of (by omega) (by omega), byteRow_of (by omega) (by omega)]
    unfold utfB
    rw [if_neg (by omega), if_neg (by omega), if_neg (by omega)]
    rfl
  · rw [if_neg (by simp; omega)]
    rfl
theorem yrune2_call {bs : List UInt8} {c : Int} {E : List D} {H : Hp} {K : KD} (hb : bs.length < 1000000000) (h0 : 0 ≤ c) (h1 : c ≤ 1114111) (h2 : 128 ≤ c) (k : killsK [0] E fun E => killsHK [0] H fun H => K (.own 0 5 1 ((bs ++ putB c).map byteRow)) E H 1) : Call P 55 [.own 0 5 1 (bs.map byteRow), .f (.v (.int .i32 c))] E H 1 K := by
  rw [killsK_eq, killsHK_eq] at k
  refine call_gen («as» := [.own 0 5 1 (bs.map byteRow), .f (.v (.int .i32 c))]) [] [0] (yrune2_spec bs hb c h0 h1 h2) (by simp) (by simp) (by simp) (by simp) trivial ⟨Nat.zero_lt_one, trivial, trivial⟩ ?_
  rintro d Hs' ⟨rfl, rfl⟩ _
  exact k
theorem Fin.bytesO {bs : List UInt8} {H : Hp} {n : Nat} {R : D → Hp → Prop} (hR : R (.own 0 5 1 (bs.map byteRow)) []) : Fin (.own 0 5 1 (bs.map byteRow)) H n 0 1 R :=
  Fin.mk (.own 0 5 1 (bs.map byteRow)) [] hR rfl ⟨by unfold intoL intoL intoD; exact ⟨⟨rfl, by decide⟩, rfl⟩, by unfold intoH; cases H <;> trivial⟩
theorem yrune_spec (bs : List UInt8) (hb : bs.length < 1000000000) (c : Int) (h0 : 0 ≤ c) (h1 : c ≤ 1114111) : Spec P 49 [.own 0 5 1 (bs.map byteRow), .f (.v (.int .i32 c))] [] 1 (fun d H => H = [] ∧ d = .own 0 5 1 ((bs ++ putB c).map byteRow)) := by
  have hw := wrapU32 h0 (by omega)
  refine spec_mk tab_ok Tryd.func49 (by rfl) rfl ?_
  conv => whnf
  repeat' first
    | (refine Case.not ?_; conv => whnf)
    | (refine Case.yes ?_; conv => whnf)
    | (refine Case.no ?_; conv => whnf)
    | (refine Case.isTrue (by assumption) ?_; conv => whnf)
    | (refine Case.isFalse (by assumption) ?_; conv => whnf)
    | (refine Case.decT (by assumption) ?_; conv => whnf)
    | (refine Case.decF (by assumption) ?_; conv => whnf)
    | (refine Case.decT (by omega) ?_; conv => whnf)
    | (refine Case.decF (by omega) ?_; conv => whnf)
    | (refine Case.beqT (by omega) ?_; conv => whnf)
    | (refine Case.beqF (by omega) ?_; conv => whnf)
    | (refine Owes.mk (by first | omega | (simp; omega)) ?_; conv => whnf)
    | (refine Num.wrap ?_; conv => whnf)
    | (refine Num.id (by omega) (by omega) ?_; conv => whnf)
    | (refine Case.dec (fun _ => ?_) (fun _ => ?_) <;> conv => whnf)
    | (refine Case.beqI (fun _ => ?_) (fun _ => ?_) <;> conv => whnf)
    | (refine Case.mk (fun _ => ?_) (fun _ => ?_) <;> conv => whnf)
    | (refine Way.fst ?_; conv => whnf)
  all_goals rw [hw] at *
  · refine Fin.bytesK ?_
    unfold putB right
    rw [if_pos (by simp; omega), wrapU8, Int.emod_eq_of_lt (by omega) (by omega), byteRow_of (by omega) (by omega)]
    unfold utfB
    rw [if_pos (by omega)]
    rfl
  · refine yrune2_call hb h0 h1 (by omega) ?_
    conv => whnf
    repeat' first
      | (refine Case.not ?_; conv => whnf)
      | (refine Case.yes ?_; conv => whnf)
      | (refine Case.no ?_; conv => whnf)
      | (refine Case.isTrue (by assumption) ?_; conv => whnf)
      | (refine Case.isFalse (by assumption) ?_; conv => whnf)
      | (refine Case.decT (by assumption) ?_; conv => whnf)
      | (refine Case.decF (by assumption) ?_; conv => whnf)
      | (refine Case.decT (by omega) ?_; conv => whnf)
      | (refine Case.decF (by omega) ?_; conv => whnf)
      | (refine Case.beqT (by omega) ?_; conv => whnf)
      | (refine Case.beqF (by omega) ?_; conv => whnf)
      | (refine Num.id (by omega) (by omega) ?_; conv => whnf)
      | (refine Case.dec (fun _ => ?_) (fun _ => ?_) <;> conv => whnf)
      | (refine Case.beqI (fun _ => ?_) (fun _ => ?_) <;> conv => whnf)
      | (refine Case.mk (fun _ => ?_) (fun _ => ?_) <;> conv => whnf)
      | (refine Way.fst ?_; conv => whnf)
    exact Fin.bytesO ⟨rfl, rfl⟩
theorem yrune_call {bs : List UInt8} {c : Int} {E : List D} {H : Hp} {K : KD} (hb : bs.length < 1000000000) (h0 : 0 ≤ c) (h1 : c ≤ 1114111) (k : killsK [0] E fun E => killsHK [0] H fun H => K (.own 0 5 1 ((bs ++ putB c).map byteRow)) E H 1) : Call P 49 [.own 0 5 1 (bs.map byteRow), .f (.v (.int .i32 c))] E H 1 K := by
  rw [killsK_eq, killsHK_eq] at k
  refine call_gen («as» := [.own 0 5 1 (bs.map byteRow), .f (.v (.int .i32 c))]) [] [0] (yrune_spec bs hb c h0 h1) (by simp) (by simp) (by simp) (by simp) trivial ⟨Nat.zero_lt_one, trivial, trivial⟩ ?_
  rintro d Hs' ⟨rfl, rfl⟩ _
  exact k
theorem wrapI32 {x : Int} (h1 : -2147483648 ≤ x) (h2 : x < 2147483648) : IntKind.i32.wrap x = x := by
  have e1 : (2 ^ IntKind.i32.bits : Int) = 4294967296 := by decide
  have e2 : (2 ^ (IntKind.i32.bits - 1) : Int) = 2147483648 := by decide
  unfold IntKind.wrap
  rw [e1, e2]
  simp only [show IntKind.i32.signed = true from rfl, Bool.true_and, decide_eq_true_eq]
  split <;> omega
theorem Num.id32 {x : Int} {K : Int → Prop} (h1 : -2147483648 ≤ x) (h2 : x < 2147483648) (h : K x) : Num .i32 x K := Num.wrap (by rw [wrapI32 h1 h2]; exact h)
/-- Code points as bytes. -/
def bytesOf (l : List Int) : List UInt8 := l.flatMap putB
structure BytI (l : List Int) (s : Nat × List UInt8) : Prop where
  i : s.1 ≤ l.length
  o : s.2.length ≤ 4 * s.1
  run : s.2 ++ bytesOf (l.drop s.1) = bytesOf l
theorem bytesOf_cons (c : Int) (l : List Int) : bytesOf (c :: l) = putB c ++ bytesOf l := by simp [bytesOf]
theorem bytesOf_app (l m : List Int) : bytesOf (l ++ m) = bytesOf l ++ bytesOf m := by simp [bytesOf]
theorem putB_out {c : Int} (h : c < 0 ∨ 1114111 < c) : putB c = putB 65533 := by
  have e : right c = false := by
    rw [Bool.eq_false_iff]
    intro hr
    have := right_le hr
    omega
  unfold putB
  rw [e]
  rfl
theorem ybytes_spec (l : List Int) (hl : l.length < 200000000) : Val 41 [.f (.sl (ptsF l))] (.f (.sl ((bytesOf l).map byteRow))) := by
  have hp := ptsF_length l
  refine ⟨rfl, ⟨trivial, trivial⟩, rfl, spec_mk tab_ok Tryd.func41 (by rfl) rfl ?_⟩
  conv => whnf
  refine step_loop tab_ok (fun s : Nat × List UInt8 => padK [.f (.sl (ptsF l)), .junk, .junk, .own 0 5 1 (s.2.map byteRow), .junk, .junk, .f (.sl (ptsF l)), int l.length, int s.1] 24) (fun _ => []) 1 (BytI l) (fun s => l.length - s.1) (0, []) ⟨by simp, by simp, rfl⟩ (fun _ => rfl) ?_ ?_
  ·
    repeat' first | exact trivial | exact rfl | exact (by decide : (0 : Nat) < 1) | exact Nat.le_refl _ | exact Nat.zero_lt_succ _ | exact congrArg int (by (try dsimp only); omega) | exact congrArg bool (by (try dsimp only); simp; omega) | (show _ < List.length _; simp; done) | apply And.intro
  · rintro ⟨i, out⟩ ⟨h1, h2, h3⟩
    simp only at h1 h2 h3
    dsimp only
    conv => whnf
    refine Case.dec (fun h0 => ?_) (fun h0 => ?_)
    · obtain ⟨c, hc⟩ : ∃ c, l[i]? = some c := ⟨_, List.getElem?_eq_getElem (by omega)⟩
      have hb := putB_le c
      rw [drop_step hc, bytesOf_cons] at h3
      conv => whnf
      repeat' first
        | (refine Case.not ?_; conv => whnf)
        | (refine Case.yes ?_; conv => whnf)
        | (refine Case.no ?_; conv => whnf)
        | (refine Case.isTrue (by assumption) ?_; conv => whnf)
        | (refine Case.isFalse (by assumption) ?_; conv => whnf)
        | (refine Case.decT (by assumption) ?_; conv => whnf)
        | (refine Case.decF (by assumption) ?_; conv => whnf)
        | (refine Case.decT (by omega) ?_; conv => whnf)
        | (refine Case.decF (by omega) ?_; conv => whnf)
        | (refine Case.beqT (by omega) ?_; conv => whnf)
        | (refine Case.beqF (by omega) ?_; conv => whnf)
        | (refine Owes.mk ptsF_row ?_; conv => whnf)
        | (refine Elem.mk i _ rfl (ptsF_get hc) ?_; conv => whnf)
        | (refine Num.id32 (by omega) (by omega) ?_; conv => whnf)
        | (refine yrune_call (by omega) (by omega) (by omega) ?_; conv => whnf)
        | (refine Num.id (by omega) (by omega) ?_; conv => whnf)
        | (refine Case.dec (fun _ => ?_) (fun _ => ?_) <;> conv => whnf)
        | (refine Case.beqI (fun _ => ?_) (fun _ => ?_) <;> conv => whnf)
        | (refine Case.mk (fun _ => ?_) (fun _ => ?_) <;> conv => whnf)
        | (refine Way.fst ?_; conv => whnf)
      all_goals refine ⟨(i + 1, out ++ putB c), ⟨by dsimp only; omega, by dsimp only; rw [List.length_append]; omega, by dsimp only; rw [List.append_assoc]; exact h3⟩, by dsimp only; omega, ?_⟩
      · rw [putB_out (c := c) (by omega)]
        repeat' first | exact trivial | exact rfl | exact (by decide : (0 : Nat) < 1) | exact Nat.le_refl _ | exact Nat.zero_lt_succ _ | exact congrArg int (by (try dsimp only); omega) | exact congrArg bool (by (try dsimp only); simp; omega) | (show _ < List.length _; simp; done) | apply And.intro
      · rw [putB_out (c := c) (by omega)]
        repeat' first | exact trivial | exact rfl | exact (by decide : (0 : Nat) < 1) | exact Nat.le_refl _ | exact Nat.zero_lt_succ _ | exact congrArg int (by (try dsimp only); omega) | exact congrArg bool (by (try dsimp only); simp; omega) | (show _ < List.length _; simp; done) | apply And.intro
      ·
        repeat' first | exact trivial | exact rfl | exact (by decide : (0 : Nat) < 1) | exact Nat.le_refl _ | exact Nat.zero_lt_succ _ | exact congrArg int (by (try dsimp only); omega) | exact congrArg bool (by (try dsimp only); simp; omega) | (show _ < List.length _; simp; done) | apply And.intro
    · rw [show l.drop i = [] by rw [List.drop_eq_nil_iff]; omega] at h3
      simp [bytesOf] at h3
      conv => whnf
      refine Fin.frz 0 (Fin.mk (.f (.sl ((bytesOf l).map byteRow))) [] ⟨rfl, rfl⟩ rfl ⟨?_, by unfold intoH; cases frzH 0 [] <;> trivial⟩)
      unfold intoL intoL intoD
      exact ⟨by rw [h3]; rfl, rfl⟩
theorem yrune_callK {bs : List UInt8} {c : Int} {E : List D} {H : Hp} {K : KD} {k n : Nat} (hk : k < n) (hb : bs.length < 1000000000) (h0 : 0 ≤ c) (h1 : c ≤ 1114111) (h : killsK [k] E fun E => killsHK [k] H fun H => K (.own k 5 1 ((bs ++ putB c).map byteRow)) E H n) : Call P 49 [.own k 5 1 (bs.map byteRow), .f (.v (.int .i32 c))] E H n K := by
  rw [killsK_eq, killsHK_eq] at h
  refine call_gen («as» := [.own 0 5 1 (bs.map byteRow), .f (.v (.int .i32 c))]) [] [k] (yrune_spec bs hb c h0 h1) (by simp) (by simp) (by simp) (by simpa using hk) trivial ⟨Nat.zero_lt_one, trivial, trivial⟩ ?_
  rintro d Hs' ⟨rfl, rfl⟩ _
  exact h
theorem ybytes_own (l : List Int) (hl : l.length < 200000000) : Spec P 41 [.own 0 3 1 (ptsF l)] [] 1 (fun d H => H = [] ∧ d = .f (.sl ((bytesOf l).map byteRow))) := by
  have hp := ptsF_length l
  refine spec_mk tab_ok Tryd.func41 (by rfl) rfl ?_
  conv => whnf
  refine step_loop tab_ok (fun s : Nat × List UInt8 => padK [.own 0 3 1 (ptsF l), .junk, .junk, .own 1 5 1 (s.2.map byteRow), .junk, .junk, .own 0 3 1 (ptsF l), int l.length, int s.1] 24) (fun _ => []) 2 (BytI l) (fun s => l.length - s.1) (0, []) ⟨by simp, by simp, rfl⟩ (fun _ => rfl) ?_ ?_
  ·
    repeat' first | exact trivial | exact rfl | exact Nat.zero_le _ | exact Nat.zero_lt_succ _ | exact (by decide : (0 : Nat) < 1) | exact (by decide : (1 : Nat) < 4) | exact (by decide : (2 : Nat) < 4) | exact (by decide : (3 : Nat) < 4) | exact (by decide : (1 : Nat) < 2) | exact (by decide : (2 : Nat) < 3) | exact congrArg int (by (try dsimp only); omega) | exact congrArg bool (by (try dsimp only); simp; omega) | (show _ < List.length _; simp; done) | apply And.intro
  · rintro ⟨i, out⟩ ⟨h1, h2, h3⟩
    simp only at h1 h2 h3
    dsimp only
    conv => whnf
    refine Case.dec (fun h0 => ?_) (fun h0 => ?_)
    · obtain ⟨c, hc⟩ : ∃ c, l[i]? = some c := ⟨_, List.getElem?_eq_getElem (by omega)⟩
      have hb := putB_le c
      have gl : (ptsF l)[(i : Int).toNat]? = some [.v (.int .i64 c)] := ptsF_get hc
      rw [drop_step hc, bytesOf_cons] at h3
      conv => whnf
      repeat' first
        | (refine Case.not ?_; conv => whnf)
        | (refine Case.yes ?_; conv => whnf)
        | (refine Case.no ?_; conv => whnf)
        | (refine Case.isTrue (by assumption) ?_; conv => whnf)
        | (refine Case.isFalse (by assumption) ?_; conv => whnf)
        | (refine Case.decT (by assumption) ?_; conv => whnf)
        | (refine Case.decF (by assumption) ?_; conv => whnf)
        | (refine Case.decT (by omega) ?_; conv => whnf)
        | (refine Case.decF (by omega) ?_; conv => whnf)
        | (refine Case.beqT (by omega) ?_; conv => whnf)
        | (refine Case.beqF (by omega) ?_; conv => whnf)
        | (refine Owes.mk ptsF_row ?_; conv => whnf)
        | (refine Elem.mk i _ rfl (ptsF_get hc) ?_; conv => whnf)
        | (rw [gl]; conv => whnf)
        | (refine Owes.mk rfl ?_; conv => whnf)
        | (refine Num.id32 (by omega) (by omega) ?_; conv => whnf)
        | (refine yrune_callK (by omega) (by omega) (by omega) (by omega) ?_; conv => whnf)
        | (refine Num.id (by omega) (by omega) ?_; conv => whnf)
        | (refine Case.dec (fun _ => ?_) (fun _ => ?_) <;> conv => whnf)
        | (refine Case.beqI (fun _ => ?_) (fun _ => ?_) <;> conv => whnf)
        | (refine Case.mk (fun _ => ?_) (fun _ => ?_) <;> conv => whnf)
        | (refine Way.fst ?_; conv => whnf)
      all_goals refine ⟨(i + 1, out ++ putB c), ⟨by dsimp only; omega, by dsimp only; rw [List.length_append]; omega, by dsimp only; rw [List.append_assoc]; exact h3⟩, by dsimp only; omega, ?_⟩
      · rw [putB_out (c := c) (by omega)]
        repeat' first | exact trivial | exact rfl | exact Nat.zero_le _ | exact Nat.zero_lt_succ _ | exact (by decide : (0 : Nat) < 1) | exact (by decide : (1 : Nat) < 4) | exact (by decide : (2 : Nat) < 4) | exact (by decide : (3 : Nat) < 4) | exact (by decide : (1 : Nat) < 2) | exact (by decide : (2 : Nat) < 3) | exact congrArg int (by (try dsimp only); omega) | exact congrArg bool (by (try dsimp only); simp; omega) | (show _ < List.length _; simp; done) | apply And.intro
      · rw [putB_out (c := c) (by omega)]
        repeat' first | exact trivial | exact rfl | exact Nat.zero_le _ | exact Nat.zero_lt_succ _ | exact (by decide : (0 : Nat) < 1) | exact (by decide : (1 : Nat) < 4) | exact (by decide : (2 : Nat) < 4) | exact (by decide : (3 : Nat) < 4) | exact (by decide : (1 : Nat) < 2) | exact (by decide : (2 : Nat) < 3) | exact congrArg int (by (try dsimp only); omega) | exact congrArg bool (by (try dsimp only); simp; omega) | (show _ < List.length _; simp; done) | apply And.intro
      ·
        repeat' first | exact trivial | exact rfl | exact Nat.zero_le _ | exact Nat.zero_lt_succ _ | exact (by decide : (0 : Nat) < 1) | exact (by decide : (1 : Nat) < 4) | exact (by decide : (2 : Nat) < 4) | exact (by decide : (3 : Nat) < 4) | exact (by decide : (1 : Nat) < 2) | exact (by decide : (2 : Nat) < 3) | exact congrArg int (by (try dsimp only); omega) | exact congrArg bool (by (try dsimp only); simp; omega) | (show _ < List.length _; simp; done) | apply And.intro
    · rw [show l.drop i = [] by rw [List.drop_eq_nil_iff]; omega] at h3
      simp [bytesOf] at h3
      conv => whnf
      refine Fin.frz 1 (Fin.mk (.f (.sl ((bytesOf l).map byteRow))) [] ⟨rfl, rfl⟩ rfl ⟨?_, by unfold intoH; cases frzH 1 [] <;> trivial⟩)
      unfold intoL intoL intoD
      exact ⟨by rw [h3]; rfl, rfl⟩
theorem ybytes_call {l : List Int} {E : List D} {H : Hp} {K : KD} {k n : Nat} (hk : k < n) (hl : l.length < 200000000) (h : killsK [k] E fun E => killsHK [k] H fun H => K (.f (.sl ((bytesOf l).map byteRow))) E H n) : Call P 41 [.own k 3 1 (ptsF l)] E H n K := by
  rw [killsK_eq, killsHK_eq] at h
  refine call_gen («as» := [.own 0 3 1 (ptsF l)]) [] [k] (ybytes_own l hl) (by simp) (by simp) (by simp) (by simpa using hk) trivial ⟨Nat.zero_lt_one, trivial⟩ ?_
  rintro d Hs' ⟨rfl, rfl⟩ _
  exact h
end Go.Proofs.YtdenafhfngnlfaaDoor.Aw

namespace Go.Proofs.YtdenafhfngnlfaaDoor.Aw
open Go Go.RowKit Go.Lib
set_option linter.unusedVariables false
set_option linter.unusedSimpArgs false
set_option maxRecDepth 100000
theorem escapedV_of2 {l : List Int} {a p : Nat} {n : Int} (h0 : 0 ≤ n) (h : ¬ hex (see l (a + 1)) < 0) (hx : hexRun l 6 (a + 1) 0 = (p, n)) : escapedV l a = if n = 0 ∨ 1114111 < n ∨ (55296 ≤ n ∧ n ≤ 57343) then 65533 else n := by
  rw [escapedV_of h hx]
  have e : (n = 0 ∨ right n = false) ↔ (n = 0 ∨ 1114111 < n ∨ (55296 ≤ n ∧ n ≤ 57343)) := by
    unfold right
    simp only [Bool.and_eq_false_iff, Bool.or_eq_false_iff, decide_eq_false_iff_not]
    omega
  by_cases h2 : n = 0 ∨ right n = false
  · rw [if_pos h2, if_pos (e.1 h2)]
  · rw [if_neg h2, if_neg (fun h3 => h2 (e.2 h3))]
set_option maxHeartbeats 1000000 in
theorem yescaped (l : List Int) (hl : l.length < 1000000000) (a : Nat) (ha : a < 1900000000) : Meth 42 l (a + 1) (int (escapedV l a)) (escapedP l a) := by
  refine ⟨trivial, spec_mk tab_ok Tryd.func42 (by rfl) rfl ?_⟩
  have hh := hex_le (see l (a + 1))
  conv => whnf
  repeat' first
    | (refine Case.not ?_; conv => whnf)
    | (refine Case.yes ?_; conv => whnf)
    | (refine Case.no ?_; conv => whnf)
    | (refine Case.isTrue (by assumption) ?_; conv => whnf)
    | (refine Case.isFalse (by assumption) ?_; conv => whnf)
    | (refine Case.decT (by assumption) ?_; conv => whnf)
    | (refine Case.decF (by assumption) ?_; conv => whnf)
    | (refine Case.decT (by omega) ?_; conv => whnf)
    | (refine Case.decF (by omega) ?_; conv => whnf)
    | (refine Case.beqT (by omega) ?_; conv => whnf)
    | (refine Case.beqF (by omega) ?_; conv => whnf)
    | (refine (yat_at l hl (a+1) (by omega) _ (a + 1) (by omega) (by omega) (by omega)).call ⟨⟨rfl, rfl, trivial⟩, rfl, rfl⟩ ?_; conv => whnf)
    | (refine (yhex_spec _).call ⟨rfl, rfl⟩ ?_; conv => whnf)
    | (refine Num.id (by omega) (by omega) ?_; conv => whnf)
    | (refine Case.dec (fun _ => ?_) (fun _ => ?_) <;> conv => whnf)
    | (refine Case.beqI (fun _ => ?_) (fun _ => ?_) <;> conv => whnf)
    | (refine Case.mk (fun _ => ?_) (fun _ => ?_) <;> conv => whnf)
    | (refine Way.fst ?_; conv => whnf)
  · refine Fin.rd (a + 2) trivial (by omega) ⟨?_, ?_⟩
    · unfold escapedV; rw [if_pos (by omega)]
    · unfold escapedP; rw [if_pos (by omega)]
  · refine step_loop tab_ok (fun s => padK [.ptr 0 0, .junk, .junk, .junk, int s.2.2, int s.1] 68) (fun s => [some (rdr l s.2.1)]) 0 (EscI l a) (fun s => 6 - s.1) (0, a + 1, 0) ⟨by simp, by simp, by simp, by simp, rfl⟩ (fun _ => rfl) ?_ ?_
    ·
      repeat' first | exact trivial | exact rfl | exact (by decide : (0 : Nat) < 1) | exact Nat.le_refl _ | exact Nat.zero_lt_succ _ | exact congrArg int (by (try dsimp only); omega) | exact congrArg bool (by (try dsimp only); simp; omega) | (show _ < List.length _; simp; done) | apply And.intro
    · rintro ⟨j, p, n⟩ ⟨h1, h2, h3, h4, h5⟩
      simp only at h1 h2 h3 h4 h5
      dsimp only
      have hb := p16 j h1
      have hh2 := hex_le (see l p)
      conv => whnf
      repeat' first
        | (refine Case.not ?_; conv => whnf)
        | (refine Case.yes ?_; conv => whnf)
        | (refine Case.no ?_; conv => whnf)
        | (refine Case.isTrue (by assumption) ?_; conv => whnf)
        | (refine Case.isFalse (by assumption) ?_; conv => whnf)
        | (refine Case.decT (by assumption) ?_; conv => whnf)
        | (refine Case.decF (by assumption) ?_; conv => whnf)
        | (refine Case.decT (by omega) ?_; conv => whnf)
        | (refine Case.decF (by omega) ?_; conv => whnf)
        | (refine Case.beqT (by omega) ?_; conv => whnf)
        | (refine Case.beqF (by omega) ?_; conv => whnf)
        | (refine (yat_at l (by omega) p (by omega) _ p (by omega) (by omega) (by omega)).call ⟨⟨rfl, rfl, trivial⟩, rfl, rfl⟩ ?_; conv => whnf)
        | (refine (yhex_spec _).call ⟨rfl, rfl⟩ ?_; conv => whnf)
        | (refine (ywhite_spec _).call ⟨rfl, rfl⟩ ?_; conv => whnf)
        | (refine Num.id (by omega) (by omega) ?_; conv => whnf)
        | (refine Case.dec (fun _ => ?_) (fun _ => ?_) <;> conv => whnf)
        | (refine Case.beqI (fun _ => ?_) (fun _ => ?_) <;> conv => whnf)
        | (refine Case.mk (fun _ => ?_) (fun _ => ?_) <;> conv => whnf)
        | (refine Way.fst ?_; conv => whnf)
      rotate_right
      rotate_right
      all_goals first
        | (have hx := hexRun_end h5 h1 (by omega)
           have eV := escapedV_of2 h3 (by omega) hx
           have eP := escapedP_of (by omega) hx
           rw [eV, eP]
           first
             | (refine Fin.rd (p + 1) trivial (by omega) ⟨?_, ?_⟩
                · first | rw [if_pos (by omega)] | rw [if_neg (by omega)]
                · rw [if_pos (by assumption)]
                done)
             | (refine Fin.rd p trivial (by omega) ⟨?_, ?_⟩
                · first | rw [if_pos (by omega)] | rw [if_neg (by omega)]
                · rw [if_neg (by simp [*])]
                done))
        | skip
      refine ⟨(j + 1, p + 1, n * 16 + hex (see l p)), ⟨by dsimp only; omega, by dsimp only; omega, by dsimp only; omega, by dsimp only; rw [Int.pow_succ]; omega, ?_⟩, by dsimp only; omega, ?_⟩
      · dsimp only
        rw [← h5, show 6 - j = (6 - (j + 1)) + 1 by omega, hexRun, if_pos (by omega)]
      ·
        repeat' first | exact trivial | exact rfl | exact (by decide : (0 : Nat) < 1) | exact Nat.le_refl _ | exact Nat.zero_lt_succ _ | exact congrArg int (by (try dsimp only); omega) | exact congrArg bool (by (try dsimp only); simp; omega) | (show _ < List.length _; simp; done) | apply And.intro
structure YptI (l : List Int) (a : Nat) (s : Nat × List Int) : Prop where
  p : s.1 ≤ l.length
  b : s.2.length ≤ s.1
  run : ∀ f, l.length - s.1 < f → nameRun l f s.1 (bytesOf s.2) = nameRun l (l.length + 1) a []
theorem bytesOf_snoc (l : List Int) (c : Int) : bytesOf (l ++ [c]) = bytesOf l ++ putB c := by simp [bytesOf]
theorem escape_not {l : List Int} {p : Nat} (h : escape l p = true) : namePoint (see l p) = false := by
  simp only [escape, Bool.and_eq_true, decide_eq_true_eq] at h
  rw [h.1.1]
  decide
theorem bytesOf_le (l : List Int) : (bytesOf l).length ≤ 4 * l.length := by
  induction l with
  | nil => simp [bytesOf]
  | cons c l ih =>
    rw [bytesOf_cons, List.length_append]
    have := putB_le c
    simp only [List.length_cons]
    omega
set_option maxHeartbeats 1000000 in
theorem ypoints (l : List Int) (hl : l.length < 100000000) (a : Nat) (ha : a ≤ l.length) : Meth 45 l a (.str ⟨(nameS l a).toArray⟩) (nameP l a) := by
  refine ⟨trivial, spec_mk tab_ok Tryd.func45 (by rfl) rfl ?_⟩
  conv => whnf
  refine step_loop tab_ok (fun s : Nat × List Int => padK [.ptr 0 0, .junk, .junk, intsD s.2] 38) (fun s => [some (rdr l s.1)]) 1 (YptI l a) (fun s => l.length - s.1) (a, []) ⟨ha, by simp, fun f hf => nameRun_fuel l _ _ _ _ hf (by dsimp only at hf; omega)⟩ (fun _ => rfl) ?_ ?_
  ·
    repeat' first | exact trivial | exact rfl | exact (by decide : (0 : Nat) < 1) | exact Nat.le_refl _ | exact Nat.zero_lt_succ _ | exact congrArg int (by (try dsimp only); omega) | exact congrArg bool (by (try dsimp only); simp; omega) | (show _ < List.length _; simp; done) | apply And.intro
  · rintro ⟨p, out⟩ ⟨h1, h2, h3⟩
    simp only at h1 h2 h3
    dsimp only
    have hbl := bytesOf_le out
    conv => whnf
    repeat' first
      | (refine Case.not ?_; conv => whnf)
      | (refine Case.yes ?_; conv => whnf)
      | (refine Case.no ?_; conv => whnf)
      | (refine Case.isTrue (by assumption) ?_; conv => whnf)
      | (refine Case.isFalse (by assumption) ?_; conv => whnf)
      | (refine Case.decT (by assumption) ?_; conv => whnf)
      | (refine Case.decF (by assumption) ?_; conv => whnf)
      | (refine Case.decT (by omega) ?_; conv => whnf)
      | (refine Case.decF (by omega) ?_; conv => whnf)
      | (refine Case.beqT (by omega) ?_; conv => whnf)
      | (refine Case.beqF (by omega) ?_; conv => whnf)
      | (refine (yat_at l (by omega) p (by omega) _ p (by omega) (by omega) (by omega)).call ⟨⟨rfl, rfl, trivial⟩, rfl, rfl⟩ ?_; conv => whnf)
      | (refine (yescape_at l (by omega) p (by omega) _ p (by omega) (by omega) (by omega)).call ⟨⟨rfl, rfl, trivial⟩, rfl, rfl⟩ ?_; conv => whnf)
      | (refine (ypoint_spec _).call ⟨rfl, rfl⟩ ?_; conv => whnf)
      | (refine (yescaped l (by omega) p (by omega)).call ?_; conv => whnf)
      | (refine Owes.mk (by simp [ptsF]; omega) ?_; conv => whnf)
      | (refine Owes.mk rfl ?_; conv => whnf)
      | (refine ybytes_call (by omega) (by omega) ?_; conv => whnf)
      | (refine AsBytes.mk (bytesOf out) rfl ?_; conv => whnf)
      | (refine Num.id (by omega) (by omega) ?_; conv => whnf)
      | (refine Case.dec (fun _ => ?_) (fun _ => ?_) <;> conv => whnf)
      | (refine Case.beqI (fun _ => ?_) (fun _ => ?_) <;> conv => whnf)
      | (refine Case.mk (fun _ => ?_) (fun _ => ?_) <;> conv => whnf)
      | (refine Way.fst ?_; conv => whnf)
    · have h := escapedP_le (by assumption)
      refine ⟨(escapedP l p, out ++ [escapedV l p]), ⟨by dsimp only; omega, by dsimp only; rw [List.length_append]; simp; omega, fun f hf => ?_⟩, by dsimp only; omega, ?_⟩
      · dsimp only at hf ⊢
        rw [bytesOf_snoc, ← h3 (l.length - p + 1) (by omega), nameRun, if_neg (by simp [escape_not (by assumption)]), if_pos (by assumption)]
        exact nameRun_fuel l f _ _ _ hf (by omega)
      ·
        repeat' first | exact trivial | exact rfl | exact (by decide : (0 : Nat) < 1) | exact Nat.le_refl _ | exact Nat.zero_lt_succ _ | exact congrArg int (by (try dsimp only); omega) | exact congrArg bool (by (try dsimp only); simp; omega) | (show _ < List.length _; simp; done) | apply And.intro | exact congrArg (D.own _ _ _) (by simp [ptsF]; done) | exact congrArg int (by unfold ptsF; (repeat' split) <;> omega)
    · have h := namePoint_lt (by assumption)
      refine ⟨(p + 1, out ++ [see l p]), ⟨by dsimp only; omega, by dsimp only; rw [List.length_append]; simp; omega, fun f hf => ?_⟩, by dsimp only; omega, ?_⟩
      · dsimp only at hf ⊢
        rw [bytesOf_snoc, ← h3 (f + 1) (by omega), nameRun, if_pos (by assumption)]
      ·
        repeat' first | exact trivial | exact rfl | exact (by decide : (0 : Nat) < 1) | exact Nat.le_refl _ | exact Nat.zero_lt_succ _ | exact congrArg int (by (try dsimp only); omega) | exact congrArg bool (by (try dsimp only); simp; omega) | (show _ < List.length _; simp; done) | apply And.intro | exact congrArg (D.own _ _ _) (by simp [ptsF]; done) | exact congrArg int (by unfold ptsF; (repeat' split) <;> omega)
    · have e := h3 (l.length - p + 1) (by omega)
      rw [nameRun, if_neg (by simp [*]), if_neg (by simp [*])] at e
      refine Fin.rd p trivial rfl ⟨?_, ?_⟩
      · unfold nameS; rw [← e]
      · unfold nameP; rw [← e]
end Go.Proofs.YtdenafhfngnlfaaDoor.Aw

namespace Go.Proofs.YtdenafhfngnlfaaDoor.Aw
open Go Go.RowKit Go.Lib
set_option linter.unusedVariables false
set_option linter.unusedSimpArgs false
set_option maxRecDepth 100000
theorem tok_scal (t : Tok) : scalD t.d := ⟨trivial, trivial, trivial, trivial, trivial, trivial⟩
def signT (c : Int) : Tok := { kind := signK c, c := if signK c = 10 then c else 0 }
theorem ysign (l : List Int) (hl : l.length < 100000000) (a : Nat) (ha : a ≤ l.length) : Meth 39 l a (signT (see l a)).d (a + 1) := by
  refine ⟨⟨trivial, trivial, trivial, trivial, trivial, trivial⟩, spec_mk tab_ok Tryd.func39 (by rfl) rfl ?_⟩
  conv => whnf
  repeat' first
    | (refine Case.not ?_; conv => whnf)
    | (refine Case.yes ?_; conv => whnf)
    | (refine Case.no ?_; conv => whnf)
    | (refine Case.isTrue (by assumption) ?_; conv => whnf)
    | (refine Case.isFalse (by assumption) ?_; conv => whnf)
    | (refine Case.decT (by assumption) ?_; conv => whnf)
    | (refine Case.decF (by assumption) ?_; conv => whnf)
    | (refine Case.decT (by omega) ?_; conv => whnf)
    | (refine Case.decF (by omega) ?_; conv => whnf)
    | (refine Case.beqT (by omega) ?_; conv => whnf)
    | (refine Case.beqF (by omega) ?_; conv => whnf)
    | (refine (yat_at l (by omega) a (by omega) _ a (by omega) (by omega) (by omega)).call ⟨⟨rfl, rfl, trivial⟩, rfl, rfl⟩ ?_; conv => whnf)
    | (refine (ysigns_spec _).call ⟨rfl, rfl⟩ ?_; conv => whnf)
    | (refine Num.id (by omega) (by omega) ?_; conv => whnf)
    | (refine Case.dec (fun _ => ?_) (fun _ => ?_) <;> conv => whnf)
    | (refine Case.beqI (fun _ => ?_) (fun _ => ?_) <;> conv => whnf)
    | (refine Case.mk (fun _ => ?_) (fun _ => ?_) <;> conv => whnf)
    | (refine Way.fst ?_; conv => whnf)
  · exact Fin.rd (a + 1) ⟨trivial, trivial, trivial, trivial, trivial, trivial⟩ (by omega) ⟨by unfold signT; rw [if_pos (by assumption), (by assumption : signK _ = 10)]; rfl, rfl⟩
  · exact Fin.rd (a + 1) ⟨trivial, trivial, trivial, trivial, trivial, trivial⟩ (by omega) ⟨by unfold signT; rw [if_neg (by assumption)]; rfl, rfl⟩
theorem yword (l : List Int) (hl : l.length < 100000000) (a : Nat) (ha : a ≤ l.length) : Meth 38 l a (if see l (nameP l a) = 40 then ({ kind := 20, text := nameS l a } : Tok) else { kind := 1, text := nameS l a }).d (if see l (nameP l a) = 40 then nameP l a + 1 else nameP l a) := by
  have hp := nameP_le ha
  refine ⟨tok_scal _, spec_mk tab_ok Tryd.func38 (by rfl) rfl ?_⟩
  conv => whnf
  repeat' first
    | (refine Case.not ?_; conv => whnf)
    | (refine Case.yes ?_; conv => whnf)
    | (refine Case.no ?_; conv => whnf)
    | (refine Case.isTrue (by assumption) ?_; conv => whnf)
    | (refine Case.isFalse (by assumption) ?_; conv => whnf)
    | (refine Case.decT (by assumption) ?_; conv => whnf)
    | (refine Case.decF (by assumption) ?_; conv => whnf)
    | (refine Case.decT (by omega) ?_; conv => whnf)
    | (refine Case.decF (by omega) ?_; conv => whnf)
    | (refine Case.beqT (by omega) ?_; conv => whnf)
    | (refine Case.beqF (by omega) ?_; conv => whnf)
    | (refine (ypoints l hl a ha).call ?_; conv => whnf)
    | (refine (yat_at l (by omega) (nameP l a) (by omega) _ (nameP l a) (by omega) (by omega) (by omega)).call ⟨⟨rfl, rfl, trivial⟩, rfl, rfl⟩ ?_; conv => whnf)
    | (refine Num.id (by omega) (by omega) ?_; conv => whnf)
    | (refine Case.dec (fun _ => ?_) (fun _ => ?_) <;> conv => whnf)
    | (refine Case.beqI (fun _ => ?_) (fun _ => ?_) <;> conv => whnf)
    | (refine Case.mk (fun _ => ?_) (fun _ => ?_) <;> conv => whnf)
    | (refine Way.fst ?_; conv => whnf)
  · rw [if_pos (by assumption), if_pos (by assumption)]
    exact Fin.rd (nameP l a + 1) ⟨trivial, trivial, trivial, trivial, trivial, trivial⟩ (by omega) ⟨rfl, rfl⟩
  · rw [if_neg (by assumption), if_neg (by assumption)]
    exact Fin.rd (nameP l a) ⟨trivial, trivial, trivial, trivial, trivial, trivial⟩ (by omega) ⟨rfl, rfl⟩
/-- A method of the scanner that takes a number more. -/
def Meth1 (g : FuncId) (x : Int) (l : List Int) (a : Nat) (V : D) (p : Nat) : Prop := scalD V ∧ Spec P g [.ptr 0 0, int x] [some (rdr l a)] 0 (fun d H => d = V ∧ H = [some (rdr l p)])
theorem Meth1.call {g : FuncId} {x : Int} {l : List Int} {a p : Nat} {V : D} {E : List D} {H : Hp} {n : Nat} {K : KD} (h : Meth1 g x l a V p) (k : K V E (some (rdr l p) :: H) n) : Call P g [.ptr 0 0, int x] E (some (rdr l a) :: H) n K := by
  refine call_gen («as» := [.ptr 0 0, int x]) [0] [] h.2 (by simp) (by simp) (by simp) (by simp) ?_ ?_ ?_
  · unfold fitH fitH; exact ⟨⟨rfl, ⟨trivial, trivial, trivial⟩⟩, trivial⟩
  · exact ⟨Nat.zero_lt_one, trivial, trivial⟩
  · rintro d Hs' ⟨rfl, rfl⟩ _
    rw [ren_scal _ _ _ h.1, killsL_nil, killsH_nil]
    exact k
theorem ybehind (l : List Int) (hl : l.length < 100000000) (a : Nat) (ha : a < l.length) (x : Int) : Meth1 34 x l a ({ kind := x, text := nameS l (a + 1) } : Tok).d (nameP l (a + 1)) := by
  have hp := nameP_le (l := l) (p := a + 1) ha
  refine ⟨tok_scal _, spec_mk tab_ok Tryd.func34 (by rfl) rfl ?_⟩
  conv => whnf
  repeat' first
    | (refine Case.not ?_; conv => whnf)
    | (refine Case.yes ?_; conv => whnf)
    | (refine Case.no ?_; conv => whnf)
    | (refine Case.isTrue (by assumption) ?_; conv => whnf)
    | (refine Case.isFalse (by assumption) ?_; conv => whnf)
    | (refine Case.decT (by assumption) ?_; conv => whnf)
    | (refine Case.decF (by assumption) ?_; conv => whnf)
    | (refine Case.decT (by omega) ?_; conv => whnf)
    | (refine Case.decF (by omega) ?_; conv => whnf)
    | (refine Case.beqT (by omega) ?_; conv => whnf)
    | (refine Case.beqF (by omega) ?_; conv => whnf)
    | (refine (ypoints l hl (a + 1) (by omega)).call ?_; conv => whnf)
    | (refine Num.id (by omega) (by omega) ?_; conv => whnf)
    | (refine Case.dec (fun _ => ?_) (fun _ => ?_) <;> conv => whnf)
    | (refine Case.beqI (fun _ => ?_) (fun _ => ?_) <;> conv => whnf)
    | (refine Case.mk (fun _ => ?_) (fun _ => ?_) <;> conv => whnf)
    | (refine Way.fst ?_; conv => whnf)
  exact Fin.rd (nameP l (a + 1)) ⟨trivial, trivial, trivial, trivial, trivial, trivial⟩ (by omega) ⟨rfl, rfl⟩
structure YstI (l : List Int) (a : Nat) (s : Nat × List Int) : Prop where
  p : s.1 ≤ l.length
  b : s.2.length ≤ s.1
  run : ∀ f, l.length - s.1 < f → strRun l (see l a) f s.1 (bytesOf s.2) = strRun l (see l a) (l.length + 1) (a + 1) []
set_option maxHeartbeats 1000000 in
theorem yquoted (l : List Int) (hl : l.length < 100000000) (a : Nat) (ha : a < l.length) (hq : see l a = 34 ∨ see l a = 39) : Meth 31 l a (strT l a).d (strP l a) := by
  refine ⟨tok_scal _, spec_mk tab_ok Tryd.func31 (by rfl) rfl ?_⟩
  conv => whnf
  repeat' first
    | (refine Case.not ?_; conv => whnf)
    | (refine Case.yes ?_; conv => whnf)
    | (refine Case.no ?_; conv => whnf)
    | (refine Case.isTrue (by assumption) ?_; conv => whnf)
    | (refine Case.isFalse (by assumption) ?_; conv => whnf)
    | (refine Case.decT (by assumption) ?_; conv => whnf)
    | (refine Case.decF (by assumption) ?_; conv => whnf)
    | (refine Case.decT (by omega) ?_; conv => whnf)
    | (refine Case.decF (by omega) ?_; conv => whnf)
    | (refine Case.beqT (by omega) ?_; conv => whnf)
    | (refine Case.beqF (by omega) ?_; conv => whnf)
    | (refine (yat_at l (by omega) a (by omega) _ a (by omega) (by omega) (by omega)).call ⟨⟨rfl, rfl, trivial⟩, rfl, rfl⟩ ?_; conv => whnf)
    | (refine Num.id (by omega) (by omega) ?_; conv => whnf)
    | (refine Case.dec (fun _ => ?_) (fun _ => ?_) <;> conv => whnf)
    | (refine Case.beqI (fun _ => ?_) (fun _ => ?_) <;> conv => whnf)
    | (refine Case.mk (fun _ => ?_) (fun _ => ?_) <;> conv => whnf)
    | (refine Way.fst ?_; conv => whnf)
  refine step_loop tab_ok (fun s : Nat × List Int => padK [.ptr 0 0, .junk, .ptr 1 0, int (see l a), intsD s.2] 70) (fun s => [some (rdr l s.1), some tok0]) 1 (YstI l a) (fun s => l.length - s.1) (a + 1, []) ⟨by dsimp only; omega, by simp, fun f hf => strRun_fuel l _ _ _ _ _ hf (by dsimp only at hf; omega)⟩ (fun _ => rfl) ?_ ?_
  ·
    repeat' first | exact trivial | exact rfl | exact (by decide : (0 : Nat) < 1) | exact Nat.le_refl _ | exact Nat.zero_lt_succ _ | exact congrArg int (by (try dsimp only); omega) | exact congrArg bool (by (try dsimp only); simp; omega) | (show _ < List.length _; simp; done) | apply And.intro
  · rintro ⟨p, out⟩ ⟨h1, h2, h3⟩
    simp only at h1 h2 h3
    have e0 := h3 (l.length - p + 1) (by omega)
    rw [strRun] at e0
    have hg := see_ge l p
    have hg1 := see_ge l (p + 1)
    have hbl := bytesOf_le out
    dsimp only
    conv => whnf
    repeat' first
      | (refine Case.not ?_; conv => whnf)
      | (refine Case.yes ?_; conv => whnf)
      | (refine Case.no ?_; conv => whnf)
      | (refine Case.isTrue (by assumption) ?_; conv => whnf)
      | (refine Case.isFalse (by assumption) ?_; conv => whnf)
      | (refine Case.decT (by assumption) ?_; conv => whnf)
      | (refine Case.decF (by assumption) ?_; conv => whnf)
      | (refine Case.decT (by omega) ?_; conv => whnf)
      | (refine Case.decF (by omega) ?_; conv => whnf)
      | (refine Case.beqT (by omega) ?_; conv => whnf)
      | (refine Case.beqF (by omega) ?_; conv => whnf)
      | (refine (yat_at l (by omega) p (by omega) _ p (by omega) (by omega) (by omega)).call ⟨⟨rfl, rfl, trivial⟩, rfl, rfl⟩ ?_; conv => whnf)
      | (refine (yat_at l (by omega) (p + 1) (by omega) _ (p + 1) (by omega) (by omega) (by omega)).call ⟨⟨rfl, rfl, trivial⟩, rfl, rfl⟩ ?_; conv => whnf)
      | (refine (yescaped l (by omega) p (by omega)).call ?_; conv => whnf)
      | (refine Owes.mk (by simp [ptsF]; omega) ?_; conv => whnf)
      | (refine Owes.mk rfl ?_; conv => whnf)
      | (refine ybytes_call (by omega) (by omega) ?_; conv => whnf)
      | (refine AsBytes.mk (bytesOf out) rfl ?_; conv => whnf)
      | (refine Num.id (by omega) (by omega) ?_; conv => whnf)
      | (refine Case.dec (fun _ => ?_) (fun _ => ?_) <;> conv => whnf)
      | (refine Case.beqI (fun _ => ?_) (fun _ => ?_) <;> conv => whnf)
      | (refine Case.mk (fun _ => ?_) (fun _ => ?_) <;> conv => whnf)
      | (refine Way.fst ?_; conv => whnf)
    · rw [if_neg (by omega), if_neg (by omega), if_pos (by assumption)] at e0
      exact Fin.rd p (tok_scal { kind := 5 }) rfl ⟨by unfold strT; rw [← e0]; rfl, by unfold strP; rw [← e0]⟩
    · rw [if_pos (by omega)] at e0
      exact Fin.rd p (tok_scal { kind := 4, text := bytesOf out }) rfl ⟨by unfold strT; rw [← e0]; rfl, by unfold strP; rw [← e0]⟩
    · rw [if_neg (by omega), if_pos (by assumption)] at e0
      exact Fin.rd (p + 1) (tok_scal { kind := 4, text := bytesOf out }) rfl ⟨by unfold strT; rw [← e0]; rfl, by unfold strP; rw [← e0]⟩
    · rw [if_neg (by omega), if_neg (by assumption), if_neg (by assumption), if_pos (by assumption), if_neg (by omega), if_pos (by assumption)] at e0
      have h4 := see_lt (l := l) (i := p + 1) (by omega)
      refine ⟨(p + 2, out), ⟨by dsimp only; omega, by dsimp only; omega, fun f hf => ?_⟩, by dsimp only; omega, ?_⟩
      · dsimp only at hf ⊢
        rw [← e0]
        exact strRun_fuel l _ f _ _ _ hf (by omega)
      ·
        repeat' first | exact trivial | exact rfl | exact (by decide : (0 : Nat) < 1) | exact Nat.le_refl _ | exact Nat.zero_lt_succ _ | exact congrArg int (by (try dsimp only); omega) | exact congrArg bool (by (try dsimp only); simp; omega) | (show _ < List.length _; simp; done) | apply And.intro
    · rw [if_neg (by omega), if_neg (by assumption), if_neg (by assumption), if_pos (by assumption), if_pos (by omega)] at e0
      have h4 := see_lt (l := l) (i := p) (by omega)
      refine ⟨(p + 1, out), ⟨by dsimp only; omega, by dsimp only; omega, fun f hf => ?_⟩, by dsimp only; omega, ?_⟩
      · dsimp only at hf ⊢
        rw [← e0]
        exact strRun_fuel l _ f _ _ _ hf (by omega)
      ·
        repeat' first | exact trivial | exact rfl | exact (by decide : (0 : Nat) < 1) | exact Nat.le_refl _ | exact Nat.zero_lt_succ _ | exact congrArg int (by (try dsimp only); omega) | exact congrArg bool (by (try dsimp only); simp; omega) | (show _ < List.length _; simp; done) | apply And.intro
    · rw [if_neg (by omega), if_neg (by assumption), if_neg (by assumption), if_pos (by assumption), if_neg (by omega), if_neg (by assumption)] at e0
      have h4 := escapedP_le (escape_of (l := l) (p := p) (by assumption) (by omega) (by assumption))
      refine ⟨(escapedP l p, out ++ [escapedV l p]), ⟨by dsimp only; omega, by dsimp only; rw [List.length_append]; simp; omega, fun f hf => ?_⟩, by dsimp only; omega, ?_⟩
      · dsimp only at hf ⊢
        rw [bytesOf_snoc, ← e0]
        exact strRun_fuel l _ f _ _ _ hf (by omega)
      ·
        repeat' first | exact trivial | exact rfl | exact (by decide : (0 : Nat) < 1) | exact Nat.le_refl _ | exact Nat.zero_lt_succ _ | exact congrArg int (by (try dsimp only); omega) | exact congrArg bool (by (try dsimp only); simp; omega) | (show _ < List.length _; simp; done) | apply And.intro | exact congrArg (D.own _ _ _) (by simp [ptsF]; done) | exact congrArg int (by unfold ptsF; (repeat' split) <;> omega)
    · rw [if_neg (by omega), if_neg (by assumption), if_neg (by assumption), if_neg (by assumption)] at e0
      have h4 := see_lt (l := l) (i := p) (by omega)
      refine ⟨(p + 1, out ++ [see l p]), ⟨by dsimp only; omega, by dsimp only; rw [List.length_append]; simp; omega, fun f hf => ?_⟩, by dsimp only; omega, ?_⟩
      · dsimp only at hf ⊢
        rw [bytesOf_snoc, ← e0]
        exact strRun_fuel l _ f _ _ _ hf (by omega)
      ·
        repeat' first | exact trivial | exact rfl | exact (by decide : (0 : Nat) < 1) | exact Nat.le_refl _ | exact Nat.zero_lt_succ _ | exact congrArg int (by (try dsimp only); omega) | exact congrArg bool (by (try dsimp only); simp; omega) | (show _ < List.length _; simp; done) | apply And.intro | exact congrArg (D.own _ _ _) (by simp [ptsF]; done) | exact congrArg int (by unfold ptsF; (repeat' split) <;> omega)
end Go.Proofs.YtdenafhfngnlfaaDoor.Aw

