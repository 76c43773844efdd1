/- The statement ValueWide of chapter 7. -/
import Derived.Test.YtofjmhigfihhbaaDoorAwW
import Derived.Test.YtofjmhigfihhbaaDoorXvL
import Derived.Test.YtofjmhigfihhbaaDoorXlR
namespace Go.Proofs.YtofjmhigfihhbaaDoor.Aw
open Go Go.RowKit Go.Lib
set_option linter.unusedVariables false
set_option linter.unusedSimpArgs false
set_option maxRecDepth 100000
def wideL : List (List UInt8) := [[105, 110, 104, 101, 114, 105, 116], [105, 110, 105, 116, 105, 97, 108], [117, 110, 115, 101, 116]]
def boolsV (l : List Bool) : List (List F) := l.map fun b => [.v (.bool b)]
theorem boolsV_get {l : List Bool} {i : Nat} {b : Bool} (h : l[i]? = some b) : (boolsV l)[i]? = some [.v (.bool b)] := by simp [boolsV, h]
theorem boolsV_row {l : List Bool} : ∀ e ∈ boolsV l, e.length = 1 := fun e h => by
  unfold boolsV at h
  obtain ⟨b, _, rfl⟩ := List.mem_map.1 h
  rfl
theorem wrapU8 {x : Int} (h1 : 0 ≤ x) (h2 : x < 256) : IntKind.u8.wrap x = x := by
  have e1 : (2 ^ IntKind.u8.bits : Int) = 256 := by decide
  unfold IntKind.wrap
  rw [e1]
  simp only [show IntKind.u8.signed = false from rfl, Bool.false_and, Bool.false_eq_true, if_false]
  omega
theorem Num.idU8 {x : Int} {K : Int → Prop} (h1 : 0 ≤ x) (h2 : x < 256) (h : K x) : Num .u8 x K := Num.wrap (by rw [wrapU8 h1 h2]; exact h)
structure WidI (w : List UInt8) (s : Nat × List UInt8) : Prop where
  le : s.1 ≤ w.length
  len : s.2.length = w.length
  tl : s.2.drop s.1 = w.drop s.1
  low : lower s.2 = w
theorem wide_all : ∀ q : Nat, q < 3 → ∀ i : Nat, i < 8 → Giv.wordV (i : Int) wideL[q]! = (7 + (q : Int), 0, true) := by decide +kernel
theorem wide_t {p : Int} {q : Nat} {bs : List UInt8} (hq : q < 3) (hp : 0 ≤ p ∧ p < 8) (h : lower bs = wideL[q]!) : parseW p [{ kind := 1, text := bs }] = (7 + (q : Int), 0, true) := by
  show (if 0 ≤ p ∧ p < 8 then parse1 p _ else (0, 0, false)) = _
  unfold parse1
  rw [if_pos hp, if_pos rfl]
  unfold wordW
  rw [h]
  obtain ⟨i, rfl⟩ : ∃ i : Nat, p = i := ⟨p.toNat, by omega⟩
  exact wide_all q hq i (by omega)
theorem wide_f {p : Int} {bs : List UInt8} (hp : ¬ (0 ≤ p ∧ p < 8)) : parseW p [{ kind := 1, text := bs }] = (0, 0, false) := by
  show (if 0 ≤ p ∧ p < 8 then parse1 p _ else (0, 0, false)) = _
  rw [if_neg hp]
theorem lowU {c : UInt8} (h : 97 ≤ c.toNat ∧ c.toNat ≤ 122) : Low.lowC (c - 32) = Low.lowC c ∧ (c - 32).toNat = c.toNat - 32 := by
  have : ∀ n : _root_.Fin 26, Low.lowC (UInt8.ofNat (97 + n.val) - 32) = Low.lowC (UInt8.ofNat (97 + n.val)) ∧ (UInt8.ofNat (97 + n.val) - 32).toNat = (UInt8.ofNat (97 + n.val)).toNat - 32 := by decide +kernel
  have h2 := this ⟨c.toNat - 97, by omega⟩
  have e : UInt8.ofNat (97 + (c.toNat - 97)) = c := by
    rw [show 97 + (c.toNat - 97) = c.toNat by omega]
    exact UInt8.ofNat_toNat
  simp only [e] at h2
  exact h2
theorem WidI.up {w bs : List UInt8} {i : Nat} {c : UInt8} (h : WidI w (i, bs)) (hi : i < w.length) (hc : bs[i]? = some c) (hl : 97 ≤ c.toNat ∧ c.toNat ≤ 122) : WidI w (i + 1, bs.set i (c - 32)) := by
  obtain ⟨h1, h2, h3, h4⟩ := h
  dsimp only at h1 h2 h3 h4
  refine ⟨hi, by simpa using h2, ?_, ?_⟩
  · dsimp only
    have := congrArg (List.drop 1) h3
    rw [List.drop_drop, List.drop_drop] at this
    rw [List.drop_set_of_lt (by omega)]
    exact this
  · dsimp only
    rw [← h4]
    unfold lower
    rw [List.map_set, (lowU hl).1]
    have hi2 : i < bs.length := by omega
    rw [List.getElem?_eq_getElem hi2] at hc
    cases hc
    apply List.ext_getElem
    · simp
    · intro n h5 h6
      rw [List.getElem_set]
      split
      · rename_i e; subst e; simp
      · rfl
theorem WidI.go {w bs : List UInt8} {i : Nat} (h : WidI w (i, bs)) (hi : i < w.length) : WidI w (i + 1, bs) := by
  obtain ⟨h1, h2, h3, h4⟩ := h
  dsimp only at h1 h2 h3 h4
  refine ⟨hi, h2, ?_, h4⟩
  have := congrArg (List.drop 1) h3
  rw [List.drop_drop, List.drop_drop] at this
  exact this
set_option maxHeartbeats 4000000 in
theorem valueWide_0 (p : Int) (u : List Bool) : Pure 4 [int p, int 0, .f (.sl (boolsV u))] (bool true) := by
  have hul : (boolsV u).length = u.length := List.length_map ..
  refine .mk trivial (spec_mk tab_ok Tryd.func4 (by rfl) rfl ?_)
  conv => whnf
  repeat' first
    | (refine Case.not ?_; conv => whnf)
    | (refine Case.yes ?_; conv => whnf)
    | (refine Case.no ?_; conv => whnf)
    | (refine Case.isTrue (by assumption) ?_; conv => whnf)
    | (refine Case.isFalse (by assumption) ?_; conv => whnf)
    | (refine Case.decT (by assumption) ?_; conv => whnf)
    | (refine Case.decF (by assumption) ?_; conv => whnf)
    | (refine Case.decT (by omega) ?_; conv => whnf)
    | (refine Case.decF (by omega) ?_; conv => whnf)
    | (refine Case.beqT (by omega) ?_; conv => whnf)
    | (refine Case.beqF (by omega) ?_; conv => whnf)
    | (refine Case.strT (by assumption) ?_; conv => whnf)
    | (refine Case.strF (by assumption) ?_; conv => whnf)
    | (refine Case.strF (by simp only [*]; decide) ?_; conv => whnf)
    | (refine valive_spec.call rfl ?_; conv => whnf)
    | (refine Elem.mk 0 _ rfl rfl ?_; conv => whnf)
    | (refine Way.snd ?_; conv => whnf)
    | (refine Owes.mk (by decide) ?_; conv => whnf)
    | (refine step_kinds 2 ?hk ?_; (case hk => decide +kernel); conv => whnf)
    | (refine step_kinds 3 ?hk ?_; (case hk => decide +kernel); conv => whnf)
    | (refine step_auto 2 ?hk ?_; (case hk => decide +kernel); conv => whnf)
    | (refine step_auto 3 ?hk ?_; (case hk => decide +kernel); conv => whnf)
    | (refine Num.id (by omega) (by omega) ?_; conv => whnf)
    | (refine Case.strI (fun _ => ?_) (fun _ => ?_) <;> conv => whnf)
    | (refine Both.mk ?_ ?_ <;> conv => whnf)
    | (refine Case.dec (fun _ => ?_) (fun _ => ?_) <;> conv => whnf)
    | (refine Case.beqI (fun _ => ?_) (fun _ => ?_) <;> conv => whnf)
    | (refine Case.mk (fun _ => ?_) (fun _ => ?_) <;> conv => whnf)
    | (refine Way.fst ?_; conv => whnf)
  refine step_loop tab_ok (fun s : Nat × List UInt8 => padK [int p, int 0, .f (.sl (boolsV u)), .junk, .junk, .junk, .junk, bool true, .junk, .own 1 5 1 (s.2.map byteRow), int s.1] 103) (fun _ => []) 2 (WidI wideL[0]!) (fun s => 7 - s.1) (0, wideL[0]!) ⟨by simp, rfl, rfl, by decide⟩ (fun _ => rfl) ?_ ?_
  ·
    repeat' first | exact trivial | exact rfl | exact Nat.zero_le _ | exact Nat.zero_lt_succ _ | exact (by decide : (0 : Nat) < 1) | exact (by decide : (1 : Nat) < 4) | exact (by decide : (2 : Nat) < 4) | exact (by decide : (3 : Nat) < 4) | exact (by decide : (1 : Nat) < 2) | exact (by decide : (2 : Nat) < 3) | exact congrArg int (by (try dsimp only); omega) | exact congrArg bool (by (try dsimp only); simp; omega) | (show _ < List.length _; simp; done) | apply And.intro
  · rintro ⟨i, bs⟩ hI
    have h2 := hI.len
    have h3 := hI.tl
    have h4 := hI.low
    dsimp only at h2 h3 h4 ⊢
    have hw : wideL[0]!.length = 7 := rfl
    have hbl : (bs.map byteRow).length = bs.length := List.length_map ..
    by_cases h0 : i < 7 ∧ i < u.length
    · obtain ⟨hi, hiu⟩ := h0
      obtain ⟨x, hx⟩ : ∃ x, u[i]? = some x := ⟨_, List.getElem?_eq_getElem hiu⟩
      obtain ⟨c, hc⟩ : ∃ c, bs[i]? = some c := ⟨_, List.getElem?_eq_getElem (by omega)⟩
      have hcw : wideL[0]![i]? = some c := by
        have := congrArg (·[0]?) h3
        simpa [List.getElem?_drop, hc] using this.symm
      have hcl : 97 ≤ c.toNat ∧ c.toNat ≤ 122 := by
        have : ∀ c ∈ wideL[0]!, 97 ≤ c.toNat ∧ c.toNat ≤ 122 := by decide
        exact this c (List.mem_of_getElem? hcw)
      have hg := boolsV_get hx
      have hcb : (bs.map byteRow)[i]? = some [.v (.int .u8 (c.toNat : Int))] := by simp [hc, byteRow]
      have hcb' : (bs.map byteRow)[(i : Int).toNat]? = some [.v (.int .u8 (c.toNat : Int))] := hcb
      have hU := hI.up (by omega) hc hcl
      have hG := hI.go (by omega)
      clear h3 h4
      conv => whnf
      cases x
      ·
        repeat' first
          | (refine Case.not ?_; conv => whnf)
          | (refine Case.yes ?_; conv => whnf)
          | (refine Case.no ?_; conv => whnf)
          | (refine Case.isTrue (by assumption) ?_; conv => whnf)
          | (refine Case.isFalse (by assumption) ?_; conv => whnf)
          | (refine Case.decT (by assumption) ?_; conv => whnf)
          | (refine Case.decF (by assumption) ?_; conv => whnf)
          | (refine Case.decT (by omega) ?_; conv => whnf)
          | (refine Case.decF (by omega) ?_; conv => whnf)
          | (refine Case.beqT (by omega) ?_; conv => whnf)
          | (refine Case.beqF (by omega) ?_; conv => whnf)
          | (refine Case.strT (by assumption) ?_; conv => whnf)
          | (refine Case.strF (by assumption) ?_; conv => whnf)
          | (refine Case.strF (by simp only [*]; decide) ?_; conv => whnf)
          | (refine Owes.mk boolsV_row ?_; conv => whnf)
          | (refine Elem.mk i _ rfl hg ?_; conv => whnf)
          | (refine Elem.mk i _ rfl hcb ?_; conv => whnf)
          | (rw [hcb']; conv => whnf)
          | (refine Owes.mk rfl ?_; conv => whnf)
          | (refine step_kinds 2 ?hk ?_; (case hk => decide +kernel); conv => whnf)
          | (refine step_kinds 3 ?hk ?_; (case hk => decide +kernel); conv => whnf)
          | (refine step_auto 2 ?hk ?_; (case hk => decide +kernel); conv => whnf)
          | (refine step_auto 3 ?hk ?_; (case hk => decide +kernel); conv => whnf)
          | (refine Num.id (by omega) (by omega) ?_; conv => whnf)
          | (refine Case.strI (fun _ => ?_) (fun _ => ?_) <;> conv => whnf)
          | (refine Both.mk ?_ ?_ <;> conv => whnf)
          | (refine Case.dec (fun _ => ?_) (fun _ => ?_) <;> conv => whnf)
          | (refine Case.beqI (fun _ => ?_) (fun _ => ?_) <;> conv => whnf)
          | (refine Case.mk (fun _ => ?_) (fun _ => ?_) <;> conv => whnf)
          | (refine Way.fst ?_; conv => whnf)
        refine ⟨(i + 1, bs), hG, by dsimp only; omega, ?_⟩
        repeat' first | exact trivial | exact rfl | exact Nat.zero_le _ | exact Nat.zero_lt_succ _ | exact (by decide : (0 : Nat) < 1) | exact (by decide : (1 : Nat) < 4) | exact (by decide : (2 : Nat) < 4) | exact (by decide : (3 : Nat) < 4) | exact (by decide : (1 : Nat) < 2) | exact (by decide : (2 : Nat) < 3) | exact congrArg int (by (try dsimp only); omega) | exact congrArg bool (by (try dsimp only); simp; omega) | (show _ < List.length _; simp; done) | apply And.intro
      ·
        repeat' first
          | (refine Case.not ?_; conv => whnf)
          | (refine Case.yes ?_; conv => whnf)
          | (refine Case.no ?_; conv => whnf)
          | (refine Case.isTrue (by assumption) ?_; conv => whnf)
          | (refine Case.isFalse (by assumption) ?_; conv => whnf)
          | (refine Case.decT (by assumption) ?_; conv => whnf)
          | (refine Case.decF (by assumption) ?_; conv => whnf)
          | (refine Case.decT (by omega) ?_; conv => whnf)
          | (refine Case.decF (by omega) ?_; conv => whnf)
          | (refine Case.beqT (by omega) ?_; conv => whnf)
          | (refine Case.beqF (by omega) ?_; conv => whnf)
          | (refine Case.strT (by assumption) ?_; conv => whnf)
          | (refine Case.strF (by assumption) ?_; conv => whnf)
          | (refine Case.strF (by simp only [*]; decide) ?_; conv => whnf)
          | (refine Owes.mk boolsV_row ?_; conv => whnf)
          | (refine Elem.mk i _ rfl hg ?_; conv => whnf)
          | (refine Elem.mk i _ rfl hcb ?_; conv => whnf)
          | (rw [hcb']; conv => whnf)
          | (refine Owes.mk rfl ?_; conv => whnf)
          | (refine Num.idU8 (by omega) (by omega) ?_; conv => whnf)
          | (refine step_kinds 2 ?hk ?_; (case hk => decide +kernel); conv => whnf)
          | (refine step_kinds 3 ?hk ?_; (case hk => decide +kernel); conv => whnf)
          | (refine step_auto 2 ?hk ?_; (case hk => decide +kernel); conv => whnf)
          | (refine step_auto 3 ?hk ?_; (case hk => decide +kernel); conv => whnf)
          | (refine Num.id (by omega) (by omega) ?_; conv => whnf)
          | (refine Case.strI (fun _ => ?_) (fun _ => ?_) <;> conv => whnf)
          | (refine Both.mk ?_ ?_ <;> conv => whnf)
          | (refine Case.dec (fun _ => ?_) (fun _ => ?_) <;> conv => whnf)
          | (refine Case.beqI (fun _ => ?_) (fun _ => ?_) <;> conv => whnf)
          | (refine Case.mk (fun _ => ?_) (fun _ => ?_) <;> conv => whnf)
          | (refine Way.fst ?_; conv => whnf)
        have er : (bs.map byteRow).set (i : Int).toNat [.v (.int .u8 ((c.toNat : Int) - 32))] = (bs.set i (c - 32)).map byteRow := by
          rw [List.map_set, Int.toNat_natCast]
          unfold byteRow
          rw [(lowU hcl).2, show (((c.toNat - 32 : Nat)) : Int) = (c.toNat : Int) - 32 by omega]
        refine ⟨(i + 1, bs.set i (c - 32)), hU, by dsimp only; omega, ?_⟩
        dsimp only
        rw [← er]
        repeat' first | exact trivial | exact rfl | exact Nat.zero_le _ | exact Nat.zero_lt_succ _ | exact (by decide : (0 : Nat) < 1) | exact (by decide : (1 : Nat) < 4) | exact (by decide : (2 : Nat) < 4) | exact (by decide : (3 : Nat) < 4) | exact (by decide : (1 : Nat) < 2) | exact (by decide : (2 : Nat) < 3) | exact congrArg int (by (try dsimp only); omega) | exact congrArg bool (by (try dsimp only); simp; omega) | (show _ < List.length _; simp; done) | apply And.intro
    · conv => whnf
      have h0' : ¬ i < 7 ∨ (i < 7 ∧ ¬ i < u.length) := by omega
      clear h0 h3 hI
      rcases h0' with h7 | ⟨h7, h8⟩
      ·
        · have c2 := vparse_spec p [{ kind := 1, text := bs }, { kind := 1, text := bs }] (by simp) (by simp; omega)
          rw [parseW_len (by simp)] at c2
          have c1 := vparse_spec p [{ kind := 1, text := bs }] (by simp) (by simp; omega)
          by_cases hp : 0 ≤ p ∧ p < 8
          · rw [wide_t (q := 0) (by omega) hp h4] at c1
            obtain ⟨hp1, hp2⟩ := hp
            repeat' first
              | (refine Case.not ?_; conv => whnf)
              | (refine Case.yes ?_; conv => whnf)
              | (refine Case.no ?_; conv => whnf)
              | (refine Case.isTrue (by assumption) ?_; conv => whnf)
              | (refine Case.isFalse (by assumption) ?_; conv => whnf)
              | (refine Case.decT (by assumption) ?_; conv => whnf)
              | (refine Case.decF (by assumption) ?_; conv => whnf)
              | (refine Case.decT (by omega) ?_; conv => whnf)
              | (refine Case.decF (by omega) ?_; conv => whnf)
              | (refine Case.beqT (by omega) ?_; conv => whnf)
              | (refine Case.beqF (by omega) ?_; conv => whnf)
              | (refine Case.strT (by assumption) ?_; conv => whnf)
              | (refine Case.strF (by assumption) ?_; conv => whnf)
              | (refine Case.strF (by simp only [*]; decide) ?_; conv => whnf)
              | (refine Owes.mk rfl ?_; conv => whnf)
              | (refine AsBytes.mk bs rfl ?_; conv => whnf)
              | (refine c1.call ⟨rfl, rfl, rfl⟩ ?_; conv => whnf)
              | (refine c1.callB ⟨rfl, rfl, rfl⟩ ?_; conv => whnf)
              | (refine c2.call ⟨rfl, rfl, rfl⟩ ?_; conv => whnf)
              | (refine c2.callB ⟨rfl, rfl, rfl⟩ ?_; conv => whnf)
              | (refine Case.isTrue (by decide) ?_; conv => whnf)
              | (refine Case.isFalse (by decide) ?_; conv => whnf)
              | (refine step_kinds 2 ?hk ?_; (case hk => decide +kernel); conv => whnf)
              | (refine step_kinds 3 ?hk ?_; (case hk => decide +kernel); conv => whnf)
              | (refine step_auto 2 ?hk ?_; (case hk => decide +kernel); conv => whnf)
              | (refine step_auto 3 ?hk ?_; (case hk => decide +kernel); conv => whnf)
              | (refine Num.id (by omega) (by omega) ?_; conv => whnf)
              | (refine Case.strI (fun _ => ?_) (fun _ => ?_) <;> conv => whnf)
              | (refine Both.mk ?_ ?_ <;> conv => whnf)
              | (refine Case.dec (fun _ => ?_) (fun _ => ?_) <;> conv => whnf)
              | (refine Case.beqI (fun _ => ?_) (fun _ => ?_) <;> conv => whnf)
              | (refine Case.mk (fun _ => ?_) (fun _ => ?_) <;> conv => whnf)
              | (refine Way.fst ?_; conv => whnf)
            all_goals first | exact Fin.isB rfl | (exfalso; rename_i hh; exact hh (decide_eq_true hp2).symm) | (exfalso; rename_i hh; exact hh (decide_eq_false (by omega)).symm)
          · rw [wide_f hp] at c1
            have hp' : p < 0 ∨ 8 ≤ p := by omega
            clear hp
            rcases hp' with hp | hp
            ·
              repeat' first
                | (refine Case.not ?_; conv => whnf)
                | (refine Case.yes ?_; conv => whnf)
                | (refine Case.no ?_; conv => whnf)
                | (refine Case.isTrue (by assumption) ?_; conv => whnf)
                | (refine Case.isFalse (by assumption) ?_; conv => whnf)
                | (refine Case.decT (by assumption) ?_; conv => whnf)
                | (refine Case.decF (by assumption) ?_; conv => whnf)
                | (refine Case.decT (by omega) ?_; conv => whnf)
                | (refine Case.decF (by omega) ?_; conv => whnf)
                | (refine Case.beqT (by omega) ?_; conv => whnf)
                | (refine Case.beqF (by omega) ?_; conv => whnf)
                | (refine Case.strT (by assumption) ?_; conv => whnf)
                | (refine Case.strF (by assumption) ?_; conv => whnf)
                | (refine Case.strF (by simp only [*]; decide) ?_; conv => whnf)
                | (refine Owes.mk rfl ?_; conv => whnf)
                | (refine AsBytes.mk bs rfl ?_; conv => whnf)
                | (refine c1.call ⟨rfl, rfl, rfl⟩ ?_; conv => whnf)
                | (refine c1.callB ⟨rfl, rfl, rfl⟩ ?_; conv => whnf)
                | (refine c2.call ⟨rfl, rfl, rfl⟩ ?_; conv => whnf)
                | (refine c2.callB ⟨rfl, rfl, rfl⟩ ?_; conv => whnf)
                | (refine Case.isTrue (by decide) ?_; conv => whnf)
                | (refine Case.isFalse (by decide) ?_; conv => whnf)
                | (refine step_kinds 2 ?hk ?_; (case hk => decide +kernel); conv => whnf)
                | (refine step_kinds 3 ?hk ?_; (case hk => decide +kernel); conv => whnf)
                | (refine step_auto 2 ?hk ?_; (case hk => decide +kernel); conv => whnf)
                | (refine step_auto 3 ?hk ?_; (case hk => decide +kernel); conv => whnf)
                | (refine Num.id (by omega) (by omega) ?_; conv => whnf)
                | (refine Case.strI (fun _ => ?_) (fun _ => ?_) <;> conv => whnf)
                | (refine Both.mk ?_ ?_ <;> conv => whnf)
                | (refine Case.dec (fun _ => ?_) (fun _ => ?_) <;> conv => whnf)
                | (refine Case.beqI (fun _ => ?_) (fun _ => ?_) <;> conv => whnf)
                | (refine Case.mk (fun _ => ?_) (fun _ => ?_) <;> conv => whnf)
                | (refine Way.fst ?_; conv => whnf)
              all_goals first | exact Fin.isB rfl | (exfalso; rename_i hh; exact hh (decide_eq_true hp2).symm) | (exfalso; rename_i hh; exact hh (decide_eq_false (by omega)).symm)
            ·
              repeat' first
                | (refine Case.not ?_; conv => whnf)
                | (refine Case.yes ?_; conv => whnf)
                | (refine Case.no ?_; conv => whnf)
                | (refine Case.isTrue (by assumption) ?_; conv => whnf)
                | (refine Case.isFalse (by assumption) ?_; conv => whnf)
                | (refine Case.decT (by assumption) ?_; conv => whnf)
                | (refine Case.decF (by assumption) ?_; conv => whnf)
                | (refine Case.decT (by omega) ?_; conv => whnf)
                | (refine Case.decF (by omega) ?_; conv => whnf)
                | (refine Case.beqT (by omega) ?_; conv => whnf)
                | (refine Case.beqF (by omega) ?_; conv => whnf)
                | (refine Case.strT (by assumption) ?_; conv => whnf)
                | (refine Case.strF (by assumption) ?_; conv => whnf)
                | (refine Case.strF (by simp only [*]; decide) ?_; conv => whnf)
                | (refine Owes.mk rfl ?_; conv => whnf)
                | (refine AsBytes.mk bs rfl ?_; conv => whnf)
                | (refine c1.call ⟨rfl, rfl, rfl⟩ ?_; conv => whnf)
                | (refine c1.callB ⟨rfl, rfl, rfl⟩ ?_; conv => whnf)
                | (refine c2.call ⟨rfl, rfl, rfl⟩ ?_; conv => whnf)
                | (refine c2.callB ⟨rfl, rfl, rfl⟩ ?_; conv => whnf)
                | (refine Case.isTrue (by decide) ?_; conv => whnf)
                | (refine Case.isFalse (by decide) ?_; conv => whnf)
                | (refine step_kinds 2 ?hk ?_; (case hk => decide +kernel); conv => whnf)
                | (refine step_kinds 3 ?hk ?_; (case hk => decide +kernel); conv => whnf)
                | (refine step_auto 2 ?hk ?_; (case hk => decide +kernel); conv => whnf)
                | (refine step_auto 3 ?hk ?_; (case hk => decide +kernel); conv => whnf)
                | (refine Num.id (by omega) (by omega) ?_; conv => whnf)
                | (refine Case.strI (fun _ => ?_) (fun _ => ?_) <;> conv => whnf)
                | (refine Both.mk ?_ ?_ <;> conv => whnf)
                | (refine Case.dec (fun _ => ?_) (fun _ => ?_) <;> conv => whnf)
                | (refine Case.beqI (fun _ => ?_) (fun _ => ?_) <;> conv => whnf)
                | (refine Case.mk (fun _ => ?_) (fun _ => ?_) <;> conv => whnf)
                | (refine Way.fst ?_; conv => whnf)
              all_goals first | exact Fin.isB rfl | (exfalso; rename_i hh; exact hh (decide_eq_true hp2).symm) | (exfalso; rename_i hh; exact hh (decide_eq_false (by omega)).symm)
      ·
        · have c2 := vparse_spec p [{ kind := 1, text := bs }, { kind := 1, text := bs }] (by simp) (by simp; omega)
          rw [parseW_len (by simp)] at c2
          have c1 := vparse_spec p [{ kind := 1, text := bs }] (by simp) (by simp; omega)
          by_cases hp : 0 ≤ p ∧ p < 8
          · rw [wide_t (q := 0) (by omega) hp h4] at c1
            obtain ⟨hp1, hp2⟩ := hp
            repeat' first
              | (refine Case.not ?_; conv => whnf)
              | (refine Case.yes ?_; conv => whnf)
              | (refine Case.no ?_; conv => whnf)
              | (refine Case.isTrue (by assumption) ?_; conv => whnf)
              | (refine Case.isFalse (by assumption) ?_; conv => whnf)
              | (refine Case.decT (by assumption) ?_; conv => whnf)
              | (refine Case.decF (by assumption) ?_; conv => whnf)
              | (refine Case.decT (by omega) ?_; conv => whnf)
              | (refine Case.decF (by omega) ?_; conv => whnf)
              | (refine Case.beqT (by omega) ?_; conv => whnf)
              | (refine Case.beqF (by omega) ?_; conv => whnf)
              | (refine Case.strT (by assumption) ?_; conv => whnf)
              | (refine Case.strF (by assumption) ?_; conv => whnf)
              | (refine Case.strF (by simp only [*]; decide) ?_; conv => whnf)
              | (refine Owes.mk rfl ?_; conv => whnf)
              | (refine AsBytes.mk bs rfl ?_; conv => whnf)
              | (refine c1.call ⟨rfl, rfl, rfl⟩ ?_; conv => whnf)
              | (refine c1.callB ⟨rfl, rfl, rfl⟩ ?_; conv => whnf)
              | (refine c2.call ⟨rfl, rfl, rfl⟩ ?_; conv => whnf)
              | (refine c2.callB ⟨rfl, rfl, rfl⟩ ?_; conv => whnf)
              | (refine Case.isTrue (by decide) ?_; conv => whnf)
              | (refine Case.isFalse (by decide) ?_; conv => whnf)
              | (refine step_kinds 2 ?hk ?_; (case hk => decide +kernel); conv => whnf)
              | (refine step_kinds 3 ?hk ?_; (case hk => decide +kernel); conv => whnf)
              | (refine step_auto 2 ?hk ?_; (case hk => decide +kernel); conv => whnf)
              | (refine step_auto 3 ?hk ?_; (case hk => decide +kernel); conv => whnf)
              | (refine Num.id (by omega) (by omega) ?_; conv => whnf)
              | (refine Case.strI (fun _ => ?_) (fun _ => ?_) <;> conv => whnf)
              | (refine Both.mk ?_ ?_ <;> conv => whnf)
              | (refine Case.dec (fun _ => ?_) (fun _ => ?_) <;> conv => whnf)
              | (refine Case.beqI (fun _ => ?_) (fun _ => ?_) <;> conv => whnf)
              | (refine Case.mk (fun _ => ?_) (fun _ => ?_) <;> conv => whnf)
              | (refine Way.fst ?_; conv => whnf)
            all_goals first | exact Fin.isB rfl | (exfalso; rename_i hh; exact hh (decide_eq_true hp2).symm) | (exfalso; rename_i hh; exact hh (decide_eq_false (by omega)).symm)
          · rw [wide_f hp] at c1
            have hp' : p < 0 ∨ 8 ≤ p := by omega
            clear hp
            rcases hp' with hp | hp
            ·
              repeat' first
                | (refine Case.not ?_; conv => whnf)
                | (refine Case.yes ?_; conv => whnf)
                | (refine Case.no ?_; conv => whnf)
                | (refine Case.isTrue (by assumption) ?_; conv => whnf)
                | (refine Case.isFalse (by assumption) ?_; conv => whnf)
                | (refine Case.decT (by assumption) ?_; conv => whnf)
                | (refine Case.decF (by assumption) ?_; conv => whnf)
                | (refine Case.decT (by omega) ?_; conv => whnf)
                | (refine Case.decF (by omega) ?_; conv => whnf)
                | (refine Case.beqT (by omega) ?_; conv => whnf)
                | (refine Case.beqF (by omega) ?_; conv => whnf)
                | (refine Case.strT (by assumption) ?_; conv => whnf)
                | (refine Case.strF (by assumption) ?_; conv => whnf)
                | (refine Case.strF (by simp only [*]; decide) ?_; conv => whnf)
                | (refine Owes.mk rfl ?_; conv => whnf)
                | (refine AsBytes.mk bs rfl ?_; conv => whnf)
                | (refine c1.call ⟨rfl, rfl, rfl⟩ ?_; conv => whnf)
                | (refine c1.callB ⟨rfl, rfl, rfl⟩ ?_; conv => whnf)
                | (refine c2.call ⟨rfl, rfl, rfl⟩ ?_; conv => whnf)
                | (refine c2.callB ⟨rfl, rfl, rfl⟩ ?_; conv => whnf)
                | (refine Case.isTrue (by decide) ?_; conv => whnf)
                | (refine Case.isFalse (by decide) ?_; conv => whnf)
                | (refine step_kinds 2 ?hk ?_; (case hk => decide +kernel); conv => whnf)
                | (refine step_kinds 3 ?hk ?_; (case hk => decide +kernel); conv => whnf)
                | (refine step_auto 2 ?hk ?_; (case hk => decide +kernel); conv => whnf)
                | (refine step_auto 3 ?hk ?_; (case hk => decide +kernel); conv => whnf)
                | (refine Num.id (by omega) (by omega) ?_; conv => whnf)
                | (refine Case.strI (fun _ => ?_) (fun _ => ?_) <;> conv => whnf)
                | (refine Both.mk ?_ ?_ <;> conv => whnf)
                | (refine Case.dec (fun _ => ?_) (fun _ => ?_) <;> conv => whnf)
                | (refine Case.beqI (fun _ => ?_) (fun _ => ?_) <;> conv => whnf)
                | (refine Case.mk (fun _ => ?_) (fun _ => ?_) <;> conv => whnf)
                | (refine Way.fst ?_; conv => whnf)
              all_goals first | exact Fin.isB rfl | (exfalso; rename_i hh; exact hh (decide_eq_true hp2).symm) | (exfalso; rename_i hh; exact hh (decide_eq_false (by omega)).symm)
            ·
              repeat' first
                | (refine Case.not ?_; conv => whnf)
                | (refine Case.yes ?_; conv => whnf)
                | (refine Case.no ?_; conv => whnf)
                | (refine Case.isTrue (by assumption) ?_; conv => whnf)
                | (refine Case.isFalse (by assumption) ?_; conv => whnf)
                | (refine Case.decT (by assumption) ?_; conv => whnf)
                | (refine Case.decF (by assumption) ?_; conv => whnf)
                | (refine Case.decT (by omega) ?_; conv => whnf)
                | (refine Case.decF (by omega) ?_; conv => whnf)
                | (refine Case.beqT (by omega) ?_; conv => whnf)
                | (refine Case.beqF (by omega) ?_; conv => whnf)
                | (refine Case.strT (by assumption) ?_; conv => whnf)
                | (refine Case.strF (by assumption) ?_; conv => whnf)
                | (refine Case.strF (by simp only [*]; decide) ?_; conv => whnf)
                | (refine Owes.mk rfl ?_; conv => whnf)
                | (refine AsBytes.mk bs rfl ?_; conv => whnf)
                | (refine c1.call ⟨rfl, rfl, rfl⟩ ?_; conv => whnf)
                | (refine c1.callB ⟨rfl, rfl, rfl⟩ ?_; conv => whnf)
                | (refine c2.call ⟨rfl, rfl, rfl⟩ ?_; conv => whnf)
                | (refine c2.callB ⟨rfl, rfl, rfl⟩ ?_; conv => whnf)
                | (refine Case.isTrue (by decide) ?_; conv => whnf)
                | (refine Case.isFalse (by decide) ?_; conv => whnf)
                | (refine step_kinds 2 ?hk ?_; (case hk => decide +kernel); conv => whnf)
                | (refine step_kinds 3 ?hk ?_; (case hk => decide +kernel); conv => whnf)
                | (refine step_auto 2 ?hk ?_; (case hk => decide +kernel); conv => whnf)
                | (refine step_auto 3 ?hk ?_; (case hk => decide +kernel); conv => whnf)
                | (refine Num.id (by omega) (by omega) ?_; conv => whnf)
                | (refine Case.strI (fun _ => ?_) (fun _ => ?_) <;> conv => whnf)
                | (refine Both.mk ?_ ?_ <;> conv => whnf)
                | (refine Case.dec (fun _ => ?_) (fun _ => ?_) <;> conv => whnf)
                | (refine Case.beqI (fun _ => ?_) (fun _ => ?_) <;> conv => whnf)
                | (refine Case.mk (fun _ => ?_) (fun _ => ?_) <;> conv => whnf)
                | (refine Way.fst ?_; conv => whnf)
              all_goals first | exact Fin.isB rfl | (exfalso; rename_i hh; exact hh (decide_eq_true hp2).symm) | (exfalso; rename_i hh; exact hh (decide_eq_false (by omega)).symm)
set_option maxHeartbeats 4000000 in
theorem valueWide_1 (p : Int) (u : List Bool) : Pure 4 [int p, int 1, .f (.sl (boolsV u))] (bool true) := by
  have hul : (boolsV u).length = u.length := List.length_map ..
  refine .mk trivial (spec_mk tab_ok Tryd.func4 (by rfl) rfl ?_)
  conv => whnf
  repeat' first
    | (refine Case.not ?_; conv => whnf)
    | (refine Case.yes ?_; conv => whnf)
    | (refine Case.no ?_; conv => whnf)
    | (refine Case.isTrue (by assumption) ?_; conv => whnf)
    | (refine Case.isFalse (by assumption) ?_; conv => whnf)
    | (refine Case.decT (by assumption) ?_; conv => whnf)
    | (refine Case.decF (by assumption) ?_; conv => whnf)
    | (refine Case.decT (by omega) ?_; conv => whnf)
    | (refine Case.decF (by omega) ?_; conv => whnf)
    | (refine Case.beqT (by omega) ?_; conv => whnf)
    | (refine Case.beqF (by omega) ?_; conv => whnf)
    | (refine Case.strT (by assumption) ?_; conv => whnf)
    | (refine Case.strF (by assumption) ?_; conv => whnf)
    | (refine Case.strF (by simp only [*]; decide) ?_; conv => whnf)
    | (refine valive_spec.call rfl ?_; conv => whnf)
    | (refine Elem.mk 1 _ rfl rfl ?_; conv => whnf)
    | (refine Way.snd ?_; conv => whnf)
    | (refine Owes.mk (by decide) ?_; conv => whnf)
    | (refine step_kinds 2 ?hk ?_; (case hk => decide +kernel); conv => whnf)
    | (refine step_kinds 3 ?hk ?_; (case hk => decide +kernel); conv => whnf)
    | (refine step_auto 2 ?hk ?_; (case hk => decide +kernel); conv => whnf)
    | (refine step_auto 3 ?hk ?_; (case hk => decide +kernel); conv => whnf)
    | (refine Num.id (by omega) (by omega) ?_; conv => whnf)
    | (refine Case.strI (fun _ => ?_) (fun _ => ?_) <;> conv => whnf)
    | (refine Both.mk ?_ ?_ <;> conv => whnf)
    | (refine Case.dec (fun _ => ?_) (fun _ => ?_) <;> conv => whnf)
    | (refine Case.beqI (fun _ => ?_) (fun _ => ?_) <;> conv => whnf)
    | (refine Case.mk (fun _ => ?_) (fun _ => ?_) <;> conv => whnf)
    | (refine Way.fst ?_; conv => whnf)
  refine step_loop tab_ok (fun s : Nat × List UInt8 => padK [int p, int 1, .f (.sl (boolsV u)), .junk, .junk, .junk, .junk, bool true, .junk, .own 1 5 1 (s.2.map byteRow), int s.1] 103) (fun _ => []) 2 (WidI wideL[1]!) (fun s => 7 - s.1) (0, wideL[1]!) ⟨by simp, rfl, rfl, by decide⟩ (fun _ => rfl) ?_ ?_
  ·
    repeat' first | exact trivial | exact rfl | exact Nat.zero_le _ | exact Nat.zero_lt_succ _ | exact (by decide : (0 : Nat) < 1) | exact (by decide : (1 : Nat) < 4) | exact (by decide : (2 : Nat) < 4) | exact (by decide : (3 : Nat) < 4) | exact (by decide : (1 : Nat) < 2) | exact (by decide : (2 : Nat) < 3) | exact congrArg int (by (try dsimp only); omega) | exact congrArg bool (by (try dsimp only); simp; omega) | (show _ < List.length _; simp; done) | apply And.intro
  · rintro ⟨i, bs⟩ hI
    have h2 := hI.len
    have h3 := hI.tl
    have h4 := hI.low
    dsimp only at h2 h3 h4 ⊢
    have hw : wideL[1]!.length = 7 := rfl
    have hbl : (bs.map byteRow).length = bs.length := List.length_map ..
    by_cases h0 : i < 7 ∧ i < u.length
    · obtain ⟨hi, hiu⟩ := h0
      obtain ⟨x, hx⟩ : ∃ x, u[i]? = some x := ⟨_, List.getElem?_eq_getElem hiu⟩
      obtain ⟨c, hc⟩ : ∃ c, bs[i]? = some c := ⟨_, List.getElem?_eq_getElem (by omega)⟩
      have hcw : wideL[1]![i]? = some c := by
        have := congrArg (·[0]?) h3
        simpa [List.getElem?_drop, hc] using this.symm
      have hcl : 97 ≤ c.toNat ∧ c.toNat ≤ 122 := by
        have : ∀ c ∈ wideL[1]!, 97 ≤ c.toNat ∧ c.toNat ≤ 122 := by decide
        exact this c (List.mem_of_getElem? hcw)
      have hg := boolsV_get hx
      have hcb : (bs.map byteRow)[i]? = some [.v (.int .u8 (c.toNat : Int))] := by simp [hc, byteRow]
      have hcb' : (bs.map byteRow)[(i : Int).toNat]? = some [.v (.int .u8 (c.toNat : Int))] := hcb
      have hU := hI.up (by omega) hc hcl
      have hG := hI.go (by omega)
      clear h3 h4
      conv => whnf
      cases x
      ·
        repeat' first
          | (refine Case.not ?_; conv => whnf)
          | (refine Case.yes ?_; conv => whnf)
          | (refine Case.no ?_; conv => whnf)
          | (refine Case.isTrue (by assumption) ?_; conv => whnf)
          | (refine Case.isFalse (by assumption) ?_; conv => whnf)
          | (refine Case.decT (by assumption) ?_; conv => whnf)
          | (refine Case.decF (by assumption) ?_; conv => whnf)
          | (refine Case.decT (by omega) ?_; conv => whnf)
          | (refine Case.decF (by omega) ?_; conv => whnf)
          | (refine Case.beqT (by omega) ?_; conv => whnf)
          | (refine Case.beqF (by omega) ?_; conv => whnf)
          | (refine Case.strT (by assumption) ?_; conv => whnf)
          | (refine Case.strF (by assumption) ?_; conv => whnf)
          | (refine Case.strF (by simp only [*]; decide) ?_; conv => whnf)
          | (refine Owes.mk boolsV_row ?_; conv => whnf)
          | (refine Elem.mk i _ rfl hg ?_; conv => whnf)
          | (refine Elem.mk i _ rfl hcb ?_; conv => whnf)
          | (rw [hcb']; conv => whnf)
          | (refine Owes.mk rfl ?_; conv => whnf)
          | (refine step_kinds 2 ?hk ?_; (case hk => decide +kernel); conv => whnf)
          | (refine step_kinds 3 ?hk ?_; (case hk => decide +kernel); conv => whnf)
          | (refine step_auto 2 ?hk ?_; (case hk => decide +kernel); conv => whnf)
          | (refine step_auto 3 ?hk ?_; (case hk => decide +kernel); conv => whnf)
          | (refine Num.id (by omega) (by omega) ?_; conv => whnf)
          | (refine Case.strI (fun _ => ?_) (fun _ => ?_) <;> conv => whnf)
          | (refine Both.mk ?_ ?_ <;> conv => whnf)
          | (refine Case.dec (fun _ => ?_) (fun _ => ?_) <;> conv => whnf)
          | (refine Case.beqI (fun _ => ?_) (fun _ => ?_) <;> conv => whnf)
          | (refine Case.mk (fun _ => ?_) (fun _ => ?_) <;> conv => whnf)
          | (refine Way.fst ?_; conv => whnf)
        refine ⟨(i + 1, bs), hG, by dsimp only; omega, ?_⟩
        repeat' first | exact trivial | exact rfl | exact Nat.zero_le _ | exact Nat.zero_lt_succ _ | exact (by decide : (0 : Nat) < 1) | exact (by decide : (1 : Nat) < 4) | exact (by decide : (2 : Nat) < 4) | exact (by decide : (3 : Nat) < 4) | exact (by decide : (1 : Nat) < 2) | exact (by decide : (2 : Nat) < 3) | exact congrArg int (by (try dsimp only); omega) | exact congrArg bool (by (try dsimp only); simp; omega) | (show _ < List.length _; simp; done) | apply And.intro
      ·
        repeat' first
          | (refine Case.not ?_; conv => whnf)
          | (refine Case.yes ?_; conv => whnf)
          | (refine Case.no ?_; conv => whnf)
          | (refine Case.isTrue (by assumption) ?_; conv => whnf)
          | (refine Case.isFalse (by assumption) ?_; conv => whnf)
          | (refine Case.decT (by assumption) ?_; conv => whnf)
          | (refine Case.decF (by assumption) ?_; conv => whnf)
          | (refine Case.decT (by omega) ?_; conv => whnf)
          | (refine Case.decF (by omega) ?_; conv => whnf)
          | (refine Case.beqT (by omega) ?_; conv => whnf)
          | (refine Case.beqF (by omega) ?_; conv => whnf)
          | (refine Case.strT (by assumption) ?_; conv => whnf)
          | (refine Case.strF (by assumption) ?_; conv => whnf)
          | (refine Case.strF (by simp only [*]; decide) ?_; conv => whnf)
          | (refine Owes.mk boolsV_row ?_; conv => whnf)
          | (refine Elem.mk i _ rfl hg ?_; conv => whnf)
          | (refine Elem.mk i _ rfl hcb ?_; conv => whnf)
          | (rw [hcb']; conv => whnf)
          | (refine Owes.mk rfl ?_; conv => whnf)
          | (refine Num.idU8 (by omega) (by omega) ?_; conv => whnf)
          | (refine step_kinds 2 ?hk ?_; (case hk => decide +kernel); conv => whnf)
          | (refine step_kinds 3 ?hk ?_; (case hk => decide +kernel); conv => whnf)
          | (refine step_auto 2 ?hk ?_; (case hk => decide +kernel); conv => whnf)
          | (refine step_auto 3 ?hk ?_; (case hk => decide +kernel); conv => whnf)
          | (refine Num.id (by omega) (by omega) ?_; conv => whnf)
          | (refine Case.strI (fun _ => ?_) (fun _ => ?_) <;> conv => whnf)
          | (refine Both.mk ?_ ?_ <;> conv => whnf)
          | (refine Case.dec (fun _ => ?_) (fun _ => ?_) <;> conv => whnf)
          | (refine Case.beqI (fun _ => ?_) (fun _ => ?_) <;> conv => whnf)
          | (refine Case.mk (fun _ => ?_) (fun _ => ?_) <;> conv => whnf)
          | (refine Way.fst ?_; conv => whnf)
        have er : (bs.map byteRow).set (i : Int).toNat [.v (.int .u8 ((c.toNat : Int) - 32))] = (bs.set i (c - 32)).map byteRow := by
          rw [List.map_set, Int.toNat_natCast]
          unfold byteRow
          rw [(lowU hcl).2, show (((c.toNat - 32 : Nat)) : Int) = (c.toNat : Int) - 32 by omega]
        refine ⟨(i + 1, bs.set i (c - 32)), hU, by dsimp only; omega, ?_⟩
        dsimp only
        rw [← er]
        repeat' first | exact trivial | exact rfl | exact Nat.zero_le _ | exact Nat.zero_lt_succ _ | exact (by decide : (0 : Nat) < 1) | exact (by decide : (1 : Nat) < 4) | exact (by decide : (2 : Nat) < 4) | exact (by decide : (3 : Nat) < 4) | exact (by decide : (1 : Nat) < 2) | exact (by decide : (2 : Nat) < 3) | exact congrArg int (by (try dsimp only); omega) | exact congrArg bool (by (try dsimp only); simp; omega) | (show _ < List.length _; simp; done) | apply And.intro
    · conv => whnf
      have h0' : ¬ i < 7 ∨ (i < 7 ∧ ¬ i < u.length) := by omega
      clear h0 h3 hI
      rcases h0' with h7 | ⟨h7, h8⟩
      ·
        · have c2 := vparse_spec p [{ kind := 1, text := bs }, { kind := 1, text := bs }] (by simp) (by simp; omega)
          rw [parseW_len (by simp)] at c2
          have c1 := vparse_spec p [{ kind := 1, text := bs }] (by simp) (by simp; omega)
          by_cases hp : 0 ≤ p ∧ p < 8
          · rw [wide_t (q := 1) (by omega) hp h4] at c1
            obtain ⟨hp1, hp2⟩ := hp
            repeat' first
              | (refine Case.not ?_; conv => whnf)
              | (refine Case.yes ?_; conv => whnf)
              | (refine Case.no ?_; conv => whnf)
              | (refine Case.isTrue (by assumption) ?_; conv => whnf)
              | (refine Case.isFalse (by assumption) ?_; conv => whnf)
              | (refine Case.decT (by assumption) ?_; conv => whnf)
              | (refine Case.decF (by assumption) ?_; conv => whnf)
              | (refine Case.decT (by omega) ?_; conv => whnf)
              | (refine Case.decF (by omega) ?_; conv => whnf)
              | (refine Case.beqT (by omega) ?_; conv => whnf)
              | (refine Case.beqF (by omega) ?_; conv => whnf)
              | (refine Case.strT (by assumption) ?_; conv => whnf)
              | (refine Case.strF (by assumption) ?_; conv => whnf)
              | (refine Case.strF (by simp only [*]; decide) ?_; conv => whnf)
              | (refine Owes.mk rfl ?_; conv => whnf)
              | (refine AsBytes.mk bs rfl ?_; conv => whnf)
              | (refine c1.call ⟨rfl, rfl, rfl⟩ ?_; conv => whnf)
              | (refine c1.callB ⟨rfl, rfl, rfl⟩ ?_; conv => whnf)
              | (refine c2.call ⟨rfl, rfl, rfl⟩ ?_; conv => whnf)
              | (refine c2.callB ⟨rfl, rfl, rfl⟩ ?_; conv => whnf)
              | (refine Case.isTrue (by decide) ?_; conv => whnf)
              | (refine Case.isFalse (by decide) ?_; conv => whnf)
              | (refine step_kinds 2 ?hk ?_; (case hk => decide +kernel); conv => whnf)
              | (refine step_kinds 3 ?hk ?_; (case hk => decide +kernel); conv => whnf)
              | (refine step_auto 2 ?hk ?_; (case hk => decide +kernel); conv => whnf)
              | (refine step_auto 3 ?hk ?_; (case hk => decide +kernel); conv => whnf)
              | (refine Num.id (by omega) (by omega) ?_; conv => whnf)
              | (refine Case.strI (fun _ => ?_) (fun _ => ?_) <;> conv => whnf)
              | (refine Both.mk ?_ ?_ <;> conv => whnf)
              | (refine Case.dec (fun _ => ?_) (fun _ => ?_) <;> conv => whnf)
              | (refine Case.beqI (fun _ => ?_) (fun _ => ?_) <;> conv => whnf)
              | (refine Case.mk (fun _ => ?_) (fun _ => ?_) <;> conv => whnf)
              | (refine Way.fst ?_; conv => whnf)
            all_goals first | exact Fin.isB rfl | (exfalso; rename_i hh; exact hh (decide_eq_true hp2).symm) | (exfalso; rename_i hh; exact hh (decide_eq_false (by omega)).symm)
          · rw [wide_f hp] at c1
            have hp' : p < 0 ∨ 8 ≤ p := by omega
            clear hp
            rcases hp' with hp | hp
            ·
              repeat' first
                | (refine Case.not ?_; conv => whnf)
                | (refine Case.yes ?_; conv => whnf)
                | (refine Case.no ?_; conv => whnf)
                | (refine Case.isTrue (by assumption) ?_; conv => whnf)
                | (refine Case.isFalse (by assumption) ?_; conv => whnf)
                | (refine Case.decT (by assumption) ?_; conv => whnf)
                | (refine Case.decF (by assumption) ?_; conv => whnf)
                | (refine Case.decT (by omega) ?_; conv => whnf)
                | (refine Case.decF (by omega) ?_; conv => whnf)
                | (refine Case.beqT (by omega) ?_; conv => whnf)
                | (refine Case.beqF (by omega) ?_; conv => whnf)
                | (refine Case.strT (by assumption) ?_; conv => whnf)
                | (refine Case.strF (by assumption) ?_; conv => whnf)
                | (refine Case.strF (by simp only [*]; decide) ?_; conv => whnf)
                | (refine Owes.mk rfl ?_; conv => whnf)
                | (refine AsBytes.mk bs rfl ?_; conv => whnf)
                | (refine c1.call ⟨rfl, rfl, rfl⟩ ?_; conv => whnf)
                | (refine c1.callB ⟨rfl, rfl, rfl⟩ ?_; conv => whnf)
                | (refine c2.call ⟨rfl, rfl, rfl⟩ ?_; conv => whnf)
                | (refine c2.callB ⟨rfl, rfl, rfl⟩ ?_; conv => whnf)
                | (refine Case.isTrue (by decide) ?_; conv => whnf)
                | (refine Case.isFalse (by decide) ?_; conv => whnf)
                | (refine step_kinds 2 ?hk ?_; (case hk => decide +kernel); conv => whnf)
                | (refine step_kinds 3 ?hk ?_; (case hk => decide +kernel); conv => whnf)
                | (refine step_auto 2 ?hk ?_; (case hk => decide +kernel); conv => whnf)
                | (refine step_auto 3 ?hk ?_; (case hk => decide +kernel); conv => whnf)
                | (refine Num.id (by omega) (by omega) ?_; conv => whnf)
                | (refine Case.strI (fun _ => ?_) (fun _ => ?_) <;> conv => whnf)
                | (refine Both.mk ?_ ?_ <;> conv => whnf)
                | (refine Case.dec (fun _ => ?_) (fun _ => ?_) <;> conv => whnf)
                | (refine Case.beqI (fun _ => ?_) (fun _ => ?_) <;> conv => whnf)
                | (refine Case.mk (fun _ => ?_) (fun _ => ?_) <;> conv => whnf)
                | (refine Way.fst ?_; conv => whnf)
              all_goals first | exact Fin.isB rfl | (exfalso; rename_i hh; exact hh (decide_eq_true hp2).symm) | (exfalso; rename_i hh; exact hh (decide_eq_false (by omega)).symm)
            ·
              repeat' first
                | (refine Case.not ?_; conv => whnf)
                | (refine Case.yes ?_; conv => whnf)
                | (refine Case.no ?_; conv => whnf)
                | (refine Case.isTrue (by assumption) ?_; conv => whnf)
                | (refine Case.isFalse (by assumption) ?_; conv => whnf)
                | (refine Case.decT (by assumption) ?_; conv => whnf)
                | (refine Case.decF (by assumption) ?_; conv => whnf)
                | (refine Case.decT (by omega) ?_; conv => whnf)
                | (refine Case.decF (by omega) ?_; conv => whnf)
                | (refine Case.beqT (by omega) ?_; conv => whnf)
                | (refine Case.beqF (by omega) ?_; conv => whnf)
                | (refine Case.strT (by assumption) ?_; conv => whnf)
                | (refine Case.strF (by assumption) ?_; conv => whnf)
                | (refine Case.strF (by simp only [*]; decide) ?_; conv => whnf)
                | (refine Owes.mk rfl ?_; conv => whnf)
                | (refine AsBytes.mk bs rfl ?_; conv => whnf)
                | (refine c1.call ⟨rfl, rfl, rfl⟩ ?_; conv => whnf)
                | (refine c1.callB ⟨rfl, rfl, rfl⟩ ?_; conv => whnf)
                | (refine c2.call ⟨rfl, rfl, rfl⟩ ?_; conv => whnf)
                | (refine c2.callB ⟨rfl, rfl, rfl⟩ ?_; conv => whnf)
                | (refine Case.isTrue (by decide) ?_; conv => whnf)
                | (refine Case.isFalse (by decide) ?_; conv => whnf)
                | (refine step_kinds 2 ?hk ?_; (case hk => decide +kernel); conv => whnf)
                | (refine step_kinds 3 ?hk ?_; (case hk => decide +kernel); conv => whnf)
                | (refine step_auto 2 ?hk ?_; (case hk => decide +kernel); conv => whnf)
                | (refine step_auto 3 ?hk ?_; (case hk => decide +kernel); conv => whnf)
                | (refine Num.id (by omega) (by omega) ?_; conv => whnf)
                | (refine Case.strI (fun _ => ?_) (fun _ => ?_) <;> conv => whnf)
                | (refine Both.mk ?_ ?_ <;> conv => whnf)
                | (refine Case.dec (fun _ => ?_) (fun _ => ?_) <;> conv => whnf)
                | (refine Case.beqI (fun _ => ?_) (fun _ => ?_) <;> conv => whnf)
                | (refine Case.mk (fun _ => ?_) (fun _ => ?_) <;> conv => whnf)
                | (refine Way.fst ?_; conv => whnf)
              all_goals first | exact Fin.isB rfl | (exfalso; rename_i hh; exact hh (decide_eq_true hp2).symm) | (exfalso; rename_i hh; exact hh (decide_eq_false (by omega)).symm)
      ·
        · have c2 := vparse_spec p [{ kind := 1, text := bs }, { kind := 1, text := bs }] (by simp) (by simp; omega)
          rw [parseW_len (by simp)] at c2
          have c1 := vparse_spec p [{ kind := 1, text := bs }] (by simp) (by simp; omega)
          by_cases hp : 0 ≤ p ∧ p < 8
          · rw [wide_t (q := 1) (by omega) hp h4] at c1
            obtain ⟨hp1, hp2⟩ := hp
            repeat' first
              | (refine Case.not ?_; conv => whnf)
              | (refine Case.yes ?_; conv => whnf)
              | (refine Case.no ?_; conv => whnf)
              | (refine Case.isTrue (by assumption) ?_; conv => whnf)
              | (refine Case.isFalse (by assumption) ?_; conv => whnf)
              | (refine Case.decT (by assumption) ?_; conv => whnf)
              | (refine Case.decF (by assumption) ?_; conv => whnf)
              | (refine Case.decT (by omega) ?_; conv => whnf)
              | (refine Case.decF (by omega) ?_; conv => whnf)
              | (refine Case.beqT (by omega) ?_; conv => whnf)
              | (refine Case.beqF (by omega) ?_; conv => whnf)
              | (refine Case.strT (by assumption) ?_; conv => whnf)
              | (refine Case.strF (by assumption) ?_; conv => whnf)
              | (refine Case.strF (by simp only [*]; decide) ?_; conv => whnf)
              | (refine Owes.mk rfl ?_; conv => whnf)
              | (refine AsBytes.mk bs rfl ?_; conv => whnf)
              | (refine c1.call ⟨rfl, rfl, rfl⟩ ?_; conv => whnf)
              | (refine c1.callB ⟨rfl, rfl, rfl⟩ ?_; conv => whnf)
              | (refine c2.call ⟨rfl, rfl, rfl⟩ ?_; conv => whnf)
              | (refine c2.callB ⟨rfl, rfl, rfl⟩ ?_; conv => whnf)
              | (refine Case.isTrue (by decide) ?_; conv => whnf)
              | (refine Case.isFalse (by decide) ?_; conv => whnf)
              | (refine step_kinds 2 ?hk ?_; (case hk => decide +kernel); conv => whnf)
              | (refine step_kinds 3 ?hk ?_; (case hk => decide +kernel); conv => whnf)
              | (refine step_auto 2 ?hk ?_; (case hk => decide +kernel); conv => whnf)
              | (refine step_auto 3 ?hk ?_; (case hk => decide +kernel); conv => whnf)
              | (refine Num.id (by omega) (by omega) ?_; conv => whnf)
              | (refine Case.strI (fun _ => ?_) (fun _ => ?_) <;> conv => whnf)
              | (refine Both.mk ?_ ?_ <;> conv => whnf)
              | (refine Case.dec (fun _ => ?_) (fun _ => ?_) <;> conv => whnf)
              | (refine Case.beqI (fun _ => ?_) (fun _ => ?_) <;> conv => whnf)
              | (refine Case.mk (fun _ => ?_) (fun _ => ?_) <;> conv => whnf)
              | (refine Way.fst ?_; conv => whnf)
            all_goals first | exact Fin.isB rfl | (exfalso; rename_i hh; exact hh (decide_eq_true hp2).symm) | (exfalso; rename_i hh; exact hh (decide_eq_false (by omega)).symm)
          · rw [wide_f hp] at c1
            have hp' : p < 0 ∨ 8 ≤ p := by omega
            clear hp
            rcases hp' with hp | hp
            ·
              repeat' first
                | (refine Case.not ?_; conv => whnf)
                | (refine Case.yes ?_; conv => whnf)
                | (refine Case.no ?_; conv => whnf)
                | (refine Case.isTrue (by assumption) ?_; conv => whnf)
                | (refine Case.isFalse (by assumption) ?_; conv => whnf)
                | (refine Case.decT (by assumption) ?_; conv => whnf)
                | (refine Case.decF (by assumption) ?_; conv => whnf)
                | (refine Case.decT (by omega) ?_; conv => whnf)
                | (refine Case.decF (by omega) ?_; conv => whnf)
                | (refine Case.beqT (by omega) ?_; conv => whnf)
                | (refine Case.beqF (by omega) ?_; conv => whnf)
                | (refine Case.strT (by assumption) ?_; conv => whnf)
                | (refine Case.strF (by assumption) ?_; conv => whnf)
                | (refine Case.strF (by simp only [*]; decide) ?_; conv => whnf)
                | (refine Owes.mk rfl ?_; conv => whnf)
                | (refine AsBytes.mk bs rfl ?_; conv => whnf)
                | (refine c1.call ⟨rfl, rfl, rfl⟩ ?_; conv => whnf)
                | (refine c1.callB ⟨rfl, rfl, rfl⟩ ?_; conv => whnf)
                | (refine c2.call ⟨rfl, rfl, rfl⟩ ?_; conv => whnf)
                | (refine c2.callB ⟨rfl, rfl, rfl⟩ ?_; conv => whnf)
                | (refine Case.isTrue (by decide) ?_; conv => whnf)
                | (refine Case.isFalse (by decide) ?_; conv => whnf)
                | (refine step_kinds 2 ?hk ?_; (case hk => decide +kernel); conv => whnf)
                | (refine step_kinds 3 ?hk ?_; (case hk => decide +kernel); conv => whnf)
                | (refine step_auto 2 ?hk ?_; (case hk => decide +kernel); conv => whnf)
                | (refine step_auto 3 ?hk ?_; (case hk => decide +kernel); conv => whnf)
                | (refine Num.id (by omega) (by omega) ?_; conv => whnf)
                | (refine Case.strI (fun _ => ?_) (fun _ => ?_) <;> conv => whnf)
                | (refine Both.mk ?_ ?_ <;> conv => whnf)
                | (refine Case.dec (fun _ => ?_) (fun _ => ?_) <;> conv => whnf)
                | (refine Case.beqI (fun _ => ?_) (fun _ => ?_) <;> conv => whnf)
                | (refine Case.mk (fun _ => ?_) (fun _ => ?_) <;> conv => whnf)
                | (refine Way.fst ?_; conv => whnf)
              all_goals first | exact Fin.isB rfl | (exfalso; rename_i hh; exact hh (decide_eq_true hp2).symm) | (exfalso; rename_i hh; exact hh (decide_eq_false (by omega)).symm)
            ·
              repeat' first
                | (refine Case.not ?_; conv => whnf)
                | (refine Case.yes ?_; conv => whnf)
                | (refine Case.no ?_; conv => whnf)
                | (refine Case.isTrue (by assumption) ?_; conv => whnf)
                | (refine Case.isFalse (by assumption) ?_; conv => whnf)
                | (refine Case.decT (by assumption) ?_; conv => whnf)
                | (refine Case.decF (by assumption) ?_; conv => whnf)
                | (refine Case.decT (by omega) ?_; conv => whnf)
                | (refine Case.decF (by omega) ?_; conv => whnf)
                | (refine Case.beqT (by omega) ?_; conv => whnf)
                | (refine Case.beqF (by omega) ?_; conv => whnf)
                | (refine Case.strT (by assumption) ?_; conv => whnf)
                | (refine Case.strF (by assumption) ?_; conv => whnf)
                | (refine Case.strF (by simp only [*]; decide) ?_; conv => whnf)
                | (refine Owes.mk rfl ?_; conv => whnf)
                | (refine AsBytes.mk bs rfl ?_; conv => whnf)
                | (refine c1.call ⟨rfl, rfl, rfl⟩ ?_; conv => whnf)
                | (refine c1.callB ⟨rfl, rfl, rfl⟩ ?_; conv => whnf)
                | (refine c2.call ⟨rfl, rfl, rfl⟩ ?_; conv => whnf)
                | (refine c2.callB ⟨rfl, rfl, rfl⟩ ?_; conv => whnf)
                | (refine Case.isTrue (by decide) ?_; conv => whnf)
                | (refine Case.isFalse (by decide) ?_; conv => whnf)
                | (refine step_kinds 2 ?hk ?_; (case hk => decide +kernel); conv => whnf)
                | (refine step_kinds 3 ?hk ?_; (case hk => decide +kernel); conv => whnf)
                | (refine step_auto 2 ?hk ?_; (case hk => decide +kernel); conv => whnf)
                | (refine step_auto 3 ?hk ?_; (case hk => decide +kernel); conv => whnf)
                | (refine Num.id (by omega) (by omega) ?_; conv => whnf)
                | (refine Case.strI (fun _ => ?_) (fun _ => ?_) <;> conv => whnf)
                | (refine Both.mk ?_ ?_ <;> conv => whnf)
                | (refine Case.dec (fun _ => ?_) (fun _ => ?_) <;> conv => whnf)
                | (refine Case.beqI (fun _ => ?_) (fun _ => ?_) <;> conv => whnf)
                | (refine Case.mk (fun _ => ?_) (fun _ => ?_) <;> conv => whnf)
                | (refine Way.fst ?_; conv => whnf)
              all_goals first | exact Fin.isB rfl | (exfalso; rename_i hh; exact hh (decide_eq_true hp2).symm) | (exfalso; rename_i hh; exact hh (decide_eq_false (by omega)).symm)
set_option maxHeartbeats 4000000 in
theorem valueWide_2 (p : Int) (u : List Bool) : Pure 4 [int p, int 2, .f (.sl (boolsV u))] (bool true) := by
  have hul : (boolsV u).length = u.length := List.length_map ..
  refine .mk trivial (spec_mk tab_ok Tryd.func4 (by rfl) rfl ?_)
  conv => whnf
  repeat' first
    | (refine Case.not ?_; conv => whnf)
    | (refine Case.yes ?_; conv => whnf)
    | (refine Case.no ?_; conv => whnf)
    | (refine Case.isTrue (by assumption) ?_; conv => whnf)
    | (refine Case.isFalse (by assumption) ?_; conv => whnf)
    | (refine Case.decT (by assumption) ?_; conv => whnf)
    | (refine Case.decF (by assumption) ?_; conv => whnf)
    | (refine Case.decT (by omega) ?_; conv => whnf)
    | (refine Case.decF (by omega) ?_; conv => whnf)
    | (refine Case.beqT (by omega) ?_; conv => whnf)
    | (refine Case.beqF (by omega) ?_; conv => whnf)
    | (refine Case.strT (by assumption) ?_; conv => whnf)
    | (refine Case.strF (by assumption) ?_; conv => whnf)
    | (refine Case.strF (by simp only [*]; decide) ?_; conv => whnf)
    | (refine valive_spec.call rfl ?_; conv => whnf)
    | (refine Elem.mk 2 _ rfl rfl ?_; conv => whnf)
    | (refine Way.snd ?_; conv => whnf)
    | (refine Owes.mk (by decide) ?_; conv => whnf)
    | (refine step_kinds 2 ?hk ?_; (case hk => decide +kernel); conv => whnf)
    | (refine step_kinds 3 ?hk ?_; (case hk => decide +kernel); conv => whnf)
    | (refine step_auto 2 ?hk ?_; (case hk => decide +kernel); conv => whnf)
    | (refine step_auto 3 ?hk ?_; (case hk => decide +kernel); conv => whnf)
    | (refine Num.id (by omega) (by omega) ?_; conv => whnf)
    | (refine Case.strI (fun _ => ?_) (fun _ => ?_) <;> conv => whnf)
    | (refine Both.mk ?_ ?_ <;> conv => whnf)
    | (refine Case.dec (fun _ => ?_) (fun _ => ?_) <;> conv => whnf)
    | (refine Case.beqI (fun _ => ?_) (fun _ => ?_) <;> conv => whnf)
    | (refine Case.mk (fun _ => ?_) (fun _ => ?_) <;> conv => whnf)
    | (refine Way.fst ?_; conv => whnf)
  refine step_loop tab_ok (fun s : Nat × List UInt8 => padK [int p, int 2, .f (.sl (boolsV u)), .junk, .junk, .junk, .junk, bool true, .junk, .own 1 5 1 (s.2.map byteRow), int s.1] 103) (fun _ => []) 2 (WidI wideL[2]!) (fun s => 5 - s.1) (0, wideL[2]!) ⟨by simp, rfl, rfl, by decide⟩ (fun _ => rfl) ?_ ?_
  ·
    repeat' first | exact trivial | exact rfl | exact Nat.zero_le _ | exact Nat.zero_lt_succ _ | exact (by decide : (0 : Nat) < 1) | exact (by decide : (1 : Nat) < 4) | exact (by decide : (2 : Nat) < 4) | exact (by decide : (3 : Nat) < 4) | exact (by decide : (1 : Nat) < 2) | exact (by decide : (2 : Nat) < 3) | exact congrArg int (by (try dsimp only); omega) | exact congrArg bool (by (try dsimp only); simp; omega) | (show _ < List.length _; simp; done) | apply And.intro
  · rintro ⟨i, bs⟩ hI
    have h2 := hI.len
    have h3 := hI.tl
    have h4 := hI.low
    dsimp only at h2 h3 h4 ⊢
    have hw : wideL[2]!.length = 5 := rfl
    have hbl : (bs.map byteRow).length = bs.length := List.length_map ..
    by_cases h0 : i < 5 ∧ i < u.length
    · obtain ⟨hi, hiu⟩ := h0
      obtain ⟨x, hx⟩ : ∃ x, u[i]? = some x := ⟨_, List.getElem?_eq_getElem hiu⟩
      obtain ⟨c, hc⟩ : ∃ c, bs[i]? = some c := ⟨_, List.getElem?_eq_getElem (by omega)⟩
      have hcw : wideL[2]![i]? = some c := by
        have := congrArg (·[0]?) h3
        simpa [List.getElem?_drop, hc] using this.symm
      have hcl : 97 ≤ c.toNat ∧ c.toNat ≤ 122 := by
        have : ∀ c ∈ wideL[2]!, 97 ≤ c.toNat ∧ c.toNat ≤ 122 := by decide
        exact this c (List.mem_of_getElem? hcw)
      have hg := boolsV_get hx
      have hcb : (bs.map byteRow)[i]? = some [.v (.int .u8 (c.toNat : Int))] := by simp [hc, byteRow]
      have hcb' : (bs.map byteRow)[(i : Int).toNat]? = some [.v (.int .u8 (c.toNat : Int))] := hcb
      have hU := hI.up (by omega) hc hcl
      have hG := hI.go (by omega)
      clear h3 h4
      conv => whnf
      cases x
      ·
        repeat' first
          | (refine Case.not ?_; conv => whnf)
          | (refine Case.yes ?_; conv => whnf)
          | (refine Case.no ?_; conv => whnf)
          | (refine Case.isTrue (by assumption) ?_; conv => whnf)
          | (refine Case.isFalse (by assumption) ?_; conv => whnf)
          | (refine Case.decT (by assumption) ?_; conv => whnf)
          | (refine Case.decF (by assumption) ?_; conv => whnf)
          | (refine Case.decT (by omega) ?_; conv => whnf)
          | (refine Case.decF (by omega) ?_; conv => whnf)
          | (refine Case.beqT (by omega) ?_; conv => whnf)
          | (refine Case.beqF (by omega) ?_; conv => whnf)
          | (refine Case.strT (by assumption) ?_; conv => whnf)
          | (refine Case.strF (by assumption) ?_; conv => whnf)
          | (refine Case.strF (by simp only [*]; decide) ?_; conv => whnf)
          | (refine Owes.mk boolsV_row ?_; conv => whnf)
          | (refine Elem.mk i _ rfl hg ?_; conv => whnf)
          | (refine Elem.mk i _ rfl hcb ?_; conv => whnf)
          | (rw [hcb']; conv => whnf)
          | (refine Owes.mk rfl ?_; conv => whnf)
          | (refine step_kinds 2 ?hk ?_; (case hk => decide +kernel); conv => whnf)
          | (refine step_kinds 3 ?hk ?_; (case hk => decide +kernel); conv => whnf)
          | (refine step_auto 2 ?hk ?_; (case hk => decide +kernel); conv => whnf)
          | (refine step_auto 3 ?hk ?_; (case hk => decide +kernel); conv => whnf)
          | (refine Num.id (by omega) (by omega) ?_; conv => whnf)
          | (refine Case.strI (fun _ => ?_) (fun _ => ?_) <;> conv => whnf)
          | (refine Both.mk ?_ ?_ <;> conv => whnf)
          | (refine Case.dec (fun _ => ?_) (fun _ => ?_) <;> conv => whnf)
          | (refine Case.beqI (fun _ => ?_) (fun _ => ?_) <;> conv => whnf)
          | (refine Case.mk (fun _ => ?_) (fun _ => ?_) <;> conv => whnf)
          | (refine Way.fst ?_; conv => whnf)
        refine ⟨(i + 1, bs), hG, by dsimp only; omega, ?_⟩
        repeat' first | exact trivial | exact rfl | exact Nat.zero_le _ | exact Nat.zero_lt_succ _ | exact (by decide : (0 : Nat) < 1) | exact (by decide : (1 : Nat) < 4) | exact (by decide : (2 : Nat) < 4) | exact (by decide : (3 : Nat) < 4) | exact (by decide : (1 : Nat) < 2) | exact (by decide : (2 : Nat) < 3) | exact congrArg int (by (try dsimp only); omega) | exact congrArg bool (by (try dsimp only); simp; omega) | (show _ < List.length _; simp; done) | apply And.intro
      ·
        repeat' first
          | (refine Case.not ?_; conv => whnf)
          | (refine Case.yes ?_; conv => whnf)
          | (refine Case.no ?_; conv => whnf)
          | (refine Case.isTrue (by assumption) ?_; conv => whnf)
          | (refine Case.isFalse (by assumption) ?_; conv => whnf)
          | (refine Case.decT (by assumption) ?_; conv => whnf)
          | (refine Case.decF (by assumption) ?_; conv => whnf)
          | (refine Case.decT (by omega) ?_; conv => whnf)
          | (refine Case.decF (by omega) ?_; conv => whnf)
          | (refine Case.beqT (by omega) ?_; conv => whnf)
          | (refine Case.beqF (by omega) ?_; conv => whnf)
          | (refine Case.strT (by assumption) ?_; conv => whnf)
          | (refine Case.strF (by assumption) ?_; conv => whnf)
          | (refine Case.strF (by simp only [*]; decide) ?_; conv => whnf)
          | (refine Owes.mk boolsV_row ?_; conv => whnf)
          | (refine Elem.mk i _ rfl hg ?_; conv => whnf)
          | (refine Elem.mk i _ rfl hcb ?_; conv => whnf)
          | (rw [hcb']; conv => whnf)
          | (refine Owes.mk rfl ?_; conv => whnf)
          | (refine Num.idU8 (by omega) (by omega) ?_; conv => whnf)
          | (refine step_kinds 2 ?hk ?_; (case hk => decide +kernel); conv => whnf)
          | (refine step_kinds 3 ?hk ?_; (case hk => decide +kernel); conv => whnf)
          | (refine step_auto 2 ?hk ?_; (case hk => decide +kernel); conv => whnf)
          | (refine step_auto 3 ?hk ?_; (case hk => decide +kernel); conv => whnf)
          | (refine Num.id (by omega) (by omega) ?_; conv => whnf)
          | (refine Case.strI (fun _ => ?_) (fun _ => ?_) <;> conv => whnf)
          | (refine Both.mk ?_ ?_ <;> conv => whnf)
          | (refine Case.dec (fun _ => ?_) (fun _ => ?_) <;> conv => whnf)
          | (refine Case.beqI (fun _ => ?_) (fun _ => ?_) <;> conv => whnf)
          | (refine Case.mk (fun _ => ?_) (fun _ => ?_) <;> conv => whnf)
          | (refine Way.fst ?_; conv => whnf)
        have er : (bs.map byteRow).set (i : Int).toNat [.v (.int .u8 ((c.toNat : Int) - 32))] = (bs.set i (c - 32)).map byteRow := by
          rw [List.map_set, Int.toNat_natCast]
          unfold byteRow
          rw [(lowU hcl).2, show (((c.toNat - 32 : Nat)) : Int) = (c.toNat : Int) - 32 by omega]
        refine ⟨(i + 1, bs.set i (c - 32)), hU, by dsimp only; omega, ?_⟩
        dsimp only
        rw [← er]
        repeat' first | exact trivial | exact rfl | exact Nat.zero_le _ | exact Nat.zero_lt_succ _ | exact (by decide : (0 : Nat) < 1) | exact (by decide : (1 : Nat) < 4) | exact (by decide : (2 : Nat) < 4) | exact (by decide : (3 : Nat) < 4) | exact (by decide : (1 : Nat) < 2) | exact (by decide : (2 : Nat) < 3) | exact congrArg int (by (try dsimp only); omega) | exact congrArg bool (by (try dsimp only); simp; omega) | (show _ < List.length _; simp; done) | apply And.intro
    · conv => whnf
      have h0' : ¬ i < 5 ∨ (i < 5 ∧ ¬ i < u.length) := by omega
      clear h0 h3 hI
      rcases h0' with h7 | ⟨h7, h8⟩
      ·
        · have c2 := vparse_spec p [{ kind := 1, text := bs }, { kind := 1, text := bs }] (by simp) (by simp; omega)
          rw [parseW_len (by simp)] at c2
          have c1 := vparse_spec p [{ kind := 1, text := bs }] (by simp) (by simp; omega)
          by_cases hp : 0 ≤ p ∧ p < 8
          · rw [wide_t (q := 2) (by omega) hp h4] at c1
            obtain ⟨hp1, hp2⟩ := hp
            repeat' first
              | (refine Case.not ?_; conv => whnf)
              | (refine Case.yes ?_; conv => whnf)
              | (refine Case.no ?_; conv => whnf)
              | (refine Case.isTrue (by assumption) ?_; conv => whnf)
              | (refine Case.isFalse (by assumption) ?_; conv => whnf)
              | (refine Case.decT (by assumption) ?_; conv => whnf)
              | (refine Case.decF (by assumption) ?_; conv => whnf)
              | (refine Case.decT (by omega) ?_; conv => whnf)
              | (refine Case.decF (by omega) ?_; conv => whnf)
              | (refine Case.beqT (by omega) ?_; conv => whnf)
              | (refine Case.beqF (by omega) ?_; conv => whnf)
              | (refine Case.strT (by assumption) ?_; conv => whnf)
              | (refine Case.strF (by assumption) ?_; conv => whnf)
              | (refine Case.strF (by simp only [*]; decide) ?_; conv => whnf)
              | (refine Owes.mk rfl ?_; conv => whnf)
              | (refine AsBytes.mk bs rfl ?_; conv => whnf)
              | (refine c1.call ⟨rfl, rfl, rfl⟩ ?_; conv => whnf)
              | (refine c1.callB ⟨rfl, rfl, rfl⟩ ?_; conv => whnf)
              | (refine c2.call ⟨rfl, rfl, rfl⟩ ?_; conv => whnf)
              | (refine c2.callB ⟨rfl, rfl, rfl⟩ ?_; conv => whnf)
              | (refine Case.isTrue (by decide) ?_; conv => whnf)
              | (refine Case.isFalse (by decide) ?_; conv => whnf)
              | (refine step_kinds 2 ?hk ?_; (case hk => decide +kernel); conv => whnf)
              | (refine step_kinds 3 ?hk ?_; (case hk => decide +kernel); conv => whnf)
              | (refine step_auto 2 ?hk ?_; (case hk => decide +kernel); conv => whnf)
              | (refine step_auto 3 ?hk ?_; (case hk => decide +kernel); conv => whnf)
              | (refine Num.id (by omega) (by omega) ?_; conv => whnf)
              | (refine Case.strI (fun _ => ?_) (fun _ => ?_) <;> conv => whnf)
              | (refine Both.mk ?_ ?_ <;> conv => whnf)
              | (refine Case.dec (fun _ => ?_) (fun _ => ?_) <;> conv => whnf)
              | (refine Case.beqI (fun _ => ?_) (fun _ => ?_) <;> conv => whnf)
              | (refine Case.mk (fun _ => ?_) (fun _ => ?_) <;> conv => whnf)
              | (refine Way.fst ?_; conv => whnf)
            all_goals first | exact Fin.isB rfl | (exfalso; rename_i hh; exact hh (decide_eq_true hp2).symm) | (exfalso; rename_i hh; exact hh (decide_eq_false (by omega)).symm)
          · rw [wide_f hp] at c1
            have hp' : p < 0 ∨ 8 ≤ p := by omega
            clear hp
            rcases hp' with hp | hp
            ·
              repeat' first
                | (refine Case.not ?_; conv => whnf)
                | (refine Case.yes ?_; conv => whnf)
                | (refine Case.no ?_; conv => whnf)
                | (refine Case.isTrue (by assumption) ?_; conv => whnf)
                | (refine Case.isFalse (by assumption) ?_; conv => whnf)
                | (refine Case.decT (by assumption) ?_; conv => whnf)
                | (refine Case.decF (by assumption) ?_; conv => whnf)
                | (refine Case.decT (by omega) ?_; conv => whnf)
                | (refine Case.decF (by omega) ?_; conv => whnf)
                | (refine Case.beqT (by omega) ?_; conv => whnf)
                | (refine Case.beqF (by omega) ?_; conv => whnf)
                | (refine Case.strT (by assumption) ?_; conv => whnf)
                | (refine Case.strF (by assumption) ?_; conv => whnf)
                | (refine Case.strF (by simp only [*]; decide) ?_; conv => whnf)
                | (refine Owes.mk rfl ?_; conv => whnf)
                | (refine AsBytes.mk bs rfl ?_; conv => whnf)
                | (refine c1.call ⟨rfl, rfl, rfl⟩ ?_; conv => whnf)
                | (refine c1.callB ⟨rfl, rfl, rfl⟩ ?_; conv => whnf)
                | (refine c2.call ⟨rfl, rfl, rfl⟩ ?_; conv => whnf)
                | (refine c2.callB ⟨rfl, rfl, rfl⟩ ?_; conv => whnf)
                | (refine Case.isTrue (by decide) ?_; conv => whnf)
                | (refine Case.isFalse (by decide) ?_; conv => whnf)
                | (refine step_kinds 2 ?hk ?_; (case hk => decide +kernel); conv => whnf)
                | (refine step_kinds 3 ?hk ?_; (case hk => decide +kernel); conv => whnf)
                | (refine step_auto 2 ?hk ?_; (case hk => decide +kernel); conv => whnf)
                | (refine step_auto 3 ?hk ?_; (case hk => decide +kernel); conv => whnf)
                | (refine Num.id (by omega) (by omega) ?_; conv => whnf)
                | (refine Case.strI (fun _ => ?_) (fun _ => ?_) <;> conv => whnf)
                | (refine Both.mk ?_ ?_ <;> conv => whnf)
                | (refine Case.dec (fun _ => ?_) (fun _ => ?_) <;> conv => whnf)
                | (refine Case.beqI (fun _ => ?_) (fun _ => ?_) <;> conv => whnf)
                | (refine Case.mk (fun _ => ?_) (fun _ => ?_) <;> conv => whnf)
                | (refine Way.fst ?_; conv => whnf)
              all_goals first | exact Fin.isB rfl | (exfalso; rename_i hh; exact hh (decide_eq_true hp2).symm) | (exfalso; rename_i hh; exact hh (decide_eq_false (by omega)).symm)
            ·
              repeat' first
                | (refine Case.not ?_; conv => whnf)
                | (refine Case.yes ?_; conv => whnf)
                | (refine Case.no ?_; conv => whnf)
                | (refine Case.isTrue (by assumption) ?_; conv => whnf)
                | (refine Case.isFalse (by assumption) ?_; conv => whnf)
                | (refine Case.decT (by assumption) ?_; conv => whnf)
                | (refine Case.decF (by assumption) ?_; conv => whnf)
                | (refine Case.decT (by omega) ?_; conv => whnf)
                | (refine Case.decF (by omega) ?_; conv => whnf)
                | (refine Case.beqT (by omega) ?_; conv => whnf)
                | (refine Case.beqF (by omega) ?_; conv => whnf)
                | (refine Case.strT (by assumption) ?_; conv => whnf)
                | (refine Case.strF (by assumption) ?_; conv => whnf)
                | (refine Case.strF (by simp only [*]; decide) ?_; conv => whnf)
                | (refine Owes.mk rfl ?_; conv => whnf)
                | (refine AsBytes.mk bs rfl ?_; conv => whnf)
                | (refine c1.call ⟨rfl, rfl, rfl⟩ ?_; conv => whnf)
                | (refine c1.callB ⟨rfl, rfl, rfl⟩ ?_; conv => whnf)
                | (refine c2.call ⟨rfl, rfl, rfl⟩ ?_; conv => whnf)
                | (refine c2.callB ⟨rfl, rfl, rfl⟩ ?_; conv => whnf)
                | (refine Case.isTrue (by decide) ?_; conv => whnf)
                | (refine Case.isFalse (by decide) ?_; conv => whnf)
                | (refine step_kinds 2 ?hk ?_; (case hk => decide +kernel); conv => whnf)
                | (refine step_kinds 3 ?hk ?_; (case hk => decide +kernel); conv => whnf)
                | (refine step_auto 2 ?hk ?_; (case hk => decide +kernel); conv => whnf)
                | (refine step_auto 3 ?hk ?_; (case hk => decide +kernel); conv => whnf)
                | (refine Num.id (by omega) (by omega) ?_; conv => whnf)
                | (refine Case.strI (fun _ => ?_) (fun _ => ?_) <;> conv => whnf)
                | (refine Both.mk ?_ ?_ <;> conv => whnf)
                | (refine Case.dec (fun _ => ?_) (fun _ => ?_) <;> conv => whnf)
                | (refine Case.beqI (fun _ => ?_) (fun _ => ?_) <;> conv => whnf)
                | (refine Case.mk (fun _ => ?_) (fun _ => ?_) <;> conv => whnf)
                | (refine Way.fst ?_; conv => whnf)
              all_goals first | exact Fin.isB rfl | (exfalso; rename_i hh; exact hh (decide_eq_true hp2).symm) | (exfalso; rename_i hh; exact hh (decide_eq_false (by omega)).symm)
      ·
        · have c2 := vparse_spec p [{ kind := 1, text := bs }, { kind := 1, text := bs }] (by simp) (by simp; omega)
          rw [parseW_len (by simp)] at c2
          have c1 := vparse_spec p [{ kind := 1, text := bs }] (by simp) (by simp; omega)
          by_cases hp : 0 ≤ p ∧ p < 8
          · rw [wide_t (q := 2) (by omega) hp h4] at c1
            obtain ⟨hp1, hp2⟩ := hp
            repeat' first
              | (refine Case.not ?_; conv => whnf)
              | (refine Case.yes ?_; conv => whnf)
              | (refine Case.no ?_; conv => whnf)
              | (refine Case.isTrue (by assumption) ?_; conv => whnf)
              | (refine Case.isFalse (by assumption) ?_; conv => whnf)
              | (refine Case.decT (by assumption) ?_; conv => whnf)
              | (refine Case.decF (by assumption) ?_; conv => whnf)
              | (refine Case.decT (by omega) ?_; conv => whnf)
              | (refine Case.decF (by omega) ?_; conv => whnf)
              | (refine Case.beqT (by omega) ?_; conv => whnf)
              | (refine Case.beqF (by omega) ?_; conv => whnf)
              | (refine Case.strT (by assumption) ?_; conv => whnf)
              | (refine Case.strF (by assumption) ?_; conv => whnf)
              | (refine Case.strF (by simp only [*]; decide) ?_; conv => whnf)
              | (refine Owes.mk rfl ?_; conv => whnf)
              | (refine AsBytes.mk bs rfl ?_; conv => whnf)
              | (refine c1.call ⟨rfl, rfl, rfl⟩ ?_; conv => whnf)
              | (refine c1.callB ⟨rfl, rfl, rfl⟩ ?_; conv => whnf)
              | (refine c2.call ⟨rfl, rfl, rfl⟩ ?_; conv => whnf)
              | (refine c2.callB ⟨rfl, rfl, rfl⟩ ?_; conv => whnf)
              | (refine Case.isTrue (by decide) ?_; conv => whnf)
              | (refine Case.isFalse (by decide) ?_; conv => whnf)
              | (refine step_kinds 2 ?hk ?_; (case hk => decide +kernel); conv => whnf)
              | (refine step_kinds 3 ?hk ?_; (case hk => decide +kernel); conv => whnf)
              | (refine step_auto 2 ?hk ?_; (case hk => decide +kernel); conv => whnf)
              | (refine step_auto 3 ?hk ?_; (case hk => decide +kernel); conv => whnf)
              | (refine Num.id (by omega) (by omega) ?_; conv => whnf)
              | (refine Case.strI (fun _ => ?_) (fun _ => ?_) <;> conv => whnf)
              | (refine Both.mk ?_ ?_ <;> conv => whnf)
              | (refine Case.dec (fun _ => ?_) (fun _ => ?_) <;> conv => whnf)
              | (refine Case.beqI (fun _ => ?_) (fun _ => ?_) <;> conv => whnf)
              | (refine Case.mk (fun _ => ?_) (fun _ => ?_) <;> conv => whnf)
              | (refine Way.fst ?_; conv => whnf)
            all_goals first | exact Fin.isB rfl | (exfalso; rename_i hh; exact hh (decide_eq_true hp2).symm) | (exfalso; rename_i hh; exact hh (decide_eq_false (by omega)).symm)
          · rw [wide_f hp] at c1
            have hp' : p < 0 ∨ 8 ≤ p := by omega
            clear hp
            rcases hp' with hp | hp
            ·
              repeat' first
                | (refine Case.not ?_; conv => whnf)
                | (refine Case.yes ?_; conv => whnf)
                | (refine Case.no ?_; conv => whnf)
                | (refine Case.isTrue (by assumption) ?_; conv => whnf)
                | (refine Case.isFalse (by assumption) ?_; conv => whnf)
                | (refine Case.decT (by assumption) ?_; conv => whnf)
                | (refine Case.decF (by assumption) ?_; conv => whnf)
                | (refine Case.decT (by omega) ?_; conv => whnf)
                | (refine Case.decF (by omega) ?_; conv => whnf)
                | (refine Case.beqT (by omega) ?_; conv => whnf)
                | (refine Case.beqF (by omega) ?_; conv => whnf)
                | (refine Case.strT (by assumption) ?_; conv => whnf)
                | (refine Case.strF (by assumption) ?_; conv => whnf)
                | (refine Case.strF (by simp only [*]; decide) ?_; conv => whnf)
                | (refine Owes.mk rfl ?_; conv => whnf)
                | (refine AsBytes.mk bs rfl ?_; conv => whnf)
                | (refine c1.call ⟨rfl, rfl, rfl⟩ ?_; conv => whnf)
                | (refine c1.callB ⟨rfl, rfl, rfl⟩ ?_; conv => whnf)
                | (refine c2.call ⟨rfl, rfl, rfl⟩ ?_; conv => whnf)
                | (refine c2.callB ⟨rfl, rfl, rfl⟩ ?_; conv => whnf)
                | (refine Case.isTrue (by decide) ?_; conv => whnf)
                | (refine Case.isFalse (by decide) ?_; conv => whnf)
                | (refine step_kinds 2 ?hk ?_; (case hk => decide +kernel); conv => whnf)
                | (refine step_kinds 3 ?hk ?_; (case hk => decide +kernel); conv => whnf)
                | (refine step_auto 2 ?hk ?_; (case hk => decide +kernel); conv => whnf)
                | (refine step_auto 3 ?hk ?_; (case hk => decide +kernel); conv => whnf)
                | (refine Num.id (by omega) (by omega) ?_; conv => whnf)
                | (refine Case.strI (fun _ => ?_) (fun _ => ?_) <;> conv => whnf)
                | (refine Both.mk ?_ ?_ <;> conv => whnf)
                | (refine Case.dec (fun _ => ?_) (fun _ => ?_) <;> conv => whnf)
                | (refine Case.beqI (fun _ => ?_) (fun _ => ?_) <;> conv => whnf)
                | (refine Case.mk (fun _ => ?_) (fun _ => ?_) <;> conv => whnf)
                | (refine Way.fst ?_; conv => whnf)
              all_goals first | exact Fin.isB rfl | (exfalso; rename_i hh; exact hh (decide_eq_true hp2).symm) | (exfalso; rename_i hh; exact hh (decide_eq_false (by omega)).symm)
            ·
              repeat' first
                | (refine Case.not ?_; conv => whnf)
                | (refine Case.yes ?_; conv => whnf)
                | (refine Case.no ?_; conv => whnf)
                | (refine Case.isTrue (by assumption) ?_; conv => whnf)
                | (refine Case.isFalse (by assumption) ?_; conv => whnf)
                | (refine Case.decT (by assumption) ?_; conv => whnf)
                | (refine Case.decF (by assumption) ?_; conv => whnf)
                | (refine Case.decT (by omega) ?_; conv => whnf)
                | (refine Case.decF (by omega) ?_; conv => whnf)
                | (refine Case.beqT (by omega) ?_; conv => whnf)
                | (refine Case.beqF (by omega) ?_; conv => whnf)
                | (refine Case.strT (by assumption) ?_; conv => whnf)
                | (refine Case.strF (by assumption) ?_; conv => whnf)
                | (refine Case.strF (by simp only [*]; decide) ?_; conv => whnf)
                | (refine Owes.mk rfl ?_; conv => whnf)
                | (refine AsBytes.mk bs rfl ?_; conv => whnf)
                | (refine c1.call ⟨rfl, rfl, rfl⟩ ?_; conv => whnf)
                | (refine c1.callB ⟨rfl, rfl, rfl⟩ ?_; conv => whnf)
                | (refine c2.call ⟨rfl, rfl, rfl⟩ ?_; conv => whnf)
                | (refine c2.callB ⟨rfl, rfl, rfl⟩ ?_; conv => whnf)
                | (refine Case.isTrue (by decide) ?_; conv => whnf)
                | (refine Case.isFalse (by decide) ?_; conv => whnf)
                | (refine step_kinds 2 ?hk ?_; (case hk => decide +kernel); conv => whnf)
                | (refine step_kinds 3 ?hk ?_; (case hk => decide +kernel); conv => whnf)
                | (refine step_auto 2 ?hk ?_; (case hk => decide +kernel); conv => whnf)
                | (refine step_auto 3 ?hk ?_; (case hk => decide +kernel); conv => whnf)
                | (refine Num.id (by omega) (by omega) ?_; conv => whnf)
                | (refine Case.strI (fun _ => ?_) (fun _ => ?_) <;> conv => whnf)
                | (refine Both.mk ?_ ?_ <;> conv => whnf)
                | (refine Case.dec (fun _ => ?_) (fun _ => ?_) <;> conv => whnf)
                | (refine Case.beqI (fun _ => ?_) (fun _ => ?_) <;> conv => whnf)
                | (refine Case.mk (fun _ => ?_) (fun _ => ?_) <;> conv => whnf)
                | (refine Way.fst ?_; conv => whnf)
              all_goals first | exact Fin.isB rfl | (exfalso; rename_i hh; exact hh (decide_eq_true hp2).symm) | (exfalso; rename_i hh; exact hh (decide_eq_false (by omega)).symm)
theorem valueWide_spec (p q : Int) (u : List Bool) : Pure 4 [int p, int q, .f (.sl (boolsV u))] (bool true) := by
  by_cases hq : 0 ≤ q ∧ q ≤ 2
  · have hq : q = 0 ∨ q = 1 ∨ q = 2 := by omega
    rcases hq with rfl | rfl | rfl
    · exact valueWide_0 p u
    · exact valueWide_1 p u
    · exact valueWide_2 p u
  · refine .mk trivial (spec_mk tab_ok Tryd.func4 (by rfl) rfl ?_)
    have h2 : q < 0 ∨ q > 2 := by omega
    clear hq
    rcases h2 with h2 | h2
    · conv => whnf
      repeat' first
        | (refine Case.not ?_; conv => whnf)
        | (refine Case.yes ?_; conv => whnf)
        | (refine Case.no ?_; conv => whnf)
        | (refine Case.isTrue (by assumption) ?_; conv => whnf)
        | (refine Case.isFalse (by assumption) ?_; conv => whnf)
        | (refine Case.decT (by assumption) ?_; conv => whnf)
        | (refine Case.decF (by assumption) ?_; conv => whnf)
        | (refine Case.decT (by omega) ?_; conv => whnf)
        | (refine Case.decF (by omega) ?_; conv => whnf)
        | (refine Case.beqT (by omega) ?_; conv => whnf)
        | (refine Case.beqF (by omega) ?_; conv => whnf)
        | (refine Case.strT (by assumption) ?_; conv => whnf)
        | (refine Case.strF (by assumption) ?_; conv => whnf)
        | (refine Case.strF (by simp only [*]; decide) ?_; conv => whnf)
        | (refine valive_spec.call rfl ?_; conv => whnf)
        | (refine step_kinds 2 ?hk ?_; (case hk => decide +kernel); conv => whnf)
        | (refine step_kinds 3 ?hk ?_; (case hk => decide +kernel); conv => whnf)
        | (refine step_auto 2 ?hk ?_; (case hk => decide +kernel); conv => whnf)
        | (refine step_auto 3 ?hk ?_; (case hk => decide +kernel); conv => whnf)
        | (refine Num.id (by omega) (by omega) ?_; conv => whnf)
        | (refine Case.strI (fun _ => ?_) (fun _ => ?_) <;> conv => whnf)
        | (refine Both.mk ?_ ?_ <;> conv => whnf)
        | (refine Case.dec (fun _ => ?_) (fun _ => ?_) <;> conv => whnf)
        | (refine Case.beqI (fun _ => ?_) (fun _ => ?_) <;> conv => whnf)
        | (refine Case.mk (fun _ => ?_) (fun _ => ?_) <;> conv => whnf)
        | (refine Way.fst ?_; conv => whnf)
      exact Fin.isB rfl
    · conv => whnf
      repeat' first
        | (refine Case.not ?_; conv => whnf)
        | (refine Case.yes ?_; conv => whnf)
        | (refine Case.no ?_; conv => whnf)
        | (refine Case.isTrue (by assumption) ?_; conv => whnf)
        | (refine Case.isFalse (by assumption) ?_; conv => whnf)
        | (refine Case.decT (by assumption) ?_; conv => whnf)
        | (refine Case.decF (by assumption) ?_; conv => whnf)
        | (refine Case.decT (by omega) ?_; conv => whnf)
        | (refine Case.decF (by omega) ?_; conv => whnf)
        | (refine Case.beqT (by omega) ?_; conv => whnf)
        | (refine Case.beqF (by omega) ?_; conv => whnf)
        | (refine Case.strT (by assumption) ?_; conv => whnf)
        | (refine Case.strF (by assumption) ?_; conv => whnf)
        | (refine Case.strF (by simp only [*]; decide) ?_; conv => whnf)
        | (refine valive_spec.call rfl ?_; conv => whnf)
        | (refine step_kinds 2 ?hk ?_; (case hk => decide +kernel); conv => whnf)
        | (refine step_kinds 3 ?hk ?_; (case hk => decide +kernel); conv => whnf)
        | (refine step_auto 2 ?hk ?_; (case hk => decide +kernel); conv => whnf)
        | (refine step_auto 3 ?hk ?_; (case hk => decide +kernel); conv => whnf)
        | (refine Num.id (by omega) (by omega) ?_; conv => whnf)
        | (refine Case.strI (fun _ => ?_) (fun _ => ?_) <;> conv => whnf)
        | (refine Both.mk ?_ ?_ <;> conv => whnf)
        | (refine Case.dec (fun _ => ?_) (fun _ => ?_) <;> conv => whnf)
        | (refine Case.beqI (fun _ => ?_) (fun _ => ?_) <;> conv => whnf)
        | (refine Case.mk (fun _ => ?_) (fun _ => ?_) <;> conv => whnf)
        | (refine Way.fst ?_; conv => whnf)
      exact Fin.isB rfl
theorem walkValueWide (p q : Int) (l : List Bool) (W : World) {v : Value} (_ : (Lit.int .i64 p).wf = true) (_ : (Lit.int .i64 q).wf = true) (hv : RepF (fun b => b < W.heap.size) W (.sl (l.map fun b => [.v (.bool b)])) v) : Calls Tryd.prog 4 #[.int .i64 p, .int .i64 q, v] W fun e w' => e = .returned (.bool true) ∧ Below W.heap.size W w' :=
  calls_of_spec (valueWide_spec p q l).2 W (laidOk W) [.int .i64 p, .int .i64 q, v] (repL_cons (rep_val rfl) (repL_cons (rep_val rfl) (repL_cons (by unfold Rep; exact hv) repL_nil)))
end Go.Proofs.YtofjmhigfihhbaaDoor.Aw
