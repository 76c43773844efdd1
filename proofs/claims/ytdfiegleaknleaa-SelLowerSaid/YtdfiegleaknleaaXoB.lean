/- SelLower: its walk. -/
import Derived.Test.YtdfiegleaknleaaXoA
import Derived.Test.YtdfiegleaknleaaAwVD
namespace Go.Proofs.Ytdfiegleaknleaa.Aw
open Go Go.RowKit Go.Lib
set_option linter.unusedVariables false
set_option linter.unusedSimpArgs false
set_option maxRecDepth 100000
def boolsV (l : List Bool) : List (List F) := l.map fun b => [.v (.bool b)]
theorem boolsV_get {l : List Bool} {i : Nat} {b : Bool} (h : l[i]? = some b) : (boolsV l)[i]? = some [.v (.bool b)] := by simp [boolsV, h]
theorem boolsV_row {l : List Bool} : ∀ e ∈ boolsV l, e.length = 1 := fun e h => by
  unfold boolsV at h
  obtain ⟨b, _, rfl⟩ := List.mem_map.1 h
  rfl
theorem wrapU8 {x : Int} (h1 : 0 ≤ x) (h2 : x < 256) : IntKind.u8.wrap x = x := by
  have e1 : (2 ^ IntKind.u8.bits : Int) = 256 := by decide
  unfold IntKind.wrap
  rw [e1]
  simp only [show IntKind.u8.signed = false from rfl, Bool.false_and, Bool.false_eq_true, if_false]
  omega
theorem Num.idU8 {x : Int} {K : Int → Prop} (h1 : 0 ≤ x) (h2 : x < 256) (h : K x) : Num .u8 x K := Num.wrap (by rw [wrapU8 h1 h2]; exact h)
structure WidI (w : List UInt8) (s : Nat × List UInt8) : Prop where
  le : s.1 ≤ w.length
  len : s.2.length = w.length
  tl : s.2.drop s.1 = w.drop s.1
  low : lower s.2 = w
theorem lowU {c : UInt8} (h : 97 ≤ c.toNat ∧ c.toNat ≤ 122) : Low.lowC (c - 32) = Low.lowC c ∧ (c - 32).toNat = c.toNat - 32 := by
  have : ∀ n : _root_.Fin 26, Low.lowC (UInt8.ofNat (97 + n.val) - 32) = Low.lowC (UInt8.ofNat (97 + n.val)) ∧ (UInt8.ofNat (97 + n.val) - 32).toNat = (UInt8.ofNat (97 + n.val)).toNat - 32 := by decide +kernel
  have h2 := this ⟨c.toNat - 97, by omega⟩
  have e : UInt8.ofNat (97 + (c.toNat - 97)) = c := by
    rw [show 97 + (c.toNat - 97) = c.toNat by omega]
    exact UInt8.ofNat_toNat
  simp only [e] at h2
  exact h2
theorem WidI.up {w bs : List UInt8} {i : Nat} {c : UInt8} (h : WidI w (i, bs)) (hi : i < w.length) (hc : bs[i]? = some c) (hl : 97 ≤ c.toNat ∧ c.toNat ≤ 122) : WidI w (i + 1, bs.set i (c - 32)) := by
  obtain ⟨h1, h2, h3, h4⟩ := h
  dsimp only at h1 h2 h3 h4
  refine ⟨hi, by simpa using h2, ?_, ?_⟩
  · dsimp only
    have := congrArg (List.drop 1) h3
    rw [List.drop_drop, List.drop_drop] at this
    rw [List.drop_set_of_lt (by omega)]
    exact this
  · dsimp only
    rw [← h4]
    unfold lower
    rw [List.map_set, (lowU hl).1]
    have hi2 : i < bs.length := by omega
    rw [List.getElem?_eq_getElem hi2] at hc
    cases hc
    apply List.ext_getElem
    · simp
    · intro n h5 h6
      rw [List.getElem_set]
      split
      · rename_i e; subst e; simp
      · rfl
theorem WidI.go {w bs : List UInt8} {i : Nat} (h : WidI w (i, bs)) (hi : i < w.length) : WidI w (i + 1, bs) := by
  obtain ⟨h1, h2, h3, h4⟩ := h
  dsimp only at h1 h2 h3 h4
  refine ⟨hi, h2, ?_, h4⟩
  have := congrArg (List.drop 1) h3
  rw [List.drop_drop, List.drop_drop] at this
  exact this
theorem low_w : ∀ c ∈ LowW, ¬ (c.toNat ≥ 97 ∧ c.toNat ≤ 122) ∨ 97 ≤ c.toNat ∧ c.toNat ≤ 122 := by decide
theorem att_eqL {n n' : List UInt8} {o o' : Int} {t t' : List UInt8} (h1 : n = n') (h2 : o = o') (h3 : t = t') : ((⟨n.toArray⟩ : ByteArray).toList == (⟨n'.toArray⟩ : ByteArray).toList && (o == o' && ((⟨t.toArray⟩ : ByteArray).toList == (⟨t'.toArray⟩ : ByteArray).toList && true))) = true := by
  subst h1 h2 h3
  simp
theorem bytes_row {l : List UInt8} : ∀ e ∈ l.map byteRow, e.length = 1 := fun e h => by
  obtain ⟨b, _, rfl⟩ := List.mem_map.1 h
  rfl
set_option maxHeartbeats 4000000 in
theorem selLower_spec (u : List Bool) : Pure 12 [.f (.sl (boolsV u))] (bool true) := by
  have hul : (boolsV u).length = u.length := List.length_map ..
  refine .mk trivial (spec_mk tab_ok Try.func12 (by rfl) rfl ?_)
  conv => whnf
  repeat' first
    | (refine Case.not ?_; conv => whnf)
    | (refine Case.yes ?_; conv => whnf)
    | (refine Case.no ?_; conv => whnf)
    | (refine Case.isTrue (by with_reducible assumption) ?_; conv => whnf)
    | (refine Case.isFalse (by with_reducible assumption) ?_; conv => whnf)
    | (refine Case.decT (by with_reducible assumption) ?_; conv => whnf)
    | (refine Case.decF (by with_reducible assumption) ?_; conv => whnf)
    | (refine Case.decT (by omega) ?_; conv => whnf)
    | (refine Case.decF (by omega) ?_; conv => whnf)
    | (refine Case.beqT (by omega) ?_; conv => whnf)
    | (refine Case.beqF (by omega) ?_; conv => whnf)
    | (refine Case.strT (by with_reducible assumption) ?_; conv => whnf)
    | (refine Case.strF (by with_reducible assumption) ?_; conv => whnf)
    | (refine Case.strF (by simp only [*]; decide) ?_; conv => whnf)
    | (refine alive_spec.call rfl ?_; conv => whnf)
    | (refine Owes.mk (by decide) ?_; conv => whnf)
    | (refine Way.snd ?_; conv => whnf)
    | (refine step_kinds 2 ?hk ?_; (case hk => decide +kernel); conv => whnf)
    | (refine step_kinds 3 ?hk ?_; (case hk => decide +kernel); conv => whnf)
    | (refine Num.id (by omega) (by omega) ?_; conv => whnf)
    | (refine Case.strI (fun _ => ?_) (fun _ => ?_) <;> conv => whnf)
    | (refine Both.mk ?_ ?_ <;> conv => whnf)
    | (refine Case.dec (fun _ => ?_) (fun _ => ?_) <;> conv => whnf)
    | (refine Case.beqI (fun _ => ?_) (fun _ => ?_) <;> conv => whnf)
    | (refine Case.mk (fun _ => ?_) (fun _ => ?_) <;> conv => whnf)
    | (refine Way.fst ?_; conv => whnf)
  · exact Fin.isB rfl
  rename_i hu0
  have hu : ¬ (u.length : Int) < 20 := by rw [hul] at hu0; exact hu0
  clear hu0
  refine step_loop tab_ok (fun s : Nat × List UInt8 => padK [.f (.sl (boolsV u)), .junk, .junk, .junk, .own 0 5 1 (s.2.map byteRow), int s.1] 149) (fun _ => []) 1 (WidI LowW) (fun s => 20 - s.1) (0, LowW) ⟨by simp, rfl, rfl, by decide⟩ (fun _ => rfl) ?_ ?_
  ·
    repeat' first | exact trivial | exact rfl | exact Nat.zero_le _ | exact Nat.zero_lt_succ _ | exact (by decide : (0 : Nat) < 1) | exact (by decide : (1 : Nat) < 4) | exact (by decide : (2 : Nat) < 4) | exact (by decide : (3 : Nat) < 4) | exact (by decide : (1 : Nat) < 2) | exact (by decide : (2 : Nat) < 3) | exact congrArg int (by (try dsimp only); omega) | exact congrArg bool (by (try dsimp only); simp; omega) | (show _ < List.length _; simp; done) | apply And.intro
  · rintro ⟨i, bs⟩ hI
    have h2 := hI.len
    have h3 := hI.tl
    have h4 := hI.low
    dsimp only at h2 h3 h4 ⊢
    have hw : LowW.length = 20 := rfl
    have hbl : (bs.map byteRow).length = bs.length := List.length_map ..
    by_cases h0 : i < 20
    · obtain ⟨x, hx⟩ : ∃ x, u[i]? = some x := ⟨_, List.getElem?_eq_getElem (by omega)⟩
      obtain ⟨c, hc⟩ : ∃ c, bs[i]? = some c := ⟨_, List.getElem?_eq_getElem (by omega)⟩
      have hg := boolsV_get hx
      have hcb : (bs.map byteRow)[i]? = some [.v (.int .u8 (c.toNat : Int))] := by simp [hc, byteRow]
      have hcb' : (bs.map byteRow)[(i : Int).toNat]? = some [.v (.int .u8 (c.toNat : Int))] := hcb
      have hG := hI.go (by omega)
      have hU := hI.up (by omega) hc
      clear h3 h4
      conv => whnf
      cases x
      ·
        repeat' first
          | (refine Case.not ?_; conv => whnf)
          | (refine Case.yes ?_; conv => whnf)
          | (refine Case.no ?_; conv => whnf)
          | (refine Case.isTrue (by with_reducible assumption) ?_; conv => whnf)
          | (refine Case.isFalse (by with_reducible assumption) ?_; conv => whnf)
          | (refine Case.decT (by with_reducible assumption) ?_; conv => whnf)
          | (refine Case.decF (by with_reducible assumption) ?_; conv => whnf)
          | (refine Case.decT (by omega) ?_; conv => whnf)
          | (refine Case.decF (by omega) ?_; conv => whnf)
          | (refine Case.beqT (by omega) ?_; conv => whnf)
          | (refine Case.beqF (by omega) ?_; conv => whnf)
          | (refine Case.strT (by with_reducible assumption) ?_; conv => whnf)
          | (refine Case.strF (by with_reducible assumption) ?_; conv => whnf)
          | (refine Case.strF (by simp only [*]; decide) ?_; conv => whnf)
          | (refine Owes.mk boolsV_row ?_; conv => whnf)
          | (refine Elem.mk i _ rfl hg ?_; conv => whnf)
          | (refine Elem.mk i _ rfl hcb ?_; conv => whnf)
          | (rw [hcb']; conv => whnf)
          | (refine Owes.mk rfl ?_; conv => whnf)
          | (refine step_kinds 2 ?hk ?_; (case hk => decide +kernel); conv => whnf)
          | (refine step_kinds 3 ?hk ?_; (case hk => decide +kernel); conv => whnf)
          | (refine Num.id (by omega) (by omega) ?_; conv => whnf)
          | (refine Case.strI (fun _ => ?_) (fun _ => ?_) <;> conv => whnf)
          | (refine Both.mk ?_ ?_ <;> conv => whnf)
          | (refine Case.dec (fun _ => ?_) (fun _ => ?_) <;> conv => whnf)
          | (refine Case.beqI (fun _ => ?_) (fun _ => ?_) <;> conv => whnf)
          | (refine Case.mk (fun _ => ?_) (fun _ => ?_) <;> conv => whnf)
          | (refine Way.fst ?_; conv => whnf)
        refine ⟨(i + 1, bs), hG, by dsimp only; omega, ?_⟩
        repeat' first | exact trivial | exact rfl | exact Nat.zero_le _ | exact Nat.zero_lt_succ _ | exact (by decide : (0 : Nat) < 1) | exact (by decide : (1 : Nat) < 4) | exact (by decide : (2 : Nat) < 4) | exact (by decide : (3 : Nat) < 4) | exact (by decide : (1 : Nat) < 2) | exact (by decide : (2 : Nat) < 3) | exact congrArg int (by (try dsimp only); omega) | exact congrArg bool (by (try dsimp only); simp; omega) | (show _ < List.length _; simp; done) | apply And.intro
      ·
        repeat' first
          | (refine Case.not ?_; conv => whnf)
          | (refine Case.yes ?_; conv => whnf)
          | (refine Case.no ?_; conv => whnf)
          | (refine Case.isTrue (by with_reducible assumption) ?_; conv => whnf)
          | (refine Case.isFalse (by with_reducible assumption) ?_; conv => whnf)
          | (refine Case.decT (by with_reducible assumption) ?_; conv => whnf)
          | (refine Case.decF (by with_reducible assumption) ?_; conv => whnf)
          | (refine Case.decT (by omega) ?_; conv => whnf)
          | (refine Case.decF (by omega) ?_; conv => whnf)
          | (refine Case.beqT (by omega) ?_; conv => whnf)
          | (refine Case.beqF (by omega) ?_; conv => whnf)
          | (refine Case.strT (by with_reducible assumption) ?_; conv => whnf)
          | (refine Case.strF (by with_reducible assumption) ?_; conv => whnf)
          | (refine Case.strF (by simp only [*]; decide) ?_; conv => whnf)
          | (refine Owes.mk boolsV_row ?_; conv => whnf)
          | (refine Elem.mk i _ rfl hg ?_; conv => whnf)
          | (refine Elem.mk i _ rfl hcb ?_; conv => whnf)
          | (rw [hcb']; conv => whnf)
          | (refine Owes.mk rfl ?_; conv => whnf)
          | (refine Num.idU8 (by omega) (by omega) ?_; conv => whnf)
          | (refine step_kinds 2 ?hk ?_; (case hk => decide +kernel); conv => whnf)
          | (refine step_kinds 3 ?hk ?_; (case hk => decide +kernel); conv => whnf)
          | (refine Num.id (by omega) (by omega) ?_; conv => whnf)
          | (refine Case.strI (fun _ => ?_) (fun _ => ?_) <;> conv => whnf)
          | (refine Both.mk ?_ ?_ <;> conv => whnf)
          | (refine Case.dec (fun _ => ?_) (fun _ => ?_) <;> conv => whnf)
          | (refine Case.beqI (fun _ => ?_) (fun _ => ?_) <;> conv => whnf)
          | (refine Case.mk (fun _ => ?_) (fun _ => ?_) <;> conv => whnf)
          | (refine Way.fst ?_; conv => whnf)
        all_goals first
          | (refine ⟨(i + 1, bs), hG, by dsimp only; omega, ?_⟩
             repeat' first | exact trivial | exact rfl | exact Nat.zero_le _ | exact Nat.zero_lt_succ _ | exact (by decide : (0 : Nat) < 1) | exact (by decide : (1 : Nat) < 4) | exact (by decide : (2 : Nat) < 4) | exact (by decide : (3 : Nat) < 4) | exact (by decide : (1 : Nat) < 2) | exact (by decide : (2 : Nat) < 3) | exact congrArg int (by (try dsimp only); omega) | exact congrArg bool (by (try dsimp only); simp; omega) | (show _ < List.length _; simp; done) | apply And.intro
             done)
          | skip
        have hcl : 97 ≤ c.toNat ∧ c.toNat ≤ 122 := by omega
        have hU := hU hcl
        have er : (bs.map byteRow).set (i : Int).toNat [.v (.int .u8 ((c.toNat : Int) - 32))] = (bs.set i (c - 32)).map byteRow := by
          rw [List.map_set, Int.toNat_natCast]
          unfold byteRow
          rw [(lowU hcl).2, show (((c.toNat - 32 : Nat)) : Int) = (c.toNat : Int) - 32 by omega]
        refine ⟨(i + 1, bs.set i (c - 32)), hU, by dsimp only; omega, ?_⟩
        dsimp only
        rw [← er]
        repeat' first | exact trivial | exact rfl | exact Nat.zero_le _ | exact Nat.zero_lt_succ _ | exact (by decide : (0 : Nat) < 1) | exact (by decide : (1 : Nat) < 4) | exact (by decide : (2 : Nat) < 4) | exact (by decide : (3 : Nat) < 4) | exact (by decide : (1 : Nat) < 2) | exact (by decide : (2 : Nat) < 3) | exact congrArg int (by (try dsimp only); omega) | exact congrArg bool (by (try dsimp only); simp; omega) | (show _ < List.length _; simp; done) | apply And.intro
    · obtain ⟨t1, t2, t3, t4, t5, t6, hS⟩ := lowS_of h4
      have hz : bs.length = 20 := by omega
      have ht := low_tokens hS
      have hpr := low_parse (t1 := t1) (t2 := t2) (t3 := t3) (t4 := t4) (t5 := t5) hS.l6
      have ho := of_spec ⟨bs.toArray⟩ (by show bs.length < _; omega)
      have hf : Fit (ofT ⟨bs.toArray⟩) := ofT_fit _ (by show bs.length < _; omega)
      have hp := parse_spec hf
      rw [ht] at ho hp
      rw [hpr, hS.l1, hS.l4] at hp
      clear h3 h4 hI
      conv => whnf
      repeat' first
        | (refine Case.not ?_; conv => whnf)
        | (refine Case.yes ?_; conv => whnf)
        | (refine Case.no ?_; conv => whnf)
        | (refine Case.isTrue (by with_reducible assumption) ?_; conv => whnf)
        | (refine Case.isFalse (by with_reducible assumption) ?_; conv => whnf)
        | (refine Case.decT (by with_reducible assumption) ?_; conv => whnf)
        | (refine Case.decF (by with_reducible assumption) ?_; conv => whnf)
        | (refine Case.decT (by omega) ?_; conv => whnf)
        | (refine Case.decF (by omega) ?_; conv => whnf)
        | (refine Case.beqT (by omega) ?_; conv => whnf)
        | (refine Case.beqF (by omega) ?_; conv => whnf)
        | (refine Owes.mk rfl ?_; conv => whnf)
        | (refine AsBytes.mk bs rfl ?_; conv => whnf)
        | (refine ho.call ?_; conv => whnf)
        | (refine hp.call ?_; conv => whnf)
        | (refine Owes.mk sels_row ?_; conv => whnf)
        | (refine Owes.mk parts_row ?_; conv => whnf)
        | (refine Owes.mk atts_row ?_; conv => whnf)
        | (refine Owes.mk strs_row ?_; conv => whnf)
        | (refine Owes.mk pss_row ?_; conv => whnf)
        | (refine Elem.mk 0 _ rfl rfl ?_; conv => whnf)
        | (refine Case.isTrue (by decide) ?_; conv => whnf)
        | (refine Case.isFalse (by decide) ?_; conv => whnf)
        | (refine Num.id (by omega) (by omega) ?_; conv => whnf)
        | (refine Case.dec (fun _ => ?_) (fun _ => ?_) <;> conv => whnf)
        | (refine Case.beqI (fun _ => ?_) (fun _ => ?_) <;> conv => whnf)
        | (refine Case.mk (fun _ => ?_) (fun _ => ?_) <;> conv => whnf)
        | (refine Way.fst ?_; conv => whnf)
      refine step_freeze 0 ?_
      refine step_into (E' := padK [.junk, .junk, .junk, .junk, .f (.sl (bs.map byteRow)), .junk, .junk, .junk, .ptr 0 0] 149) (H' := [some [.f (fs [97, 98]), .f (.sl (strs [t2])), .f (.sl (strs [t3])), .f (.sl ([({ name := [103, 104], op := 1, text := t5 } : Att)].map Att.row)), .f (.sl ([({ kind := 1 } : Psd)].map Psd.row))]]) (n' := 1) rfl ?_ ?_
      ·
        repeat' first | exact trivial | exact rfl | exact Nat.zero_le _ | exact Nat.zero_lt_succ _ | exact (by decide : (0 : Nat) < 1) | exact (by decide : (1 : Nat) < 4) | exact (by decide : (2 : Nat) < 4) | exact (by decide : (3 : Nat) < 4) | exact (by decide : (1 : Nat) < 2) | exact (by decide : (2 : Nat) < 3) | exact congrArg int (by (try dsimp only); omega) | exact congrArg bool (by (try dsimp only); simp; omega) | (show _ < List.length _; simp; done) | apply And.intro
        all_goals skip
      conv => whnf
      refine V3.step_draws tab_ok mix (V3.trA [(0,0), (1,1), (2,0), (3,0), (4,0), (5,1), (6,0), (7,0), (8,0), (9,0), (10,0), (11,1), (12,0), (13,1), (14,0), (15,0), (16,1), (17,0), (18,0), (19,0), (20,0), (21,1), (22,0), (23,0), (24,0), (25,0), (26,0), (27,1), (28,0), (29,1), (30,0), (31,0), (32,1), (33,0), (34,0), (35,0), (36,0), (37,1), (38,0), (39,0), (40,0), (41,0), (42,0), (43,1), (44,0), (45,1), (46,0), (47,0), (48,1), (49,0), (50,0), (51,0), (52,0), (53,0), (54,1), (55,0), (56,0), (57,0), (58,0), (59,0), (60,1), (61,0), (62,0), (63,1), (64,0), (65,0), (66,0)] .done) [] (by decide +kernel) ?_
      have e1 : ((⟨#[97, 98]⟩ : ByteArray).toList == (⟨#[97, 98]⟩ : ByteArray).toList) = true := by simp
      have e2 : ((⟨t2.toArray⟩ : ByteArray).toList == (⟨t2.toArray⟩ : ByteArray).toList) = true := by simp
      have e3 : ((⟨t3.toArray⟩ : ByteArray).toList == (⟨t3.toArray⟩ : ByteArray).toList) = true := by simp
      have hm : ∀ a b t, (bs.take a).drop b = t → ((bs.map byteRow).take a).drop b = t.map byteRow := fun a b t h => by rw [← h, List.map_drop, List.map_take]
      conv => whnf
      repeat' first
        | (refine Case.not ?_; conv => whnf)
        | (refine Case.yes ?_; conv => whnf)
        | (refine Case.no ?_; conv => whnf)
        | (refine Case.isTrue (by with_reducible assumption) ?_; conv => whnf)
        | (refine Case.isFalse (by with_reducible assumption) ?_; conv => whnf)
        | (refine Case.decT (by with_reducible assumption) ?_; conv => whnf)
        | (refine Case.decF (by with_reducible assumption) ?_; conv => whnf)
        | (refine Case.decT (by omega) ?_; conv => whnf)
        | (refine Case.decF (by omega) ?_; conv => whnf)
        | (refine Case.beqT (by omega) ?_; conv => whnf)
        | (refine Case.beqF (by omega) ?_; conv => whnf)
        | (refine Owes.mk bytes_row ?_; conv => whnf)
        | (refine Part.mk 3 5 rfl rfl (by decide) (by rw [hbl]; omega) ?_; conv => whnf)
        | (refine Part.mk 6 8 rfl rfl (by decide) (by rw [hbl]; omega) ?_; conv => whnf)
        | (refine Part.mk 12 14 rfl rfl (by decide) (by rw [hbl]; omega) ?_; conv => whnf)
        | (refine AsBytes.mk t2 (hm _ _ _ hS.c2) ?_; conv => whnf)
        | (refine AsBytes.mk t3 (hm _ _ _ hS.c3) ?_; conv => whnf)
        | (refine AsBytes.mk t5 (hm _ _ _ hS.c5) ?_; conv => whnf)
        | (refine Case.isTrue (att_eqL rfl rfl rfl) ?_; conv => whnf)
        | (refine Owes.mk atts_row ?_; conv => whnf)
        | (refine Owes.mk strs_row ?_; conv => whnf)
        | (refine Owes.mk pss_row ?_; conv => whnf)
        | (refine Elem.mk 0 _ rfl rfl ?_; conv => whnf)
        | (refine Case.isTrue (by decide) ?_; conv => whnf)
        | (refine Case.isFalse (by decide) ?_; conv => whnf)
        | (refine Num.id (by omega) (by omega) ?_; conv => whnf)
        | (refine Case.dec (fun _ => ?_) (fun _ => ?_) <;> conv => whnf)
        | (refine Case.beqI (fun _ => ?_) (fun _ => ?_) <;> conv => whnf)
        | (refine Case.mk (fun _ => ?_) (fun _ => ?_) <;> conv => whnf)
        | (refine Way.fst ?_; conv => whnf)
      exact Fin.isB rfl
theorem walkSelLower (l : List Bool) (W : World) {v : Value} (hv : RepF (fun b => b < W.heap.size) W (.sl (l.map fun b => [.v (.bool b)])) v) : Calls Try.prog 12 #[v] W fun e w' => e = .returned (.bool true) ∧ Below W.heap.size W w' :=
  calls_of_spec (selLower_spec l).2 W (laidOk W) [v] (repL_cons (by unfold Rep; exact hv) repL_nil)
end Go.Proofs.Ytdfiegleaknleaa.Aw
