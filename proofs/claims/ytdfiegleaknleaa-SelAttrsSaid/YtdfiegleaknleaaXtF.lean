/- SelAttrs: its walk. -/
import Derived.Test.YtdfiegleaknleaaXtE
namespace Go.Proofs.Ytdfiegleaknleaa.Aw
open Go Go.RowKit Go.Lib
set_option linter.unusedVariables false
set_option linter.unusedSimpArgs false
set_option maxRecDepth 100000
def opsS : List (List UInt8) := [[], [61], [126, 61], [124, 61], [94, 61], [36, 61], [42, 61]]
theorem opsS_get {k : Nat} (h : k ≤ 6) : opsS[k]? = some (opL k) := by
  have : k = 0 ∨ k = 1 ∨ k = 2 ∨ k = 3 ∨ k = 4 ∨ k = 5 ∨ k = 6 := by omega
  rcases this with rfl | rfl | rfl | rfl | rfl | rfl | rfl <;> rfl
abbrev sOf (l : List UInt8) : ByteArray := ⟨l.toArray⟩
theorem sOf_app_size (a b : List UInt8) : (sOf a ++ sOf b).size = a.length + b.length := by
  rw [ByteArray.size_append]
  rfl
theorem att_eqK {n n' : List UInt8} {o o' : Int} {t t' : List UInt8} (h1 : n = n') (h2 : o = o') (h3 : t = t') : ((⟨n.toArray⟩ : ByteArray).toList == (⟨n'.toArray⟩ : ByteArray).toList && (o == o' && ((⟨t.toArray⟩ : ByteArray).toList == (⟨t'.toArray⟩ : ByteArray).toList && true))) = true := by
  subst h1 h2 h3
  simp
theorem opL_len : ∀ k, (opL k).length ≤ 2
  | 0 => by decide | 1 => by decide | 2 => by decide | 3 => by decide | 4 => by decide | 5 => by decide
  | _ + 6 => by show 2 ≤ 2; omega
set_option maxHeartbeats 4000000 in
theorem selAttrs_spec (ns : List UInt8) (op : Int) (ws : List UInt8) (q b : Bool) (hop : -9223372036854775808 ≤ op ∧ op < 9223372036854775808) : Pure 6 [.str (sOf ns), int op, .str (sOf ws), bool q, bool b] (bool true) := by
  have hns : (sOf ns).size = ns.length := rfl
  have hws : (sOf ws).size = ws.length := rfl
  refine ⟨trivial, spec_mk tab_ok Try.func6 (by rfl) rfl ?_⟩
  conv => whnf
  repeat' first
    | (refine Case.not ?_; conv => whnf)
    | (refine Case.yes ?_; conv => whnf)
    | (refine Case.no ?_; conv => whnf)
    | (refine Case.isTrue (by assumption) ?_; conv => whnf)
    | (refine Case.isFalse (by assumption) ?_; conv => whnf)
    | (refine Case.decT (by assumption) ?_; conv => whnf)
    | (refine Case.decF (by assumption) ?_; conv => whnf)
    | (refine Case.decT (by omega) ?_; conv => whnf)
    | (refine Case.decF (by omega) ?_; conv => whnf)
    | (refine Case.beqT (by omega) ?_; conv => whnf)
    | (refine Case.beqF (by omega) ?_; conv => whnf)
    | (refine Case.strT (by assumption) ?_; conv => whnf)
    | (refine Case.strF (by assumption) ?_; conv => whnf)
    | (refine Case.strF (by simp only [*]; decide) ?_; conv => whnf)
    | (refine alive_spec.call rfl ?_; conv => whnf)
    | (refine step_kinds 2 ?hk ?_; (case hk => decide +kernel); conv => whnf)
    | (refine step_kinds 3 ?hk ?_; (case hk => decide +kernel); conv => whnf)
    | (refine Num.id (by omega) (by omega) ?_; conv => whnf)
    | (refine Case.strI (fun _ => ?_) (fun _ => ?_) <;> conv => whnf)
    | (refine Both.mk ?_ ?_ <;> conv => whnf)
    | (refine Case.dec (fun _ => ?_) (fun _ => ?_) <;> conv => whnf)
    | (refine Case.beqI (fun _ => ?_) (fun _ => ?_) <;> conv => whnf)
    | (refine Case.mk (fun _ => ?_) (fun _ => ?_) <;> conv => whnf)
  · exact Fin.isB rfl
  · exact Fin.isB rfl
  · exact Fin.isB rfl
  · exact Fin.isB rfl
  have hcat : (sOf ns ++ sOf ws).data.toList = ns ++ ws := by rw [app_toList]
  repeat' first
    | (refine Case.not ?_; conv => whnf)
    | (refine Case.yes ?_; conv => whnf)
    | (refine Case.no ?_; conv => whnf)
    | (refine Case.isTrue (by assumption) ?_; conv => whnf)
    | (refine Case.isFalse (by assumption) ?_; conv => whnf)
    | (refine Case.decT (by assumption) ?_; conv => whnf)
    | (refine Case.decF (by assumption) ?_; conv => whnf)
    | (refine Case.decT (by omega) ?_; conv => whnf)
    | (refine Case.decF (by omega) ?_; conv => whnf)
    | (refine Case.beqT (by omega) ?_; conv => whnf)
    | (refine Case.beqF (by omega) ?_; conv => whnf)
    | (refine Case.strT (by assumption) ?_; conv => whnf)
    | (refine Case.strF (by assumption) ?_; conv => whnf)
    | (refine Case.strF (by simp only [*]; decide) ?_; conv => whnf)
    | (refine Owes.mk (by omega) ?_; conv => whnf)
    | (refine step_kinds 2 ?hk ?_; (case hk => decide +kernel); conv => whnf)
    | (refine step_kinds 3 ?hk ?_; (case hk => decide +kernel); conv => whnf)
    | (refine Num.id (by omega) (by omega) ?_; conv => whnf)
    | (refine Case.strI (fun _ => ?_) (fun _ => ?_) <;> conv => whnf)
    | (refine Both.mk ?_ ?_ <;> conv => whnf)
    | (refine Case.dec (fun _ => ?_) (fun _ => ?_) <;> conv => whnf)
    | (refine Case.beqI (fun _ => ?_) (fun _ => ?_) <;> conv => whnf)
    | (refine Case.mk (fun _ => ?_) (fun _ => ?_) <;> conv => whnf)
  refine step_loop tab_ok (fun i : Nat => padK [.str (sOf ns), int op, .str (sOf ws), bool q, bool b, .junk, .junk, .junk, .junk, .junk, .junk, .junk, .own 0 9 1 (strs opsS), .str (sOf ns ++ sOf ws), int i] 158) (fun _ => []) 1 (fun i => i ≤ ns.length + ws.length ∧ ∀ x ∈ (ns ++ ws).take i, 97 ≤ x.toNat ∧ x.toNat ≤ 122) (fun i => ns.length + ws.length - i) 0 ⟨by omega, by simp⟩ (fun _ => rfl) ?_ ?_
  ·
    repeat' first | exact trivial | exact rfl | exact Nat.zero_le _ | exact Nat.zero_lt_succ _ | exact (by decide : (0 : Nat) < 1) | exact (by decide : (1 : Nat) < 4) | exact (by decide : (2 : Nat) < 4) | exact (by decide : (3 : Nat) < 4) | exact (by decide : (1 : Nat) < 2) | exact (by decide : (2 : Nat) < 3) | exact congrArg int (by (try dsimp only); omega) | exact congrArg bool (by (try dsimp only); simp; omega) | (show _ < List.length _; simp; done) | apply And.intro
  · rintro i ⟨hi, hx⟩
    have hz : (sOf ns ++ sOf ws).size = ns.length + ws.length := sOf_app_size ns ws
    conv => whnf
    refine Case.dec (fun h0 => ?_) (fun h0 => ?_)
    · obtain ⟨c, hc⟩ : ∃ c, (ns ++ ws)[i]? = some c := ⟨_, List.getElem?_eq_getElem (by simp; omega)⟩
      have hb := c.toNat_lt
      conv => whnf
      repeat' first
        | (refine Case.not ?_; conv => whnf)
        | (refine Case.yes ?_; conv => whnf)
        | (refine Case.no ?_; conv => whnf)
        | (refine Case.isTrue (by assumption) ?_; conv => whnf)
        | (refine Case.isFalse (by assumption) ?_; conv => whnf)
        | (refine Case.decT (by assumption) ?_; conv => whnf)
        | (refine Case.decF (by assumption) ?_; conv => whnf)
        | (refine Case.decT (by omega) ?_; conv => whnf)
        | (refine Case.decF (by omega) ?_; conv => whnf)
        | (refine Case.beqT (by omega) ?_; conv => whnf)
        | (refine Case.beqF (by omega) ?_; conv => whnf)
        | (refine Case.strT (by assumption) ?_; conv => whnf)
        | (refine Case.strF (by assumption) ?_; conv => whnf)
        | (refine Case.strF (by simp only [*]; decide) ?_; conv => whnf)
        | (refine Byte.mk i c rfl (by rw [hcat]; exact hc) ?_; conv => whnf)
        | (refine step_kinds 2 ?hk ?_; (case hk => decide +kernel); conv => whnf)
        | (refine step_kinds 3 ?hk ?_; (case hk => decide +kernel); conv => whnf)
        | (refine Num.id (by omega) (by omega) ?_; conv => whnf)
        | (refine Case.strI (fun _ => ?_) (fun _ => ?_) <;> conv => whnf)
        | (refine Both.mk ?_ ?_ <;> conv => whnf)
        | (refine Case.dec (fun _ => ?_) (fun _ => ?_) <;> conv => whnf)
        | (refine Case.beqI (fun _ => ?_) (fun _ => ?_) <;> conv => whnf)
        | (refine Case.mk (fun _ => ?_) (fun _ => ?_) <;> conv => whnf)
      · exact Fin.isB rfl
      · exact Fin.isB rfl
      · rename_i h5 h6
        refine ⟨i + 1, ⟨by omega, take_step hx hc ⟨by omega, by omega⟩⟩, by omega, ?_⟩
        repeat' first | exact trivial | exact rfl | exact Nat.zero_le _ | exact Nat.zero_lt_succ _ | exact (by decide : (0 : Nat) < 1) | exact (by decide : (1 : Nat) < 4) | exact (by decide : (2 : Nat) < 4) | exact (by decide : (3 : Nat) < 4) | exact (by decide : (1 : Nat) < 2) | exact (by decide : (2 : Nat) < 3) | exact congrArg int (by (try dsimp only); omega) | exact congrArg bool (by (try dsimp only); simp; omega) | (show _ < List.length _; simp; done) | apply And.intro
    · have hi' : i = (ns ++ ws).length := by simp; omega
      rw [hi', List.take_length] at hx
      have hN : Letters ns := fun x h => hx x (by simp [h])
      have hW : Letters ws := fun x h => hx x (by simp [h])
      by_cases h1 : ns = []
      · conv => whnf
        repeat' first
          | (refine Case.not ?_; conv => whnf)
          | (refine Case.yes ?_; conv => whnf)
          | (refine Case.no ?_; conv => whnf)
          | (refine Case.isTrue (by assumption) ?_; conv => whnf)
          | (refine Case.isFalse (by assumption) ?_; conv => whnf)
          | (refine Case.decT (by assumption) ?_; conv => whnf)
          | (refine Case.decF (by assumption) ?_; conv => whnf)
          | (refine Case.decT (by omega) ?_; conv => whnf)
          | (refine Case.decF (by omega) ?_; conv => whnf)
          | (refine Case.beqT (by omega) ?_; conv => whnf)
          | (refine Case.beqF (by omega) ?_; conv => whnf)
          | (refine Case.strT (by assumption) ?_; conv => whnf)
          | (refine Case.strF (by assumption) ?_; conv => whnf)
          | (refine Case.strF (by simp only [*]; decide) ?_; conv => whnf)
          | (refine Case.strT (y := []) h1 ?_; conv => whnf)
          | (refine step_kinds 2 ?hk ?_; (case hk => decide +kernel); conv => whnf)
          | (refine step_kinds 3 ?hk ?_; (case hk => decide +kernel); conv => whnf)
          | (refine Num.id (by omega) (by omega) ?_; conv => whnf)
          | (refine Case.strI (fun _ => ?_) (fun _ => ?_) <;> conv => whnf)
          | (refine Both.mk ?_ ?_ <;> conv => whnf)
          | (refine Case.dec (fun _ => ?_) (fun _ => ?_) <;> conv => whnf)
          | (refine Case.beqI (fun _ => ?_) (fun _ => ?_) <;> conv => whnf)
          | (refine Case.mk (fun _ => ?_) (fun _ => ?_) <;> conv => whnf)
        exact Fin.isB rfl
      by_cases h2 : ws = []
      · conv => whnf
        repeat' first
          | (refine Case.not ?_; conv => whnf)
          | (refine Case.yes ?_; conv => whnf)
          | (refine Case.no ?_; conv => whnf)
          | (refine Case.isTrue (by assumption) ?_; conv => whnf)
          | (refine Case.isFalse (by assumption) ?_; conv => whnf)
          | (refine Case.decT (by assumption) ?_; conv => whnf)
          | (refine Case.decF (by assumption) ?_; conv => whnf)
          | (refine Case.decT (by omega) ?_; conv => whnf)
          | (refine Case.decF (by omega) ?_; conv => whnf)
          | (refine Case.beqT (by omega) ?_; conv => whnf)
          | (refine Case.beqF (by omega) ?_; conv => whnf)
          | (refine Case.strT (by assumption) ?_; conv => whnf)
          | (refine Case.strF (by assumption) ?_; conv => whnf)
          | (refine Case.strF (by simp only [*]; decide) ?_; conv => whnf)
          | (refine Case.strF (y := []) h1 ?_; conv => whnf)
          | (refine Case.strT (y := []) h2 ?_; conv => whnf)
          | (refine step_kinds 2 ?hk ?_; (case hk => decide +kernel); conv => whnf)
          | (refine step_kinds 3 ?hk ?_; (case hk => decide +kernel); conv => whnf)
          | (refine Num.id (by omega) (by omega) ?_; conv => whnf)
          | (refine Case.strI (fun _ => ?_) (fun _ => ?_) <;> conv => whnf)
          | (refine Both.mk ?_ ?_ <;> conv => whnf)
          | (refine Case.dec (fun _ => ?_) (fun _ => ?_) <;> conv => whnf)
          | (refine Case.beqI (fun _ => ?_) (fun _ => ?_) <;> conv => whnf)
          | (refine Case.mk (fun _ => ?_) (fun _ => ?_) <;> conv => whnf)
        exact Fin.isB rfl
      obtain ⟨k, rfl⟩ : ∃ k : Nat, op = k := ⟨op.toNat, by omega⟩
      by_cases k0 : k = 0
      · subst k0
        cases b <;> cases q
        ·
          have z1 : ((((⟨#[91]⟩ ++ ⟨#[]⟩) ++ sOf ns) ++ ⟨#[]⟩ : ByteArray) ++ ⟨#[93]⟩ : ByteArray).size < 1000000 := by simp [ByteArray.size_append, ByteArray.size]; omega
          have z2 : ((((⟨#[91]⟩ ++ ⟨#[]⟩) ++ sOf ns) ++ ⟨#[]⟩ : ByteArray) : ByteArray).size < 1000000 := by simp [ByteArray.size_append, ByteArray.size]; omega
          have ho := of_spec _ z1
          have hn := of_spec _ z2
          have hp := parse_spec (ofT_fit _ z1)
          have hm := parse_spec (ofT_fit _ z2)
          have t1 := att_tokens 0 false false true hN h1 hW h2 (s := ((((⟨#[91]⟩ ++ ⟨#[]⟩) ++ sOf ns) ++ ⟨#[]⟩ : ByteArray) ++ ⟨#[93]⟩ : ByteArray)) (by simp [attL, mL, bL, vL, eL, opL, app_toList, *])
          have t2 := att_tokens 0 false false false hN h1 hW h2 (s := ((((⟨#[91]⟩ ++ ⟨#[]⟩) ++ sOf ns) ++ ⟨#[]⟩ : ByteArray) : ByteArray)) (by simp [attL, mL, bL, vL, eL, opL, app_toList, *])
          have e1 := att_parse (op := 0) (by omega) false false ns ws
          rw [t1] at ho hp
          rw [t2] at hn hm
          rw [e1.1] at hp
          rw [e1.2] at hm
          clear z1 z2 t1 t2 e1
          conv => whnf
          repeat' first
            | (refine Case.not ?_; conv => whnf)
            | (refine Case.yes ?_; conv => whnf)
            | (refine Case.no ?_; conv => whnf)
            | (refine Case.isTrue (by assumption) ?_; conv => whnf)
            | (refine Case.isFalse (by assumption) ?_; conv => whnf)
            | (refine Case.decT (by assumption) ?_; conv => whnf)
            | (refine Case.decF (by assumption) ?_; conv => whnf)
            | (refine Case.decT (by omega) ?_; conv => whnf)
            | (refine Case.decF (by omega) ?_; conv => whnf)
            | (refine Case.beqT (by omega) ?_; conv => whnf)
            | (refine Case.beqF (by omega) ?_; conv => whnf)
            | (refine Case.strT (by assumption) ?_; conv => whnf)
            | (refine Case.strF (by assumption) ?_; conv => whnf)
            | (refine Case.strF (by simp only [*]; decide) ?_; conv => whnf)
            | (refine Case.strF (y := []) h1 ?_; conv => whnf)
            | (refine Case.strF (y := []) h2 ?_; conv => whnf)
            | (refine Owes.mk (by simp [ByteArray.size_append, ByteArray.size] <;> omega) ?_; conv => whnf)
            | (refine Owes.mk strs_row ?_; conv => whnf)
            | (refine Elem.mk 0 _ rfl (strs_get (opsS_get (by omega))) ?_; conv => whnf)
            | (refine step_kinds 2 ?hk ?_; (case hk => decide +kernel); conv => whnf)
            | (refine step_kinds 3 ?hk ?_; (case hk => decide +kernel); conv => whnf)
            | (refine Num.id (by omega) (by omega) ?_; conv => whnf)
            | (refine Case.strI (fun _ => ?_) (fun _ => ?_) <;> conv => whnf)
            | (refine Both.mk ?_ ?_ <;> conv => whnf)
            | (refine Case.dec (fun _ => ?_) (fun _ => ?_) <;> conv => whnf)
            | (refine Case.beqI (fun _ => ?_) (fun _ => ?_) <;> conv => whnf)
            | (refine Case.mk (fun _ => ?_) (fun _ => ?_) <;> conv => whnf)
          refine ho.call ?_
          conv => whnf
          refine hp.call ?_
          conv => whnf
          repeat' first
            | (refine Case.not ?_; conv => whnf)
            | (refine Case.yes ?_; conv => whnf)
            | (refine Case.no ?_; conv => whnf)
            | (refine Case.isTrue (by assumption) ?_; conv => whnf)
            | (refine Case.isFalse (by assumption) ?_; conv => whnf)
            | (refine Case.decT (by assumption) ?_; conv => whnf)
            | (refine Case.decF (by assumption) ?_; conv => whnf)
            | (refine Case.decT (by omega) ?_; conv => whnf)
            | (refine Case.decF (by omega) ?_; conv => whnf)
            | (refine Case.beqT (by omega) ?_; conv => whnf)
            | (refine Case.beqF (by omega) ?_; conv => whnf)
            | (refine Case.strT (by assumption) ?_; conv => whnf)
            | (refine Case.strF (by assumption) ?_; conv => whnf)
            | (refine Case.strF (by simp only [*]; decide) ?_; conv => whnf)
            | (refine Owes.mk sels_row ?_; conv => whnf)
            | (refine Owes.mk parts_row ?_; conv => whnf)
            | (refine Owes.mk atts_row ?_; conv => whnf)
            | (refine Elem.mk 0 _ rfl rfl ?_; conv => whnf)
            | (refine Case.isTrue (by decide) ?_; conv => whnf)
            | (refine Case.isFalse (by decide) ?_; conv => whnf)
            | (refine step_kinds 2 ?hk ?_; (case hk => decide +kernel); conv => whnf)
            | (refine step_kinds 3 ?hk ?_; (case hk => decide +kernel); conv => whnf)
            | (refine Num.id (by omega) (by omega) ?_; conv => whnf)
            | (refine Case.strI (fun _ => ?_) (fun _ => ?_) <;> conv => whnf)
            | (refine Both.mk ?_ ?_ <;> conv => whnf)
            | (refine Case.dec (fun _ => ?_) (fun _ => ?_) <;> conv => whnf)
            | (refine Case.beqI (fun _ => ?_) (fun _ => ?_) <;> conv => whnf)
            | (refine Case.mk (fun _ => ?_) (fun _ => ?_) <;> conv => whnf)
          refine hn.call ?_
          conv => whnf
          refine hm.call ?_
          conv => whnf
          repeat' first
            | (refine Case.not ?_; conv => whnf)
            | (refine Case.yes ?_; conv => whnf)
            | (refine Case.no ?_; conv => whnf)
            | (refine Case.isTrue (by assumption) ?_; conv => whnf)
            | (refine Case.isFalse (by assumption) ?_; conv => whnf)
            | (refine Case.decT (by assumption) ?_; conv => whnf)
            | (refine Case.decF (by assumption) ?_; conv => whnf)
            | (refine Case.decT (by omega) ?_; conv => whnf)
            | (refine Case.decF (by omega) ?_; conv => whnf)
            | (refine Case.beqT (by omega) ?_; conv => whnf)
            | (refine Case.beqF (by omega) ?_; conv => whnf)
            | (refine Case.strT (by assumption) ?_; conv => whnf)
            | (refine Case.strF (by assumption) ?_; conv => whnf)
            | (refine Case.strF (by simp only [*]; decide) ?_; conv => whnf)
            | (refine Owes.mk sels_row ?_; conv => whnf)
            | (refine Owes.mk parts_row ?_; conv => whnf)
            | (refine Owes.mk atts_row ?_; conv => whnf)
            | (refine Elem.mk 0 _ rfl rfl ?_; conv => whnf)
            | (refine Case.isTrue (att_eqK (lower_letters hN) rfl (show (if (0 : Nat) = 0 then [] else ws) = ([] : List UInt8) from rfl)) ?_; conv => whnf)
            | (refine Case.isTrue (by decide) ?_; conv => whnf)
            | (refine Case.isFalse (by decide) ?_; conv => whnf)
            | (refine step_kinds 2 ?hk ?_; (case hk => decide +kernel); conv => whnf)
            | (refine step_kinds 3 ?hk ?_; (case hk => decide +kernel); conv => whnf)
            | (refine Num.id (by omega) (by omega) ?_; conv => whnf)
            | (refine Case.strI (fun _ => ?_) (fun _ => ?_) <;> conv => whnf)
            | (refine Both.mk ?_ ?_ <;> conv => whnf)
            | (refine Case.dec (fun _ => ?_) (fun _ => ?_) <;> conv => whnf)
            | (refine Case.beqI (fun _ => ?_) (fun _ => ?_) <;> conv => whnf)
            | (refine Case.mk (fun _ => ?_) (fun _ => ?_) <;> conv => whnf)
          exact Fin.isB rfl
        ·
          have z1 : ((((⟨#[91]⟩ ++ ⟨#[]⟩) ++ sOf ns) ++ ⟨#[]⟩ : ByteArray) ++ ⟨#[93]⟩ : ByteArray).size < 1000000 := by simp [ByteArray.size_append, ByteArray.size]; omega
          have z2 : ((((⟨#[91]⟩ ++ ⟨#[]⟩) ++ sOf ns) ++ ⟨#[]⟩ : ByteArray) : ByteArray).size < 1000000 := by simp [ByteArray.size_append, ByteArray.size]; omega
          have ho := of_spec _ z1
          have hn := of_spec _ z2
          have hp := parse_spec (ofT_fit _ z1)
          have hm := parse_spec (ofT_fit _ z2)
          have t1 := att_tokens 0 true false true hN h1 hW h2 (s := ((((⟨#[91]⟩ ++ ⟨#[]⟩) ++ sOf ns) ++ ⟨#[]⟩ : ByteArray) ++ ⟨#[93]⟩ : ByteArray)) (by simp [attL, mL, bL, vL, eL, opL, app_toList, *])
          have t2 := att_tokens 0 true false false hN h1 hW h2 (s := ((((⟨#[91]⟩ ++ ⟨#[]⟩) ++ sOf ns) ++ ⟨#[]⟩ : ByteArray) : ByteArray)) (by simp [attL, mL, bL, vL, eL, opL, app_toList, *])
          have e1 := att_parse (op := 0) (by omega) true false ns ws
          rw [t1] at ho hp
          rw [t2] at hn hm
          rw [e1.1] at hp
          rw [e1.2] at hm
          clear z1 z2 t1 t2 e1
          conv => whnf
          repeat' first
            | (refine Case.not ?_; conv => whnf)
            | (refine Case.yes ?_; conv => whnf)
            | (refine Case.no ?_; conv => whnf)
            | (refine Case.isTrue (by assumption) ?_; conv => whnf)
            | (refine Case.isFalse (by assumption) ?_; conv => whnf)
            | (refine Case.decT (by assumption) ?_; conv => whnf)
            | (refine Case.decF (by assumption) ?_; conv => whnf)
            | (refine Case.decT (by omega) ?_; conv => whnf)
            | (refine Case.decF (by omega) ?_; conv => whnf)
            | (refine Case.beqT (by omega) ?_; conv => whnf)
            | (refine Case.beqF (by omega) ?_; conv => whnf)
            | (refine Case.strT (by assumption) ?_; conv => whnf)
            | (refine Case.strF (by assumption) ?_; conv => whnf)
            | (refine Case.strF (by simp only [*]; decide) ?_; conv => whnf)
            | (refine Case.strF (y := []) h1 ?_; conv => whnf)
            | (refine Case.strF (y := []) h2 ?_; conv => whnf)
            | (refine Owes.mk (by simp [ByteArray.size_append, ByteArray.size] <;> omega) ?_; conv => whnf)
            | (refine Owes.mk strs_row ?_; conv => whnf)
            | (refine Elem.mk 0 _ rfl (strs_get (opsS_get (by omega))) ?_; conv => whnf)
            | (refine step_kinds 2 ?hk ?_; (case hk => decide +kernel); conv => whnf)
            | (refine step_kinds 3 ?hk ?_; (case hk => decide +kernel); conv => whnf)
            | (refine Num.id (by omega) (by omega) ?_; conv => whnf)
            | (refine Case.strI (fun _ => ?_) (fun _ => ?_) <;> conv => whnf)
            | (refine Both.mk ?_ ?_ <;> conv => whnf)
            | (refine Case.dec (fun _ => ?_) (fun _ => ?_) <;> conv => whnf)
            | (refine Case.beqI (fun _ => ?_) (fun _ => ?_) <;> conv => whnf)
            | (refine Case.mk (fun _ => ?_) (fun _ => ?_) <;> conv => whnf)
          refine ho.call ?_
          conv => whnf
          refine hp.call ?_
          conv => whnf
          repeat' first
            | (refine Case.not ?_; conv => whnf)
            | (refine Case.yes ?_; conv => whnf)
            | (refine Case.no ?_; conv => whnf)
            | (refine Case.isTrue (by assumption) ?_; conv => whnf)
            | (refine Case.isFalse (by assumption) ?_; conv => whnf)
            | (refine Case.decT (by assumption) ?_; conv => whnf)
            | (refine Case.decF (by assumption) ?_; conv => whnf)
            | (refine Case.decT (by omega) ?_; conv => whnf)
            | (refine Case.decF (by omega) ?_; conv => whnf)
            | (refine Case.beqT (by omega) ?_; conv => whnf)
            | (refine Case.beqF (by omega) ?_; conv => whnf)
            | (refine Case.strT (by assumption) ?_; conv => whnf)
            | (refine Case.strF (by assumption) ?_; conv => whnf)
            | (refine Case.strF (by simp only [*]; decide) ?_; conv => whnf)
            | (refine Owes.mk sels_row ?_; conv => whnf)
            | (refine Owes.mk parts_row ?_; conv => whnf)
            | (refine Owes.mk atts_row ?_; conv => whnf)
            | (refine Elem.mk 0 _ rfl rfl ?_; conv => whnf)
            | (refine Case.isTrue (by decide) ?_; conv => whnf)
            | (refine Case.isFalse (by decide) ?_; conv => whnf)
            | (refine step_kinds 2 ?hk ?_; (case hk => decide +kernel); conv => whnf)
            | (refine step_kinds 3 ?hk ?_; (case hk => decide +kernel); conv => whnf)
            | (refine Num.id (by omega) (by omega) ?_; conv => whnf)
            | (refine Case.strI (fun _ => ?_) (fun _ => ?_) <;> conv => whnf)
            | (refine Both.mk ?_ ?_ <;> conv => whnf)
            | (refine Case.dec (fun _ => ?_) (fun _ => ?_) <;> conv => whnf)
            | (refine Case.beqI (fun _ => ?_) (fun _ => ?_) <;> conv => whnf)
            | (refine Case.mk (fun _ => ?_) (fun _ => ?_) <;> conv => whnf)
          refine hn.call ?_
          conv => whnf
          refine hm.call ?_
          conv => whnf
          repeat' first
            | (refine Case.not ?_; conv => whnf)
            | (refine Case.yes ?_; conv => whnf)
            | (refine Case.no ?_; conv => whnf)
            | (refine Case.isTrue (by assumption) ?_; conv => whnf)
            | (refine Case.isFalse (by assumption) ?_; conv => whnf)
            | (refine Case.decT (by assumption) ?_; conv => whnf)
            | (refine Case.decF (by assumption) ?_; conv => whnf)
            | (refine Case.decT (by omega) ?_; conv => whnf)
            | (refine Case.decF (by omega) ?_; conv => whnf)
            | (refine Case.beqT (by omega) ?_; conv => whnf)
            | (refine Case.beqF (by omega) ?_; conv => whnf)
            | (refine Case.strT (by assumption) ?_; conv => whnf)
            | (refine Case.strF (by assumption) ?_; conv => whnf)
            | (refine Case.strF (by simp only [*]; decide) ?_; conv => whnf)
            | (refine Owes.mk sels_row ?_; conv => whnf)
            | (refine Owes.mk parts_row ?_; conv => whnf)
            | (refine Owes.mk atts_row ?_; conv => whnf)
            | (refine Elem.mk 0 _ rfl rfl ?_; conv => whnf)
            | (refine Case.isTrue (att_eqK (lower_letters hN) rfl (show (if (0 : Nat) = 0 then [] else ws) = ([] : List UInt8) from rfl)) ?_; conv => whnf)
            | (refine Case.isTrue (by decide) ?_; conv => whnf)
            | (refine Case.isFalse (by decide) ?_; conv => whnf)
            | (refine step_kinds 2 ?hk ?_; (case hk => decide +kernel); conv => whnf)
            | (refine step_kinds 3 ?hk ?_; (case hk => decide +kernel); conv => whnf)
            | (refine Num.id (by omega) (by omega) ?_; conv => whnf)
            | (refine Case.strI (fun _ => ?_) (fun _ => ?_) <;> conv => whnf)
            | (refine Both.mk ?_ ?_ <;> conv => whnf)
            | (refine Case.dec (fun _ => ?_) (fun _ => ?_) <;> conv => whnf)
            | (refine Case.beqI (fun _ => ?_) (fun _ => ?_) <;> conv => whnf)
            | (refine Case.mk (fun _ => ?_) (fun _ => ?_) <;> conv => whnf)
          exact Fin.isB rfl
        ·
          have z1 : ((((⟨#[91]⟩ ++ ⟨#[32, 10, 47, 42, 32, 42, 47, 32]⟩) ++ sOf ns) ++ ⟨#[32, 10, 47, 42, 32, 42, 47, 32]⟩ : ByteArray) ++ ⟨#[93]⟩ : ByteArray).size < 1000000 := by simp [ByteArray.size_append, ByteArray.size]; omega
          have z2 : ((((⟨#[91]⟩ ++ ⟨#[32, 10, 47, 42, 32, 42, 47, 32]⟩) ++ sOf ns) ++ ⟨#[32, 10, 47, 42, 32, 42, 47, 32]⟩ : ByteArray) : ByteArray).size < 1000000 := by simp [ByteArray.size_append, ByteArray.size]; omega
          have ho := of_spec _ z1
          have hn := of_spec _ z2
          have hp := parse_spec (ofT_fit _ z1)
          have hm := parse_spec (ofT_fit _ z2)
          have t1 := att_tokens 0 false true true hN h1 hW h2 (s := ((((⟨#[91]⟩ ++ ⟨#[32, 10, 47, 42, 32, 42, 47, 32]⟩) ++ sOf ns) ++ ⟨#[32, 10, 47, 42, 32, 42, 47, 32]⟩ : ByteArray) ++ ⟨#[93]⟩ : ByteArray)) (by simp [attL, mL, bL, vL, eL, opL, app_toList, *])
          have t2 := att_tokens 0 false true false hN h1 hW h2 (s := ((((⟨#[91]⟩ ++ ⟨#[32, 10, 47, 42, 32, 42, 47, 32]⟩) ++ sOf ns) ++ ⟨#[32, 10, 47, 42, 32, 42, 47, 32]⟩ : ByteArray) : ByteArray)) (by simp [attL, mL, bL, vL, eL, opL, app_toList, *])
          have e1 := att_parse (op := 0) (by omega) false true ns ws
          rw [t1] at ho hp
          rw [t2] at hn hm
          rw [e1.1] at hp
          rw [e1.2] at hm
          clear z1 z2 t1 t2 e1
          conv => whnf
          repeat' first
            | (refine Case.not ?_; conv => whnf)
            | (refine Case.yes ?_; conv => whnf)
            | (refine Case.no ?_; conv => whnf)
            | (refine Case.isTrue (by assumption) ?_; conv => whnf)
            | (refine Case.isFalse (by assumption) ?_; conv => whnf)
            | (refine Case.decT (by assumption) ?_; conv => whnf)
            | (refine Case.decF (by assumption) ?_; conv => whnf)
            | (refine Case.decT (by omega) ?_; conv => whnf)
            | (refine Case.decF (by omega) ?_; conv => whnf)
            | (refine Case.beqT (by omega) ?_; conv => whnf)
            | (refine Case.beqF (by omega) ?_; conv => whnf)
            | (refine Case.strT (by assumption) ?_; conv => whnf)
            | (refine Case.strF (by assumption) ?_; conv => whnf)
            | (refine Case.strF (by simp only [*]; decide) ?_; conv => whnf)
            | (refine Case.strF (y := []) h1 ?_; conv => whnf)
            | (refine Case.strF (y := []) h2 ?_; conv => whnf)
            | (refine Owes.mk (by simp [ByteArray.size_append, ByteArray.size] <;> omega) ?_; conv => whnf)
            | (refine Owes.mk strs_row ?_; conv => whnf)
            | (refine Elem.mk 0 _ rfl (strs_get (opsS_get (by omega))) ?_; conv => whnf)
            | (refine step_kinds 2 ?hk ?_; (case hk => decide +kernel); conv => whnf)
            | (refine step_kinds 3 ?hk ?_; (case hk => decide +kernel); conv => whnf)
            | (refine Num.id (by omega) (by omega) ?_; conv => whnf)
            | (refine Case.strI (fun _ => ?_) (fun _ => ?_) <;> conv => whnf)
            | (refine Both.mk ?_ ?_ <;> conv => whnf)
            | (refine Case.dec (fun _ => ?_) (fun _ => ?_) <;> conv => whnf)
            | (refine Case.beqI (fun _ => ?_) (fun _ => ?_) <;> conv => whnf)
            | (refine Case.mk (fun _ => ?_) (fun _ => ?_) <;> conv => whnf)
          refine ho.call ?_
          conv => whnf
          refine hp.call ?_
          conv => whnf
          repeat' first
            | (refine Case.not ?_; conv => whnf)
            | (refine Case.yes ?_; conv => whnf)
            | (refine Case.no ?_; conv => whnf)
            | (refine Case.isTrue (by assumption) ?_; conv => whnf)
            | (refine Case.isFalse (by assumption) ?_; conv => whnf)
            | (refine Case.decT (by assumption) ?_; conv => whnf)
            | (refine Case.decF (by assumption) ?_; conv => whnf)
            | (refine Case.decT (by omega) ?_; conv => whnf)
            | (refine Case.decF (by omega) ?_; conv => whnf)
            | (refine Case.beqT (by omega) ?_; conv => whnf)
            | (refine Case.beqF (by omega) ?_; conv => whnf)
            | (refine Case.strT (by assumption) ?_; conv => whnf)
            | (refine Case.strF (by assumption) ?_; conv => whnf)
            | (refine Case.strF (by simp only [*]; decide) ?_; conv => whnf)
            | (refine Owes.mk sels_row ?_; conv => whnf)
            | (refine Owes.mk parts_row ?_; conv => whnf)
            | (refine Owes.mk atts_row ?_; conv => whnf)
            | (refine Elem.mk 0 _ rfl rfl ?_; conv => whnf)
            | (refine Case.isTrue (by decide) ?_; conv => whnf)
            | (refine Case.isFalse (by decide) ?_; conv => whnf)
            | (refine step_kinds 2 ?hk ?_; (case hk => decide +kernel); conv => whnf)
            | (refine step_kinds 3 ?hk ?_; (case hk => decide +kernel); conv => whnf)
            | (refine Num.id (by omega) (by omega) ?_; conv => whnf)
            | (refine Case.strI (fun _ => ?_) (fun _ => ?_) <;> conv => whnf)
            | (refine Both.mk ?_ ?_ <;> conv => whnf)
            | (refine Case.dec (fun _ => ?_) (fun _ => ?_) <;> conv => whnf)
            | (refine Case.beqI (fun _ => ?_) (fun _ => ?_) <;> conv => whnf)
            | (refine Case.mk (fun _ => ?_) (fun _ => ?_) <;> conv => whnf)
          refine hn.call ?_
          conv => whnf
          refine hm.call ?_
          conv => whnf
          repeat' first
            | (refine Case.not ?_; conv => whnf)
            | (refine Case.yes ?_; conv => whnf)
            | (refine Case.no ?_; conv => whnf)
            | (refine Case.isTrue (by assumption) ?_; conv => whnf)
            | (refine Case.isFalse (by assumption) ?_; conv => whnf)
            | (refine Case.decT (by assumption) ?_; conv => whnf)
            | (refine Case.decF (by assumption) ?_; conv => whnf)
            | (refine Case.decT (by omega) ?_; conv => whnf)
            | (refine Case.decF (by omega) ?_; conv => whnf)
            | (refine Case.beqT (by omega) ?_; conv => whnf)
            | (refine Case.beqF (by omega) ?_; conv => whnf)
            | (refine Case.strT (by assumption) ?_; conv => whnf)
            | (refine Case.strF (by assumption) ?_; conv => whnf)
            | (refine Case.strF (by simp only [*]; decide) ?_; conv => whnf)
            | (refine Owes.mk sels_row ?_; conv => whnf)
            | (refine Owes.mk parts_row ?_; conv => whnf)
            | (refine Owes.mk atts_row ?_; conv => whnf)
            | (refine Elem.mk 0 _ rfl rfl ?_; conv => whnf)
            | (refine Case.isTrue (att_eqK (lower_letters hN) rfl (show (if (0 : Nat) = 0 then [] else ws) = ([] : List UInt8) from rfl)) ?_; conv => whnf)
            | (refine Case.isTrue (by decide) ?_; conv => whnf)
            | (refine Case.isFalse (by decide) ?_; conv => whnf)
            | (refine step_kinds 2 ?hk ?_; (case hk => decide +kernel); conv => whnf)
            | (refine step_kinds 3 ?hk ?_; (case hk => decide +kernel); conv => whnf)
            | (refine Num.id (by omega) (by omega) ?_; conv => whnf)
            | (refine Case.strI (fun _ => ?_) (fun _ => ?_) <;> conv => whnf)
            | (refine Both.mk ?_ ?_ <;> conv => whnf)
            | (refine Case.dec (fun _ => ?_) (fun _ => ?_) <;> conv => whnf)
            | (refine Case.beqI (fun _ => ?_) (fun _ => ?_) <;> conv => whnf)
            | (refine Case.mk (fun _ => ?_) (fun _ => ?_) <;> conv => whnf)
          exact Fin.isB rfl
        ·
          have z1 : ((((⟨#[91]⟩ ++ ⟨#[32, 10, 47, 42, 32, 42, 47, 32]⟩) ++ sOf ns) ++ ⟨#[32, 10, 47, 42, 32, 42, 47, 32]⟩ : ByteArray) ++ ⟨#[93]⟩ : ByteArray).size < 1000000 := by simp [ByteArray.size_append, ByteArray.size]; omega
          have z2 : ((((⟨#[91]⟩ ++ ⟨#[32, 10, 47, 42, 32, 42, 47, 32]⟩) ++ sOf ns) ++ ⟨#[32, 10, 47, 42, 32, 42, 47, 32]⟩ : ByteArray) : ByteArray).size < 1000000 := by simp [ByteArray.size_append, ByteArray.size]; omega
          have ho := of_spec _ z1
          have hn := of_spec _ z2
          have hp := parse_spec (ofT_fit _ z1)
          have hm := parse_spec (ofT_fit _ z2)
          have t1 := att_tokens 0 true true true hN h1 hW h2 (s := ((((⟨#[91]⟩ ++ ⟨#[32, 10, 47, 42, 32, 42, 47, 32]⟩) ++ sOf ns) ++ ⟨#[32, 10, 47, 42, 32, 42, 47, 32]⟩ : ByteArray) ++ ⟨#[93]⟩ : ByteArray)) (by simp [attL, mL, bL, vL, eL, opL, app_toList, *])
          have t2 := att_tokens 0 true true false hN h1 hW h2 (s := ((((⟨#[91]⟩ ++ ⟨#[32, 10, 47, 42, 32, 42, 47, 32]⟩) ++ sOf ns) ++ ⟨#[32, 10, 47, 42, 32, 42, 47, 32]⟩ : ByteArray) : ByteArray)) (by simp [attL, mL, bL, vL, eL, opL, app_toList, *])
          have e1 := att_parse (op := 0) (by omega) true true ns ws
          rw [t1] at ho hp
          rw [t2] at hn hm
          rw [e1.1] at hp
          rw [e1.2] at hm
          clear z1 z2 t1 t2 e1
          conv => whnf
          repeat' first
            | (refine Case.not ?_; conv => whnf)
            | (refine Case.yes ?_; conv => whnf)
            | (refine Case.no ?_; conv => whnf)
            | (refine Case.isTrue (by assumption) ?_; conv => whnf)
            | (refine Case.isFalse (by assumption) ?_; conv => whnf)
            | (refine Case.decT (by assumption) ?_; conv => whnf)
            | (refine Case.decF (by assumption) ?_; conv => whnf)
            | (refine Case.decT (by omega) ?_; conv => whnf)
            | (refine Case.decF (by omega) ?_; conv => whnf)
            | (refine Case.beqT (by omega) ?_; conv => whnf)
            | (refine Case.beqF (by omega) ?_; conv => whnf)
            | (refine Case.strT (by assumption) ?_; conv => whnf)
            | (refine Case.strF (by assumption) ?_; conv => whnf)
            | (refine Case.strF (by simp only [*]; decide) ?_; conv => whnf)
            | (refine Case.strF (y := []) h1 ?_; conv => whnf)
            | (refine Case.strF (y := []) h2 ?_; conv => whnf)
            | (refine Owes.mk (by simp [ByteArray.size_append, ByteArray.size] <;> omega) ?_; conv => whnf)
            | (refine Owes.mk strs_row ?_; conv => whnf)
            | (refine Elem.mk 0 _ rfl (strs_get (opsS_get (by omega))) ?_; conv => whnf)
            | (refine step_kinds 2 ?hk ?_; (case hk => decide +kernel); conv => whnf)
            | (refine step_kinds 3 ?hk ?_; (case hk => decide +kernel); conv => whnf)
            | (refine Num.id (by omega) (by omega) ?_; conv => whnf)
            | (refine Case.strI (fun _ => ?_) (fun _ => ?_) <;> conv => whnf)
            | (refine Both.mk ?_ ?_ <;> conv => whnf)
            | (refine Case.dec (fun _ => ?_) (fun _ => ?_) <;> conv => whnf)
            | (refine Case.beqI (fun _ => ?_) (fun _ => ?_) <;> conv => whnf)
            | (refine Case.mk (fun _ => ?_) (fun _ => ?_) <;> conv => whnf)
          refine ho.call ?_
          conv => whnf
          refine hp.call ?_
          conv => whnf
          repeat' first
            | (refine Case.not ?_; conv => whnf)
            | (refine Case.yes ?_; conv => whnf)
            | (refine Case.no ?_; conv => whnf)
            | (refine Case.isTrue (by assumption) ?_; conv => whnf)
            | (refine Case.isFalse (by assumption) ?_; conv => whnf)
            | (refine Case.decT (by assumption) ?_; conv => whnf)
            | (refine Case.decF (by assumption) ?_; conv => whnf)
            | (refine Case.decT (by omega) ?_; conv => whnf)
            | (refine Case.decF (by omega) ?_; conv => whnf)
            | (refine Case.beqT (by omega) ?_; conv => whnf)
            | (refine Case.beqF (by omega) ?_; conv => whnf)
            | (refine Case.strT (by assumption) ?_; conv => whnf)
            | (refine Case.strF (by assumption) ?_; conv => whnf)
            | (refine Case.strF (by simp only [*]; decide) ?_; conv => whnf)
            | (refine Owes.mk sels_row ?_; conv => whnf)
            | (refine Owes.mk parts_row ?_; conv => whnf)
            | (refine Owes.mk atts_row ?_; conv => whnf)
            | (refine Elem.mk 0 _ rfl rfl ?_; conv => whnf)
            | (refine Case.isTrue (by decide) ?_; conv => whnf)
            | (refine Case.isFalse (by decide) ?_; conv => whnf)
            | (refine step_kinds 2 ?hk ?_; (case hk => decide +kernel); conv => whnf)
            | (refine step_kinds 3 ?hk ?_; (case hk => decide +kernel); conv => whnf)
            | (refine Num.id (by omega) (by omega) ?_; conv => whnf)
            | (refine Case.strI (fun _ => ?_) (fun _ => ?_) <;> conv => whnf)
            | (refine Both.mk ?_ ?_ <;> conv => whnf)
            | (refine Case.dec (fun _ => ?_) (fun _ => ?_) <;> conv => whnf)
            | (refine Case.beqI (fun _ => ?_) (fun _ => ?_) <;> conv => whnf)
            | (refine Case.mk (fun _ => ?_) (fun _ => ?_) <;> conv => whnf)
          refine hn.call ?_
          conv => whnf
          refine hm.call ?_
          conv => whnf
          repeat' first
            | (refine Case.not ?_; conv => whnf)
            | (refine Case.yes ?_; conv => whnf)
            | (refine Case.no ?_; conv => whnf)
            | (refine Case.isTrue (by assumption) ?_; conv => whnf)
            | (refine Case.isFalse (by assumption) ?_; conv => whnf)
            | (refine Case.decT (by assumption) ?_; conv => whnf)
            | (refine Case.decF (by assumption) ?_; conv => whnf)
            | (refine Case.decT (by omega) ?_; conv => whnf)
            | (refine Case.decF (by omega) ?_; conv => whnf)
            | (refine Case.beqT (by omega) ?_; conv => whnf)
            | (refine Case.beqF (by omega) ?_; conv => whnf)
            | (refine Case.strT (by assumption) ?_; conv => whnf)
            | (refine Case.strF (by assumption) ?_; conv => whnf)
            | (refine Case.strF (by simp only [*]; decide) ?_; conv => whnf)
            | (refine Owes.mk sels_row ?_; conv => whnf)
            | (refine Owes.mk parts_row ?_; conv => whnf)
            | (refine Owes.mk atts_row ?_; conv => whnf)
            | (refine Elem.mk 0 _ rfl rfl ?_; conv => whnf)
            | (refine Case.isTrue (att_eqK (lower_letters hN) rfl (show (if (0 : Nat) = 0 then [] else ws) = ([] : List UInt8) from rfl)) ?_; conv => whnf)
            | (refine Case.isTrue (by decide) ?_; conv => whnf)
            | (refine Case.isFalse (by decide) ?_; conv => whnf)
            | (refine step_kinds 2 ?hk ?_; (case hk => decide +kernel); conv => whnf)
            | (refine step_kinds 3 ?hk ?_; (case hk => decide +kernel); conv => whnf)
            | (refine Num.id (by omega) (by omega) ?_; conv => whnf)
            | (refine Case.strI (fun _ => ?_) (fun _ => ?_) <;> conv => whnf)
            | (refine Both.mk ?_ ?_ <;> conv => whnf)
            | (refine Case.dec (fun _ => ?_) (fun _ => ?_) <;> conv => whnf)
            | (refine Case.beqI (fun _ => ?_) (fun _ => ?_) <;> conv => whnf)
            | (refine Case.mk (fun _ => ?_) (fun _ => ?_) <;> conv => whnf)
          exact Fin.isB rfl
      · have hk2 := opL_len k
        cases b <;> cases q
        ·
          have z1 : ((((⟨#[91]⟩ ++ ⟨#[]⟩) ++ sOf ns) ++ ⟨#[]⟩ ++ sOf (opL k) ++ ⟨#[]⟩ ++ sOf ws ++ ⟨#[]⟩ : ByteArray) ++ ⟨#[93]⟩ : ByteArray).size < 1000000 := by simp [ByteArray.size_append, ByteArray.size]; omega
          have z2 : ((((⟨#[91]⟩ ++ ⟨#[]⟩) ++ sOf ns) ++ ⟨#[]⟩ ++ sOf (opL k) ++ ⟨#[]⟩ ++ sOf ws ++ ⟨#[]⟩ : ByteArray) : ByteArray).size < 1000000 := by simp [ByteArray.size_append, ByteArray.size]; omega
          have ho := of_spec _ z1
          have hn := of_spec _ z2
          have hp := parse_spec (ofT_fit _ z1)
          have hm := parse_spec (ofT_fit _ z2)
          have t1 := att_tokens k false false true hN h1 hW h2 (s := ((((⟨#[91]⟩ ++ ⟨#[]⟩) ++ sOf ns) ++ ⟨#[]⟩ ++ sOf (opL k) ++ ⟨#[]⟩ ++ sOf ws ++ ⟨#[]⟩ : ByteArray) ++ ⟨#[93]⟩ : ByteArray)) (by simp [attL, mL, bL, vL, eL, opL, app_toList, *])
          have t2 := att_tokens k false false false hN h1 hW h2 (s := ((((⟨#[91]⟩ ++ ⟨#[]⟩) ++ sOf ns) ++ ⟨#[]⟩ ++ sOf (opL k) ++ ⟨#[]⟩ ++ sOf ws ++ ⟨#[]⟩ : ByteArray) : ByteArray)) (by simp [attL, mL, bL, vL, eL, opL, app_toList, *])
          have e1 := att_parse (op := k) (by omega) false false ns ws
          rw [t1] at ho hp
          rw [t2] at hn hm
          rw [e1.1] at hp
          rw [e1.2] at hm
          clear z1 z2 t1 t2 e1
          conv => whnf
          repeat' first
            | (refine Case.not ?_; conv => whnf)
            | (refine Case.yes ?_; conv => whnf)
            | (refine Case.no ?_; conv => whnf)
            | (refine Case.isTrue (by assumption) ?_; conv => whnf)
            | (refine Case.isFalse (by assumption) ?_; conv => whnf)
            | (refine Case.decT (by assumption) ?_; conv => whnf)
            | (refine Case.decF (by assumption) ?_; conv => whnf)
            | (refine Case.decT (by omega) ?_; conv => whnf)
            | (refine Case.decF (by omega) ?_; conv => whnf)
            | (refine Case.beqT (by omega) ?_; conv => whnf)
            | (refine Case.beqF (by omega) ?_; conv => whnf)
            | (refine Case.strT (by assumption) ?_; conv => whnf)
            | (refine Case.strF (by assumption) ?_; conv => whnf)
            | (refine Case.strF (by simp only [*]; decide) ?_; conv => whnf)
            | (refine Case.strF (y := []) h1 ?_; conv => whnf)
            | (refine Case.strF (y := []) h2 ?_; conv => whnf)
            | (refine Owes.mk (by simp [ByteArray.size_append, ByteArray.size] <;> omega) ?_; conv => whnf)
            | (refine Owes.mk strs_row ?_; conv => whnf)
            | (refine Elem.mk k _ rfl (strs_get (opsS_get (by omega))) ?_; conv => whnf)
            | (refine step_kinds 2 ?hk ?_; (case hk => decide +kernel); conv => whnf)
            | (refine step_kinds 3 ?hk ?_; (case hk => decide +kernel); conv => whnf)
            | (refine Num.id (by omega) (by omega) ?_; conv => whnf)
            | (refine Case.strI (fun _ => ?_) (fun _ => ?_) <;> conv => whnf)
            | (refine Both.mk ?_ ?_ <;> conv => whnf)
            | (refine Case.dec (fun _ => ?_) (fun _ => ?_) <;> conv => whnf)
            | (refine Case.beqI (fun _ => ?_) (fun _ => ?_) <;> conv => whnf)
            | (refine Case.mk (fun _ => ?_) (fun _ => ?_) <;> conv => whnf)
          have hg : (strs opsS)[((k : Nat) : Int).toNat]? = some [fs (opL k)] := by rw [Int.toNat_natCast]; exact strs_get (opsS_get (by omega))
          rw [hg]
          conv => whnf
          repeat' first
            | (refine Case.not ?_; conv => whnf)
            | (refine Case.yes ?_; conv => whnf)
            | (refine Case.no ?_; conv => whnf)
            | (refine Case.isTrue (by assumption) ?_; conv => whnf)
            | (refine Case.isFalse (by assumption) ?_; conv => whnf)
            | (refine Case.decT (by assumption) ?_; conv => whnf)
            | (refine Case.decF (by assumption) ?_; conv => whnf)
            | (refine Case.decT (by omega) ?_; conv => whnf)
            | (refine Case.decF (by omega) ?_; conv => whnf)
            | (refine Case.beqT (by omega) ?_; conv => whnf)
            | (refine Case.beqF (by omega) ?_; conv => whnf)
            | (refine Case.strT (by assumption) ?_; conv => whnf)
            | (refine Case.strF (by assumption) ?_; conv => whnf)
            | (refine Case.strF (by simp only [*]; decide) ?_; conv => whnf)
            | (refine Owes.mk (by simp [ByteArray.size_append, ByteArray.size] <;> omega) ?_; conv => whnf)
            | (refine Owes.mk strs_row ?_; conv => whnf)
            | (refine step_kinds 2 ?hk ?_; (case hk => decide +kernel); conv => whnf)
            | (refine step_kinds 3 ?hk ?_; (case hk => decide +kernel); conv => whnf)
            | (refine Num.id (by omega) (by omega) ?_; conv => whnf)
            | (refine Case.strI (fun _ => ?_) (fun _ => ?_) <;> conv => whnf)
            | (refine Both.mk ?_ ?_ <;> conv => whnf)
            | (refine Case.dec (fun _ => ?_) (fun _ => ?_) <;> conv => whnf)
            | (refine Case.beqI (fun _ => ?_) (fun _ => ?_) <;> conv => whnf)
            | (refine Case.mk (fun _ => ?_) (fun _ => ?_) <;> conv => whnf)
          refine ho.call ?_
          conv => whnf
          refine hp.call ?_
          conv => whnf
          repeat' first
            | (refine Case.not ?_; conv => whnf)
            | (refine Case.yes ?_; conv => whnf)
            | (refine Case.no ?_; conv => whnf)
            | (refine Case.isTrue (by assumption) ?_; conv => whnf)
            | (refine Case.isFalse (by assumption) ?_; conv => whnf)
            | (refine Case.decT (by assumption) ?_; conv => whnf)
            | (refine Case.decF (by assumption) ?_; conv => whnf)
            | (refine Case.decT (by omega) ?_; conv => whnf)
            | (refine Case.decF (by omega) ?_; conv => whnf)
            | (refine Case.beqT (by omega) ?_; conv => whnf)
            | (refine Case.beqF (by omega) ?_; conv => whnf)
            | (refine Case.strT (by assumption) ?_; conv => whnf)
            | (refine Case.strF (by assumption) ?_; conv => whnf)
            | (refine Case.strF (by simp only [*]; decide) ?_; conv => whnf)
            | (refine Owes.mk sels_row ?_; conv => whnf)
            | (refine Owes.mk parts_row ?_; conv => whnf)
            | (refine Owes.mk atts_row ?_; conv => whnf)
            | (refine Elem.mk 0 _ rfl rfl ?_; conv => whnf)
            | (refine Case.isTrue (by decide) ?_; conv => whnf)
            | (refine Case.isFalse (by decide) ?_; conv => whnf)
            | (refine step_kinds 2 ?hk ?_; (case hk => decide +kernel); conv => whnf)
            | (refine step_kinds 3 ?hk ?_; (case hk => decide +kernel); conv => whnf)
            | (refine Num.id (by omega) (by omega) ?_; conv => whnf)
            | (refine Case.strI (fun _ => ?_) (fun _ => ?_) <;> conv => whnf)
            | (refine Both.mk ?_ ?_ <;> conv => whnf)
            | (refine Case.dec (fun _ => ?_) (fun _ => ?_) <;> conv => whnf)
            | (refine Case.beqI (fun _ => ?_) (fun _ => ?_) <;> conv => whnf)
            | (refine Case.mk (fun _ => ?_) (fun _ => ?_) <;> conv => whnf)
          refine hn.call ?_
          conv => whnf
          refine hm.call ?_
          conv => whnf
          repeat' first
            | (refine Case.not ?_; conv => whnf)
            | (refine Case.yes ?_; conv => whnf)
            | (refine Case.no ?_; conv => whnf)
            | (refine Case.isTrue (by assumption) ?_; conv => whnf)
            | (refine Case.isFalse (by assumption) ?_; conv => whnf)
            | (refine Case.decT (by assumption) ?_; conv => whnf)
            | (refine Case.decF (by assumption) ?_; conv => whnf)
            | (refine Case.decT (by omega) ?_; conv => whnf)
            | (refine Case.decF (by omega) ?_; conv => whnf)
            | (refine Case.beqT (by omega) ?_; conv => whnf)
            | (refine Case.beqF (by omega) ?_; conv => whnf)
            | (refine Case.strT (by assumption) ?_; conv => whnf)
            | (refine Case.strF (by assumption) ?_; conv => whnf)
            | (refine Case.strF (by simp only [*]; decide) ?_; conv => whnf)
            | (refine Owes.mk sels_row ?_; conv => whnf)
            | (refine Owes.mk parts_row ?_; conv => whnf)
            | (refine Owes.mk atts_row ?_; conv => whnf)
            | (refine Elem.mk 0 _ rfl rfl ?_; conv => whnf)
            | (refine Case.isTrue (att_eqK (lower_letters hN) rfl (if_neg k0)) ?_; conv => whnf)
            | (refine Case.isTrue (by decide) ?_; conv => whnf)
            | (refine Case.isFalse (by decide) ?_; conv => whnf)
            | (refine step_kinds 2 ?hk ?_; (case hk => decide +kernel); conv => whnf)
            | (refine step_kinds 3 ?hk ?_; (case hk => decide +kernel); conv => whnf)
            | (refine Num.id (by omega) (by omega) ?_; conv => whnf)
            | (refine Case.strI (fun _ => ?_) (fun _ => ?_) <;> conv => whnf)
            | (refine Both.mk ?_ ?_ <;> conv => whnf)
            | (refine Case.dec (fun _ => ?_) (fun _ => ?_) <;> conv => whnf)
            | (refine Case.beqI (fun _ => ?_) (fun _ => ?_) <;> conv => whnf)
            | (refine Case.mk (fun _ => ?_) (fun _ => ?_) <;> conv => whnf)
          exact Fin.isB rfl
        ·
          have z1 : ((((⟨#[91]⟩ ++ ⟨#[]⟩) ++ sOf ns) ++ ⟨#[]⟩ ++ sOf (opL k) ++ ⟨#[]⟩ ++ (⟨#[34]⟩ ++ sOf ws ++ ⟨#[34]⟩) ++ ⟨#[]⟩ : ByteArray) ++ ⟨#[93]⟩ : ByteArray).size < 1000000 := by simp [ByteArray.size_append, ByteArray.size]; omega
          have z2 : ((((⟨#[91]⟩ ++ ⟨#[]⟩) ++ sOf ns) ++ ⟨#[]⟩ ++ sOf (opL k) ++ ⟨#[]⟩ ++ (⟨#[34]⟩ ++ sOf ws ++ ⟨#[34]⟩) ++ ⟨#[]⟩ : ByteArray) : ByteArray).size < 1000000 := by simp [ByteArray.size_append, ByteArray.size]; omega
          have ho := of_spec _ z1
          have hn := of_spec _ z2
          have hp := parse_spec (ofT_fit _ z1)
          have hm := parse_spec (ofT_fit _ z2)
          have t1 := att_tokens k true false true hN h1 hW h2 (s := ((((⟨#[91]⟩ ++ ⟨#[]⟩) ++ sOf ns) ++ ⟨#[]⟩ ++ sOf (opL k) ++ ⟨#[]⟩ ++ (⟨#[34]⟩ ++ sOf ws ++ ⟨#[34]⟩) ++ ⟨#[]⟩ : ByteArray) ++ ⟨#[93]⟩ : ByteArray)) (by simp [attL, mL, bL, vL, eL, opL, app_toList, *])
          have t2 := att_tokens k true false false hN h1 hW h2 (s := ((((⟨#[91]⟩ ++ ⟨#[]⟩) ++ sOf ns) ++ ⟨#[]⟩ ++ sOf (opL k) ++ ⟨#[]⟩ ++ (⟨#[34]⟩ ++ sOf ws ++ ⟨#[34]⟩) ++ ⟨#[]⟩ : ByteArray) : ByteArray)) (by simp [attL, mL, bL, vL, eL, opL, app_toList, *])
          have e1 := att_parse (op := k) (by omega) true false ns ws
          rw [t1] at ho hp
          rw [t2] at hn hm
          rw [e1.1] at hp
          rw [e1.2] at hm
          clear z1 z2 t1 t2 e1
          conv => whnf
          repeat' first
            | (refine Case.not ?_; conv => whnf)
            | (refine Case.yes ?_; conv => whnf)
            | (refine Case.no ?_; conv => whnf)
            | (refine Case.isTrue (by assumption) ?_; conv => whnf)
            | (refine Case.isFalse (by assumption) ?_; conv => whnf)
            | (refine Case.decT (by assumption) ?_; conv => whnf)
            | (refine Case.decF (by assumption) ?_; conv => whnf)
            | (refine Case.decT (by omega) ?_; conv => whnf)
            | (refine Case.decF (by omega) ?_; conv => whnf)
            | (refine Case.beqT (by omega) ?_; conv => whnf)
            | (refine Case.beqF (by omega) ?_; conv => whnf)
            | (refine Case.strT (by assumption) ?_; conv => whnf)
            | (refine Case.strF (by assumption) ?_; conv => whnf)
            | (refine Case.strF (by simp only [*]; decide) ?_; conv => whnf)
            | (refine Case.strF (y := []) h1 ?_; conv => whnf)
            | (refine Case.strF (y := []) h2 ?_; conv => whnf)
            | (refine Owes.mk (by simp [ByteArray.size_append, ByteArray.size] <;> omega) ?_; conv => whnf)
            | (refine Owes.mk strs_row ?_; conv => whnf)
            | (refine Elem.mk k _ rfl (strs_get (opsS_get (by omega))) ?_; conv => whnf)
            | (refine step_kinds 2 ?hk ?_; (case hk => decide +kernel); conv => whnf)
            | (refine step_kinds 3 ?hk ?_; (case hk => decide +kernel); conv => whnf)
            | (refine Num.id (by omega) (by omega) ?_; conv => whnf)
            | (refine Case.strI (fun _ => ?_) (fun _ => ?_) <;> conv => whnf)
            | (refine Both.mk ?_ ?_ <;> conv => whnf)
            | (refine Case.dec (fun _ => ?_) (fun _ => ?_) <;> conv => whnf)
            | (refine Case.beqI (fun _ => ?_) (fun _ => ?_) <;> conv => whnf)
            | (refine Case.mk (fun _ => ?_) (fun _ => ?_) <;> conv => whnf)
          have hg : (strs opsS)[((k : Nat) : Int).toNat]? = some [fs (opL k)] := by rw [Int.toNat_natCast]; exact strs_get (opsS_get (by omega))
          rw [hg]
          conv => whnf
          repeat' first
            | (refine Case.not ?_; conv => whnf)
            | (refine Case.yes ?_; conv => whnf)
            | (refine Case.no ?_; conv => whnf)
            | (refine Case.isTrue (by assumption) ?_; conv => whnf)
            | (refine Case.isFalse (by assumption) ?_; conv => whnf)
            | (refine Case.decT (by assumption) ?_; conv => whnf)
            | (refine Case.decF (by assumption) ?_; conv => whnf)
            | (refine Case.decT (by omega) ?_; conv => whnf)
            | (refine Case.decF (by omega) ?_; conv => whnf)
            | (refine Case.beqT (by omega) ?_; conv => whnf)
            | (refine Case.beqF (by omega) ?_; conv => whnf)
            | (refine Case.strT (by assumption) ?_; conv => whnf)
            | (refine Case.strF (by assumption) ?_; conv => whnf)
            | (refine Case.strF (by simp only [*]; decide) ?_; conv => whnf)
            | (refine Owes.mk (by simp [ByteArray.size_append, ByteArray.size] <;> omega) ?_; conv => whnf)
            | (refine Owes.mk strs_row ?_; conv => whnf)
            | (refine step_kinds 2 ?hk ?_; (case hk => decide +kernel); conv => whnf)
            | (refine step_kinds 3 ?hk ?_; (case hk => decide +kernel); conv => whnf)
            | (refine Num.id (by omega) (by omega) ?_; conv => whnf)
            | (refine Case.strI (fun _ => ?_) (fun _ => ?_) <;> conv => whnf)
            | (refine Both.mk ?_ ?_ <;> conv => whnf)
            | (refine Case.dec (fun _ => ?_) (fun _ => ?_) <;> conv => whnf)
            | (refine Case.beqI (fun _ => ?_) (fun _ => ?_) <;> conv => whnf)
            | (refine Case.mk (fun _ => ?_) (fun _ => ?_) <;> conv => whnf)
          refine ho.call ?_
          conv => whnf
          refine hp.call ?_
          conv => whnf
          repeat' first
            | (refine Case.not ?_; conv => whnf)
            | (refine Case.yes ?_; conv => whnf)
            | (refine Case.no ?_; conv => whnf)
            | (refine Case.isTrue (by assumption) ?_; conv => whnf)
            | (refine Case.isFalse (by assumption) ?_; conv => whnf)
            | (refine Case.decT (by assumption) ?_; conv => whnf)
            | (refine Case.decF (by assumption) ?_; conv => whnf)
            | (refine Case.decT (by omega) ?_; conv => whnf)
            | (refine Case.decF (by omega) ?_; conv => whnf)
            | (refine Case.beqT (by omega) ?_; conv => whnf)
            | (refine Case.beqF (by omega) ?_; conv => whnf)
            | (refine Case.strT (by assumption) ?_; conv => whnf)
            | (refine Case.strF (by assumption) ?_; conv => whnf)
            | (refine Case.strF (by simp only [*]; decide) ?_; conv => whnf)
            | (refine Owes.mk sels_row ?_; conv => whnf)
            | (refine Owes.mk parts_row ?_; conv => whnf)
            | (refine Owes.mk atts_row ?_; conv => whnf)
            | (refine Elem.mk 0 _ rfl rfl ?_; conv => whnf)
            | (refine Case.isTrue (by decide) ?_; conv => whnf)
            | (refine Case.isFalse (by decide) ?_; conv => whnf)
            | (refine step_kinds 2 ?hk ?_; (case hk => decide +kernel); conv => whnf)
            | (refine step_kinds 3 ?hk ?_; (case hk => decide +kernel); conv => whnf)
            | (refine Num.id (by omega) (by omega) ?_; conv => whnf)
            | (refine Case.strI (fun _ => ?_) (fun _ => ?_) <;> conv => whnf)
            | (refine Both.mk ?_ ?_ <;> conv => whnf)
            | (refine Case.dec (fun _ => ?_) (fun _ => ?_) <;> conv => whnf)
            | (refine Case.beqI (fun _ => ?_) (fun _ => ?_) <;> conv => whnf)
            | (refine Case.mk (fun _ => ?_) (fun _ => ?_) <;> conv => whnf)
          refine hn.call ?_
          conv => whnf
          refine hm.call ?_
          conv => whnf
          repeat' first
            | (refine Case.not ?_; conv => whnf)
            | (refine Case.yes ?_; conv => whnf)
            | (refine Case.no ?_; conv => whnf)
            | (refine Case.isTrue (by assumption) ?_; conv => whnf)
            | (refine Case.isFalse (by assumption) ?_; conv => whnf)
            | (refine Case.decT (by assumption) ?_; conv => whnf)
            | (refine Case.decF (by assumption) ?_; conv => whnf)
            | (refine Case.decT (by omega) ?_; conv => whnf)
            | (refine Case.decF (by omega) ?_; conv => whnf)
            | (refine Case.beqT (by omega) ?_; conv => whnf)
            | (refine Case.beqF (by omega) ?_; conv => whnf)
            | (refine Case.strT (by assumption) ?_; conv => whnf)
            | (refine Case.strF (by assumption) ?_; conv => whnf)
            | (refine Case.strF (by simp only [*]; decide) ?_; conv => whnf)
            | (refine Owes.mk sels_row ?_; conv => whnf)
            | (refine Owes.mk parts_row ?_; conv => whnf)
            | (refine Owes.mk atts_row ?_; conv => whnf)
            | (refine Elem.mk 0 _ rfl rfl ?_; conv => whnf)
            | (refine Case.isTrue (att_eqK (lower_letters hN) rfl (if_neg k0)) ?_; conv => whnf)
            | (refine Case.isTrue (by decide) ?_; conv => whnf)
            | (refine Case.isFalse (by decide) ?_; conv => whnf)
            | (refine step_kinds 2 ?hk ?_; (case hk => decide +kernel); conv => whnf)
            | (refine step_kinds 3 ?hk ?_; (case hk => decide +kernel); conv => whnf)
            | (refine Num.id (by omega) (by omega) ?_; conv => whnf)
            | (refine Case.strI (fun _ => ?_) (fun _ => ?_) <;> conv => whnf)
            | (refine Both.mk ?_ ?_ <;> conv => whnf)
            | (refine Case.dec (fun _ => ?_) (fun _ => ?_) <;> conv => whnf)
            | (refine Case.beqI (fun _ => ?_) (fun _ => ?_) <;> conv => whnf)
            | (refine Case.mk (fun _ => ?_) (fun _ => ?_) <;> conv => whnf)
          exact Fin.isB rfl
        ·
          have z1 : ((((⟨#[91]⟩ ++ ⟨#[32, 10, 47, 42, 32, 42, 47, 32]⟩) ++ sOf ns) ++ ⟨#[32, 10, 47, 42, 32, 42, 47, 32]⟩ ++ sOf (opL k) ++ ⟨#[32, 10, 47, 42, 32, 42, 47, 32]⟩ ++ sOf ws ++ ⟨#[32, 10, 47, 42, 32, 42, 47, 32]⟩ : ByteArray) ++ ⟨#[93]⟩ : ByteArray).size < 1000000 := by simp [ByteArray.size_append, ByteArray.size]; omega
          have z2 : ((((⟨#[91]⟩ ++ ⟨#[32, 10, 47, 42, 32, 42, 47, 32]⟩) ++ sOf ns) ++ ⟨#[32, 10, 47, 42, 32, 42, 47, 32]⟩ ++ sOf (opL k) ++ ⟨#[32, 10, 47, 42, 32, 42, 47, 32]⟩ ++ sOf ws ++ ⟨#[32, 10, 47, 42, 32, 42, 47, 32]⟩ : ByteArray) : ByteArray).size < 1000000 := by simp [ByteArray.size_append, ByteArray.size]; omega
          have ho := of_spec _ z1
          have hn := of_spec _ z2
          have hp := parse_spec (ofT_fit _ z1)
          have hm := parse_spec (ofT_fit _ z2)
          have t1 := att_tokens k false true true hN h1 hW h2 (s := ((((⟨#[91]⟩ ++ ⟨#[32, 10, 47, 42, 32, 42, 47, 32]⟩) ++ sOf ns) ++ ⟨#[32, 10, 47, 42, 32, 42, 47, 32]⟩ ++ sOf (opL k) ++ ⟨#[32, 10, 47, 42, 32, 42, 47, 32]⟩ ++ sOf ws ++ ⟨#[32, 10, 47, 42, 32, 42, 47, 32]⟩ : ByteArray) ++ ⟨#[93]⟩ : ByteArray)) (by simp [attL, mL, bL, vL, eL, opL, app_toList, *])
          have t2 := att_tokens k false true false hN h1 hW h2 (s := ((((⟨#[91]⟩ ++ ⟨#[32, 10, 47, 42, 32, 42, 47, 32]⟩) ++ sOf ns) ++ ⟨#[32, 10, 47, 42, 32, 42, 47, 32]⟩ ++ sOf (opL k) ++ ⟨#[32, 10, 47, 42, 32, 42, 47, 32]⟩ ++ sOf ws ++ ⟨#[32, 10, 47, 42, 32, 42, 47, 32]⟩ : ByteArray) : ByteArray)) (by simp [attL, mL, bL, vL, eL, opL, app_toList, *])
          have e1 := att_parse (op := k) (by omega) false true ns ws
          rw [t1] at ho hp
          rw [t2] at hn hm
          rw [e1.1] at hp
          rw [e1.2] at hm
          clear z1 z2 t1 t2 e1
          conv => whnf
          repeat' first
            | (refine Case.not ?_; conv => whnf)
            | (refine Case.yes ?_; conv => whnf)
            | (refine Case.no ?_; conv => whnf)
            | (refine Case.isTrue (by assumption) ?_; conv => whnf)
            | (refine Case.isFalse (by assumption) ?_; conv => whnf)
            | (refine Case.decT (by assumption) ?_; conv => whnf)
            | (refine Case.decF (by assumption) ?_; conv => whnf)
            | (refine Case.decT (by omega) ?_; conv => whnf)
            | (refine Case.decF (by omega) ?_; conv => whnf)
            | (refine Case.beqT (by omega) ?_; conv => whnf)
            | (refine Case.beqF (by omega) ?_; conv => whnf)
            | (refine Case.strT (by assumption) ?_; conv => whnf)
            | (refine Case.strF (by assumption) ?_; conv => whnf)
            | (refine Case.strF (by simp only [*]; decide) ?_; conv => whnf)
            | (refine Case.strF (y := []) h1 ?_; conv => whnf)
            | (refine Case.strF (y := []) h2 ?_; conv => whnf)
            | (refine Owes.mk (by simp [ByteArray.size_append, ByteArray.size] <;> omega) ?_; conv => whnf)
            | (refine Owes.mk strs_row ?_; conv => whnf)
            | (refine Elem.mk k _ rfl (strs_get (opsS_get (by omega))) ?_; conv => whnf)
            | (refine step_kinds 2 ?hk ?_; (case hk => decide +kernel); conv => whnf)
            | (refine step_kinds 3 ?hk ?_; (case hk => decide +kernel); conv => whnf)
            | (refine Num.id (by omega) (by omega) ?_; conv => whnf)
            | (refine Case.strI (fun _ => ?_) (fun _ => ?_) <;> conv => whnf)
            | (refine Both.mk ?_ ?_ <;> conv => whnf)
            | (refine Case.dec (fun _ => ?_) (fun _ => ?_) <;> conv => whnf)
            | (refine Case.beqI (fun _ => ?_) (fun _ => ?_) <;> conv => whnf)
            | (refine Case.mk (fun _ => ?_) (fun _ => ?_) <;> conv => whnf)
          have hg : (strs opsS)[((k : Nat) : Int).toNat]? = some [fs (opL k)] := by rw [Int.toNat_natCast]; exact strs_get (opsS_get (by omega))
          rw [hg]
          conv => whnf
          repeat' first
            | (refine Case.not ?_; conv => whnf)
            | (refine Case.yes ?_; conv => whnf)
            | (refine Case.no ?_; conv => whnf)
            | (refine Case.isTrue (by assumption) ?_; conv => whnf)
            | (refine Case.isFalse (by assumption) ?_; conv => whnf)
            | (refine Case.decT (by assumption) ?_; conv => whnf)
            | (refine Case.decF (by assumption) ?_; conv => whnf)
            | (refine Case.decT (by omega) ?_; conv => whnf)
            | (refine Case.decF (by omega) ?_; conv => whnf)
            | (refine Case.beqT (by omega) ?_; conv => whnf)
            | (refine Case.beqF (by omega) ?_; conv => whnf)
            | (refine Case.strT (by assumption) ?_; conv => whnf)
            | (refine Case.strF (by assumption) ?_; conv => whnf)
            | (refine Case.strF (by simp only [*]; decide) ?_; conv => whnf)
            | (refine Owes.mk (by simp [ByteArray.size_append, ByteArray.size] <;> omega) ?_; conv => whnf)
            | (refine Owes.mk strs_row ?_; conv => whnf)
            | (refine step_kinds 2 ?hk ?_; (case hk => decide +kernel); conv => whnf)
            | (refine step_kinds 3 ?hk ?_; (case hk => decide +kernel); conv => whnf)
            | (refine Num.id (by omega) (by omega) ?_; conv => whnf)
            | (refine Case.strI (fun _ => ?_) (fun _ => ?_) <;> conv => whnf)
            | (refine Both.mk ?_ ?_ <;> conv => whnf)
            | (refine Case.dec (fun _ => ?_) (fun _ => ?_) <;> conv => whnf)
            | (refine Case.beqI (fun _ => ?_) (fun _ => ?_) <;> conv => whnf)
            | (refine Case.mk (fun _ => ?_) (fun _ => ?_) <;> conv => whnf)
          refine ho.call ?_
          conv => whnf
          refine hp.call ?_
          conv => whnf
          repeat' first
            | (refine Case.not ?_; conv => whnf)
            | (refine Case.yes ?_; conv => whnf)
            | (refine Case.no ?_; conv => whnf)
            | (refine Case.isTrue (by assumption) ?_; conv => whnf)
            | (refine Case.isFalse (by assumption) ?_; conv => whnf)
            | (refine Case.decT (by assumption) ?_; conv => whnf)
            | (refine Case.decF (by assumption) ?_; conv => whnf)
            | (refine Case.decT (by omega) ?_; conv => whnf)
            | (refine Case.decF (by omega) ?_; conv => whnf)
            | (refine Case.beqT (by omega) ?_; conv => whnf)
            | (refine Case.beqF (by omega) ?_; conv => whnf)
            | (refine Case.strT (by assumption) ?_; conv => whnf)
            | (refine Case.strF (by assumption) ?_; conv => whnf)
            | (refine Case.strF (by simp only [*]; decide) ?_; conv => whnf)
            | (refine Owes.mk sels_row ?_; conv => whnf)
            | (refine Owes.mk parts_row ?_; conv => whnf)
            | (refine Owes.mk atts_row ?_; conv => whnf)
            | (refine Elem.mk 0 _ rfl rfl ?_; conv => whnf)
            | (refine Case.isTrue (by decide) ?_; conv => whnf)
            | (refine Case.isFalse (by decide) ?_; conv => whnf)
            | (refine step_kinds 2 ?hk ?_; (case hk => decide +kernel); conv => whnf)
            | (refine step_kinds 3 ?hk ?_; (case hk => decide +kernel); conv => whnf)
            | (refine Num.id (by omega) (by omega) ?_; conv => whnf)
            | (refine Case.strI (fun _ => ?_) (fun _ => ?_) <;> conv => whnf)
            | (refine Both.mk ?_ ?_ <;> conv => whnf)
            | (refine Case.dec (fun _ => ?_) (fun _ => ?_) <;> conv => whnf)
            | (refine Case.beqI (fun _ => ?_) (fun _ => ?_) <;> conv => whnf)
            | (refine Case.mk (fun _ => ?_) (fun _ => ?_) <;> conv => whnf)
          refine hn.call ?_
          conv => whnf
          refine hm.call ?_
          conv => whnf
          repeat' first
            | (refine Case.not ?_; conv => whnf)
            | (refine Case.yes ?_; conv => whnf)
            | (refine Case.no ?_; conv => whnf)
            | (refine Case.isTrue (by assumption) ?_; conv => whnf)
            | (refine Case.isFalse (by assumption) ?_; conv => whnf)
            | (refine Case.decT (by assumption) ?_; conv => whnf)
            | (refine Case.decF (by assumption) ?_; conv => whnf)
            | (refine Case.decT (by omega) ?_; conv => whnf)
            | (refine Case.decF (by omega) ?_; conv => whnf)
            | (refine Case.beqT (by omega) ?_; conv => whnf)
            | (refine Case.beqF (by omega) ?_; conv => whnf)
            | (refine Case.strT (by assumption) ?_; conv => whnf)
            | (refine Case.strF (by assumption) ?_; conv => whnf)
            | (refine Case.strF (by simp only [*]; decide) ?_; conv => whnf)
            | (refine Owes.mk sels_row ?_; conv => whnf)
            | (refine Owes.mk parts_row ?_; conv => whnf)
            | (refine Owes.mk atts_row ?_; conv => whnf)
            | (refine Elem.mk 0 _ rfl rfl ?_; conv => whnf)
            | (refine Case.isTrue (att_eqK (lower_letters hN) rfl (if_neg k0)) ?_; conv => whnf)
            | (refine Case.isTrue (by decide) ?_; conv => whnf)
            | (refine Case.isFalse (by decide) ?_; conv => whnf)
            | (refine step_kinds 2 ?hk ?_; (case hk => decide +kernel); conv => whnf)
            | (refine step_kinds 3 ?hk ?_; (case hk => decide +kernel); conv => whnf)
            | (refine Num.id (by omega) (by omega) ?_; conv => whnf)
            | (refine Case.strI (fun _ => ?_) (fun _ => ?_) <;> conv => whnf)
            | (refine Both.mk ?_ ?_ <;> conv => whnf)
            | (refine Case.dec (fun _ => ?_) (fun _ => ?_) <;> conv => whnf)
            | (refine Case.beqI (fun _ => ?_) (fun _ => ?_) <;> conv => whnf)
            | (refine Case.mk (fun _ => ?_) (fun _ => ?_) <;> conv => whnf)
          exact Fin.isB rfl
        ·
          have z1 : ((((⟨#[91]⟩ ++ ⟨#[32, 10, 47, 42, 32, 42, 47, 32]⟩) ++ sOf ns) ++ ⟨#[32, 10, 47, 42, 32, 42, 47, 32]⟩ ++ sOf (opL k) ++ ⟨#[32, 10, 47, 42, 32, 42, 47, 32]⟩ ++ (⟨#[34]⟩ ++ sOf ws ++ ⟨#[34]⟩) ++ ⟨#[32, 10, 47, 42, 32, 42, 47, 32]⟩ : ByteArray) ++ ⟨#[93]⟩ : ByteArray).size < 1000000 := by simp [ByteArray.size_append, ByteArray.size]; omega
          have z2 : ((((⟨#[91]⟩ ++ ⟨#[32, 10, 47, 42, 32, 42, 47, 32]⟩) ++ sOf ns) ++ ⟨#[32, 10, 47, 42, 32, 42, 47, 32]⟩ ++ sOf (opL k) ++ ⟨#[32, 10, 47, 42, 32, 42, 47, 32]⟩ ++ (⟨#[34]⟩ ++ sOf ws ++ ⟨#[34]⟩) ++ ⟨#[32, 10, 47, 42, 32, 42, 47, 32]⟩ : ByteArray) : ByteArray).size < 1000000 := by simp [ByteArray.size_append, ByteArray.size]; omega
          have ho := of_spec _ z1
          have hn := of_spec _ z2
          have hp := parse_spec (ofT_fit _ z1)
          have hm := parse_spec (ofT_fit _ z2)
          have t1 := att_tokens k true true true hN h1 hW h2 (s := ((((⟨#[91]⟩ ++ ⟨#[32, 10, 47, 42, 32, 42, 47, 32]⟩) ++ sOf ns) ++ ⟨#[32, 10, 47, 42, 32, 42, 47, 32]⟩ ++ sOf (opL k) ++ ⟨#[32, 10, 47, 42, 32, 42, 47, 32]⟩ ++ (⟨#[34]⟩ ++ sOf ws ++ ⟨#[34]⟩) ++ ⟨#[32, 10, 47, 42, 32, 42, 47, 32]⟩ : ByteArray) ++ ⟨#[93]⟩ : ByteArray)) (by simp [attL, mL, bL, vL, eL, opL, app_toList, *])
          have t2 := att_tokens k true true false hN h1 hW h2 (s := ((((⟨#[91]⟩ ++ ⟨#[32, 10, 47, 42, 32, 42, 47, 32]⟩) ++ sOf ns) ++ ⟨#[32, 10, 47, 42, 32, 42, 47, 32]⟩ ++ sOf (opL k) ++ ⟨#[32, 10, 47, 42, 32, 42, 47, 32]⟩ ++ (⟨#[34]⟩ ++ sOf ws ++ ⟨#[34]⟩) ++ ⟨#[32, 10, 47, 42, 32, 42, 47, 32]⟩ : ByteArray) : ByteArray)) (by simp [attL, mL, bL, vL, eL, opL, app_toList, *])
          have e1 := att_parse (op := k) (by omega) true true ns ws
          rw [t1] at ho hp
          rw [t2] at hn hm
          rw [e1.1] at hp
          rw [e1.2] at hm
          clear z1 z2 t1 t2 e1
          conv => whnf
          repeat' first
            | (refine Case.not ?_; conv => whnf)
            | (refine Case.yes ?_; conv => whnf)
            | (refine Case.no ?_; conv => whnf)
            | (refine Case.isTrue (by assumption) ?_; conv => whnf)
            | (refine Case.isFalse (by assumption) ?_; conv => whnf)
            | (refine Case.decT (by assumption) ?_; conv => whnf)
            | (refine Case.decF (by assumption) ?_; conv => whnf)
            | (refine Case.decT (by omega) ?_; conv => whnf)
            | (refine Case.decF (by omega) ?_; conv => whnf)
            | (refine Case.beqT (by omega) ?_; conv => whnf)
            | (refine Case.beqF (by omega) ?_; conv => whnf)
            | (refine Case.strT (by assumption) ?_; conv => whnf)
            | (refine Case.strF (by assumption) ?_; conv => whnf)
            | (refine Case.strF (by simp only [*]; decide) ?_; conv => whnf)
            | (refine Case.strF (y := []) h1 ?_; conv => whnf)
            | (refine Case.strF (y := []) h2 ?_; conv => whnf)
            | (refine Owes.mk (by simp [ByteArray.size_append, ByteArray.size] <;> omega) ?_; conv => whnf)
            | (refine Owes.mk strs_row ?_; conv => whnf)
            | (refine Elem.mk k _ rfl (strs_get (opsS_get (by omega))) ?_; conv => whnf)
            | (refine step_kinds 2 ?hk ?_; (case hk => decide +kernel); conv => whnf)
            | (refine step_kinds 3 ?hk ?_; (case hk => decide +kernel); conv => whnf)
            | (refine Num.id (by omega) (by omega) ?_; conv => whnf)
            | (refine Case.strI (fun _ => ?_) (fun _ => ?_) <;> conv => whnf)
            | (refine Both.mk ?_ ?_ <;> conv => whnf)
            | (refine Case.dec (fun _ => ?_) (fun _ => ?_) <;> conv => whnf)
            | (refine Case.beqI (fun _ => ?_) (fun _ => ?_) <;> conv => whnf)
            | (refine Case.mk (fun _ => ?_) (fun _ => ?_) <;> conv => whnf)
          have hg : (strs opsS)[((k : Nat) : Int).toNat]? = some [fs (opL k)] := by rw [Int.toNat_natCast]; exact strs_get (opsS_get (by omega))
          rw [hg]
          conv => whnf
          repeat' first
            | (refine Case.not ?_; conv => whnf)
            | (refine Case.yes ?_; conv => whnf)
            | (refine Case.no ?_; conv => whnf)
            | (refine Case.isTrue (by assumption) ?_; conv => whnf)
            | (refine Case.isFalse (by assumption) ?_; conv => whnf)
            | (refine Case.decT (by assumption) ?_; conv => whnf)
            | (refine Case.decF (by assumption) ?_; conv => whnf)
            | (refine Case.decT (by omega) ?_; conv => whnf)
            | (refine Case.decF (by omega) ?_; conv => whnf)
            | (refine Case.beqT (by omega) ?_; conv => whnf)
            | (refine Case.beqF (by omega) ?_; conv => whnf)
            | (refine Case.strT (by assumption) ?_; conv => whnf)
            | (refine Case.strF (by assumption) ?_; conv => whnf)
            | (refine Case.strF (by simp only [*]; decide) ?_; conv => whnf)
            | (refine Owes.mk (by simp [ByteArray.size_append, ByteArray.size] <;> omega) ?_; conv => whnf)
            | (refine Owes.mk strs_row ?_; conv => whnf)
            | (refine step_kinds 2 ?hk ?_; (case hk => decide +kernel); conv => whnf)
            | (refine step_kinds 3 ?hk ?_; (case hk => decide +kernel); conv => whnf)
            | (refine Num.id (by omega) (by omega) ?_; conv => whnf)
            | (refine Case.strI (fun _ => ?_) (fun _ => ?_) <;> conv => whnf)
            | (refine Both.mk ?_ ?_ <;> conv => whnf)
            | (refine Case.dec (fun _ => ?_) (fun _ => ?_) <;> conv => whnf)
            | (refine Case.beqI (fun _ => ?_) (fun _ => ?_) <;> conv => whnf)
            | (refine Case.mk (fun _ => ?_) (fun _ => ?_) <;> conv => whnf)
          refine ho.call ?_
          conv => whnf
          refine hp.call ?_
          conv => whnf
          repeat' first
            | (refine Case.not ?_; conv => whnf)
            | (refine Case.yes ?_; conv => whnf)
            | (refine Case.no ?_; conv => whnf)
            | (refine Case.isTrue (by assumption) ?_; conv => whnf)
            | (refine Case.isFalse (by assumption) ?_; conv => whnf)
            | (refine Case.decT (by assumption) ?_; conv => whnf)
            | (refine Case.decF (by assumption) ?_; conv => whnf)
            | (refine Case.decT (by omega) ?_; conv => whnf)
            | (refine Case.decF (by omega) ?_; conv => whnf)
            | (refine Case.beqT (by omega) ?_; conv => whnf)
            | (refine Case.beqF (by omega) ?_; conv => whnf)
            | (refine Case.strT (by assumption) ?_; conv => whnf)
            | (refine Case.strF (by assumption) ?_; conv => whnf)
            | (refine Case.strF (by simp only [*]; decide) ?_; conv => whnf)
            | (refine Owes.mk sels_row ?_; conv => whnf)
            | (refine Owes.mk parts_row ?_; conv => whnf)
            | (refine Owes.mk atts_row ?_; conv => whnf)
            | (refine Elem.mk 0 _ rfl rfl ?_; conv => whnf)
            | (refine Case.isTrue (by decide) ?_; conv => whnf)
            | (refine Case.isFalse (by decide) ?_; conv => whnf)
            | (refine step_kinds 2 ?hk ?_; (case hk => decide +kernel); conv => whnf)
            | (refine step_kinds 3 ?hk ?_; (case hk => decide +kernel); conv => whnf)
            | (refine Num.id (by omega) (by omega) ?_; conv => whnf)
            | (refine Case.strI (fun _ => ?_) (fun _ => ?_) <;> conv => whnf)
            | (refine Both.mk ?_ ?_ <;> conv => whnf)
            | (refine Case.dec (fun _ => ?_) (fun _ => ?_) <;> conv => whnf)
            | (refine Case.beqI (fun _ => ?_) (fun _ => ?_) <;> conv => whnf)
            | (refine Case.mk (fun _ => ?_) (fun _ => ?_) <;> conv => whnf)
          refine hn.call ?_
          conv => whnf
          refine hm.call ?_
          conv => whnf
          repeat' first
            | (refine Case.not ?_; conv => whnf)
            | (refine Case.yes ?_; conv => whnf)
            | (refine Case.no ?_; conv => whnf)
            | (refine Case.isTrue (by assumption) ?_; conv => whnf)
            | (refine Case.isFalse (by assumption) ?_; conv => whnf)
            | (refine Case.decT (by assumption) ?_; conv => whnf)
            | (refine Case.decF (by assumption) ?_; conv => whnf)
            | (refine Case.decT (by omega) ?_; conv => whnf)
            | (refine Case.decF (by omega) ?_; conv => whnf)
            | (refine Case.beqT (by omega) ?_; conv => whnf)
            | (refine Case.beqF (by omega) ?_; conv => whnf)
            | (refine Case.strT (by assumption) ?_; conv => whnf)
            | (refine Case.strF (by assumption) ?_; conv => whnf)
            | (refine Case.strF (by simp only [*]; decide) ?_; conv => whnf)
            | (refine Owes.mk sels_row ?_; conv => whnf)
            | (refine Owes.mk parts_row ?_; conv => whnf)
            | (refine Owes.mk atts_row ?_; conv => whnf)
            | (refine Elem.mk 0 _ rfl rfl ?_; conv => whnf)
            | (refine Case.isTrue (att_eqK (lower_letters hN) rfl (if_neg k0)) ?_; conv => whnf)
            | (refine Case.isTrue (by decide) ?_; conv => whnf)
            | (refine Case.isFalse (by decide) ?_; conv => whnf)
            | (refine step_kinds 2 ?hk ?_; (case hk => decide +kernel); conv => whnf)
            | (refine step_kinds 3 ?hk ?_; (case hk => decide +kernel); conv => whnf)
            | (refine Num.id (by omega) (by omega) ?_; conv => whnf)
            | (refine Case.strI (fun _ => ?_) (fun _ => ?_) <;> conv => whnf)
            | (refine Both.mk ?_ ?_ <;> conv => whnf)
            | (refine Case.dec (fun _ => ?_) (fun _ => ?_) <;> conv => whnf)
            | (refine Case.beqI (fun _ => ?_) (fun _ => ?_) <;> conv => whnf)
            | (refine Case.mk (fun _ => ?_) (fun _ => ?_) <;> conv => whnf)
          exact Fin.isB rfl
theorem walkSelAttrs (a0 : ByteArray) (a1 : Int) (a2 : ByteArray) (a3 a4 : Bool) (W : World) (b0 : a0.size ≤ 140737488351232) (w1 : (Lit.int .i64 a1).wf = true) (b2 : a2.size ≤ 140737488351232) : Calls Try.prog 6 #[.string a0, .int .i64 a1, .string a2, .bool a3, .bool a4] W fun e w' => e = .returned (.bool true) ∧ Below W.heap.size W w' := by
  have hw : -9223372036854775808 ≤ a1 ∧ a1 < 9223372036854775808 := by
    simp only [Lit.wf, Bool.and_eq_true, decide_eq_true_eq] at w1
    have e1 : IntKind.i64.min = -9223372036854775808 := by decide
    have e2 : IntKind.i64.max = 9223372036854775807 := by decide
    omega
  have h := (selAttrs_spec a0.data.toList a1 a2.data.toList a3 a4 hw).2
  exact calls_of_spec h W [.string a0, .int .i64 a1, .string a2, .bool a3, .bool a4] (repL_cons (rep_val rfl) (repL_cons (rep_val rfl) (repL_cons (rep_val rfl) (repL_cons (rep_val rfl) (repL_cons (rep_val rfl) repL_nil)))))
end Go.Proofs.Ytdfiegleaknleaa.Aw
