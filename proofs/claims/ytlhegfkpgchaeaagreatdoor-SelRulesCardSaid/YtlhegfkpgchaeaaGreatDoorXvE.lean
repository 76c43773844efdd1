/- What declarations set: value.Sets and the reference's Sets, as contracts. -/
import Derived.Test.YtlhegfkpgchaeaaGreatDoorXvD
namespace Go.Proofs.YtlhegfkpgchaeaaGreatDoor.Aw
open Go Go.RowKit Go.Lib
set_option linter.unusedVariables false
set_option linter.unusedSimpArgs false
set_option maxRecDepth 100000
structure Dcl where
 name : List UInt8 := []
 value : List Tok := []
 imp : Bool := false
def Dcl.row (d : Dcl) : List F := [fs d.name, .sl (toksF d.value), .v (.bool d.imp)]
structure SetV where
 prop : Int := 0
 kind : Int := 0
 n : Int := 0
 imp : Bool := false
def SetV.row (s : SetV) : List F := [fi s.prop, fi s.kind, fi s.n, .v (.bool s.imp)]
abbrev dclsF (l : List Dcl) : List (List F) := l.map Dcl.row
abbrev setsF (l : List SetV) : List (List F) := l.map SetV.row
theorem dclsF_row {l : List Dcl} : ∀ e ∈ dclsF l, e.length = 3 := by simp [Dcl.row]
theorem setsF_row {l : List SetV} : ∀ e ∈ setsF l, e.length = 4 := by simp [SetV.row]
theorem dclsF_get {l : List Dcl} {i : Nat} {k : Dcl} (h : l[i]? = some k) : (dclsF l)[i]? = some k.row := by simp [h]
theorem setsF_get {l : List SetV} {i : Nat} {k : SetV} (h : l[i]? = some k) : (setsF l)[i]? = some k.row := by simp [h]
def set1 (d : Dcl) : List SetV := if (propW d.name).2 = true then (if (parseW (propW d.name).1 d.value).2.2 = true then [{ prop := (propW d.name).1, kind := (parseW (propW d.name).1 d.value).1, n := (parseW (propW d.name).1 d.value).2.1, imp := d.imp }] else []) else []
def setsW (l : List Dcl) : List SetV := l.flatMap set1
structure DclOk (d : Dcl) : Prop where
 v : d.value.length < 9223372036854775808
 t : ∀ k ∈ d.value, k.text.length ≤ 140737488355328
theorem set1_len (d : Dcl) : (set1 d).length ≤ 1 := by
 unfold set1
 split
 ·split <;> simp
 ·simp
structure SetsI (l : List Dcl) (s : Nat × List SetV) : Prop where
 i : s.1 ≤ l.length
 o : s.2.length ≤ s.1
 run : s.2 ++ setsW (l.drop s.1) = setsW l
theorem setsW_cons (d : Dcl) (l : List Dcl) : setsW (d :: l) = set1 d ++ setsW l := by simp [setsW]
abbrev setsD (l : List SetV) : D := .own 0 67 4 (setsF l)
theorem Fin.sets {l : List SetV} {H : Hp} {n : Nat} {R : D → Hp → Prop} (hR : R (.f (.sl (setsF l))) []) : Fin (setsD l) H n 0 0 R := by
 refine Fin.frz 0 ?_
 exact Fin.mk (.f (.sl (setsF l))) [] hR rfl ⟨by unfold intoL intoL; exact ⟨rfl, rfl⟩, by unfold intoH; cases frzH 0 H <;> trivial⟩
set_option maxHeartbeats 2000000 in
theorem vsets_spec (l : List Dcl) (hl : l.length < 1000000000) (ho : ∀ d ∈ l, DclOk d) : Val 16 [.f (.sl (dclsF l))] (.f (.sl (setsF (setsW l)))) := by
 have hlen : (dclsF l).length = l.length := by simp
 refine ⟨rfl, ⟨trivial, trivial⟩, rfl, spec_mk tab_ok Tryz.func16 (by rfl) rfl ?_⟩
 conv => whnf
 refine step_loop tab_ok (fun s : Nat × List SetV => padK [.f (.sl (dclsF l)), .junk, .junk, setsD s.2, .junk, .junk, .junk, .junk, .junk, .junk, .f (.sl (dclsF l)), int l.length, int s.1] 42) (fun _ => []) 1 (SetsI l) (fun s => l.length - s.1) (0, []) ⟨by simp, by simp, rfl⟩ (fun _ => rfl) ?_ ?_
 ·
  repeat' first | exact trivial | exact rfl | exact (by decide : 0 < 1) | exact Nat.le_refl _ | exact Nat.zero_lt_succ _ | exact congrArg int (by (try dsimp only); omega) | apply And.intro
 ·rintro ⟨i, out⟩ ⟨h1, h2, h3⟩
  simp only at h1 h2 h3
  have l2 : (setsF out).length = out.length := List.length_map ..
  conv => whnf
  refine Case.dec (fun h0 => ?_) (fun h0 => ?_)
  ·obtain ⟨d, hd⟩ : ∃ d, l[i]? = some d := ⟨_, List.getElem?_eq_getElem (by omega)⟩
   have hok := ho d (List.mem_of_getElem? hd)
   rw [drop_cons' hd, setsW_cons] at h3
   have hs1 := set1_len d
   conv => whnf
   repeat' first | ((first | refine Case.not ?_ | refine Owes.mk dclsF_row ?_ | refine Elem.mk i _ rfl (dclsF_get hd) ?_ | refine (vprop_spec d.name).call ⟨rfl, rfl⟩ ?_ | refine (vparse_spec (propW d.name).1 d.value hok.v hok.t).call ⟨rfl, rfl, rfl⟩ ?_ | (refine Owes.mk (by simp; omega) ?_) | refine Num.id (by omega) (by omega) ?_); conv => whnf) | (refine Case.mk (fun _ => ?_) (fun _ => ?_) <;> conv => whnf)
   all_goals refine ⟨(i + 1, out ++ set1 d), ⟨by dsimp only; omega, by rw [List.length_append]; dsimp only; omega, by rw [List.append_assoc]; exact h3⟩, by dsimp only; omega, ?_⟩
   ·have e : set1 d = [{ prop := (propW d.name).1, kind := (parseW (propW d.name).1 d.value).1, n := (parseW (propW d.name).1 d.value).2.1, imp := d.imp }] := by
     unfold set1
     rw [if_pos (by assumption), if_pos (by assumption)]
    rw [e]
    repeat' first | exact trivial | exact rfl | exact (by decide : 0 < 1) | apply And.intro | exact congrArg (D.own _ _ _) (by simp [SetV.row]; done)
   ·have e : set1 d = [] := by
     unfold set1
     rw [if_pos (by assumption), if_neg (by simp [*])]
    rw [e, List.append_nil]
    repeat' first | exact trivial | exact rfl | exact (by decide : 0 < 1) | apply And.intro
   ·have e : set1 d = [] := by
     unfold set1
     rw [if_neg (by simp [*])]
    rw [e, List.append_nil]
    repeat' first | exact trivial | exact rfl | exact (by decide : 0 < 1) | apply And.intro
  ·rw [show l.drop i = [] by rw [List.drop_eq_nil_iff]; omega] at h3
   simp [setsW] at h3
   conv => whnf
   exact Fin.sets ⟨rfl, by rw [h3]; rfl⟩
def nameL : List (List UInt8) := [[99, 111, 108, 111, 114], [102, 111, 110, 116, 45, 115, 105, 122, 101], [116, 101, 120, 116, 45, 97, 108, 105, 103, 110], [100, 105, 115, 112, 108, 97, 121], [119, 105, 100, 116, 104], [109, 97, 114, 103, 105, 110], [111, 112, 97, 99, 105, 116, 121], [122, 45, 105, 110, 100, 101, 120]]
theorem rname_spec (i : Nat) (s : List UInt8) (h : nameL[i]? = some s) : Pure 88 [int i] (.str ⟨s.toArray⟩) := by
 have hi : i < 8 := (List.getElem?_eq_some_iff.1 h).1
 have h8 : i = 0 ∨ i = 1 ∨ i = 2 ∨ i = 3 ∨ i = 4 ∨ i = 5 ∨ i = 6 ∨ i = 7 := by omega
 refine .mk trivial (spec_mk tab_ok Tryz.func88 (by rfl) rfl ?_)
 rcases h8 with rfl | rfl | rfl | rfl | rfl | rfl | rfl | rfl
 ·cases h
  conv => whnf
  repeat' ((first | refine Case.no ?_ | refine Owes.mk rfl ?_ | refine Elem.mk 0 _ rfl rfl ?_); conv => whnf)
  exact Fin.scal trivial ⟨rfl, rfl⟩
 ·cases h
  conv => whnf
  repeat' ((first | refine Case.no ?_ | refine Owes.mk rfl ?_ | refine Elem.mk 1 _ rfl rfl ?_); conv => whnf)
  exact Fin.scal trivial ⟨rfl, rfl⟩
 ·cases h
  conv => whnf
  repeat' ((first | refine Case.no ?_ | refine Owes.mk rfl ?_ | refine Elem.mk 2 _ rfl rfl ?_); conv => whnf)
  exact Fin.scal trivial ⟨rfl, rfl⟩
 ·cases h
  conv => whnf
  repeat' ((first | refine Case.no ?_ | refine Owes.mk rfl ?_ | refine Elem.mk 3 _ rfl rfl ?_); conv => whnf)
  exact Fin.scal trivial ⟨rfl, rfl⟩
 ·cases h
  conv => whnf
  repeat' ((first | refine Case.no ?_ | refine Owes.mk rfl ?_ | refine Elem.mk 4 _ rfl rfl ?_); conv => whnf)
  exact Fin.scal trivial ⟨rfl, rfl⟩
 ·cases h
  conv => whnf
  repeat' ((first | refine Case.no ?_ | refine Owes.mk rfl ?_ | refine Elem.mk 5 _ rfl rfl ?_); conv => whnf)
  exact Fin.scal trivial ⟨rfl, rfl⟩
 ·cases h
  conv => whnf
  repeat' ((first | refine Case.no ?_ | refine Owes.mk rfl ?_ | refine Elem.mk 6 _ rfl rfl ?_); conv => whnf)
  exact Fin.scal trivial ⟨rfl, rfl⟩
 ·cases h
  conv => whnf
  repeat' ((first | refine Case.no ?_ | refine Owes.mk rfl ?_ | refine Elem.mk 7 _ rfl rfl ?_); conv => whnf)
  exact Fin.scal trivial ⟨rfl, rfl⟩
theorem bytes_eq (s t : List UInt8) : ((⟨s.toArray⟩ : ByteArray) = ⟨t.toArray⟩) = (s = t) := by
 refine propext ⟨fun h => ?_, fun h => by rw [h]⟩
 have := congrArg (fun b : ByteArray => b.data.toList) h
 simpa using this
theorem propW_is (s : List UInt8) : propW s = (((wordV s nameL).1 : Int), (wordV s nameL).2) := by
 unfold propW Nam.propOf wordV nameL
 have e : ∀ t : List UInt8, ((⟨s.toArray⟩ : ByteArray) = ⟨t.toArray⟩) = (t = s) := fun t => by rw [bytes_eq]; exact propext eq_comm
 have e0 := e [99, 111, 108, 111, 114]
 have e1 := e [102, 111, 110, 116, 45, 115, 105, 122, 101]
 have e2 := e [116, 101, 120, 116, 45, 97, 108, 105, 103, 110]
 have e3 := e [100, 105, 115, 112, 108, 97, 121]
 have e4 := e [119, 105, 100, 116, 104]
 have e5 := e [109, 97, 114, 103, 105, 110]
 have e6 := e [111, 112, 97, 99, 105, 116, 121]
 have e7 := e [122, 45, 105, 110, 100, 101, 120]
 change (_ = Nam.n0) = _ at e0
 change (_ = Nam.n1) = _ at e1
 change (_ = Nam.n2) = _ at e2
 change (_ = Nam.n3) = _ at e3
 change (_ = Nam.n4) = _ at e4
 change (_ = Nam.n5) = _ at e5
 change (_ = Nam.n6) = _ at e6
 change (_ = Nam.n7) = _ at e7
 simp only [e0, e1, e2, e3, e4, e5, e6, e7, wordRun]
 repeat' split
 all_goals rfl
theorem rprop_spec (s : List UInt8) : Pure 52 [.str ⟨s.toArray⟩] (.tup [int (propW s).1, bool (propW s).2]) := by
 rw [propW_is]
 refine ⟨⟨trivial, trivial, trivial⟩, spec_mk tab_ok Tryz.func52 (by rfl) rfl ?_⟩
 conv => whnf
 refine step_loop tab_ok (fun i : Nat => padK [.str ⟨s.toArray⟩, .junk, .junk, .junk, int i] 14) (fun _ => []) 0 (WordI s nameL) (fun i => 8 - i) 0 ⟨by simp, rfl⟩ (fun _ => rfl) ?_ ?_
 ·
  repeat' first | exact trivial | exact rfl | apply And.intro
 ·rintro i ⟨h1, h2⟩
  have h8 : nameL.length = 8 := rfl
  conv => whnf
  refine Case.dec (fun h0 => ?_) (fun h0 => ?_)
  ·obtain ⟨x, hx⟩ : ∃ x, nameL[i]? = some x := ⟨_, List.getElem?_eq_getElem (by omega)⟩
   rw [drop_cons' hx, wordRun] at h2
   conv => whnf
   repeat' first | ((first | refine (rname_spec i x hx).call ⟨rfl, rfl⟩ ?_ | refine Num.id (by omega) (by omega) ?_); conv => whnf) | (refine Case.strI (fun _ => ?_) (fun _ => ?_) <;> conv => whnf)
   ·rw [if_pos (by assumption)] at h2
    refine Fin.ib ?_ ?_ <;> rw [← h2]
   ·rw [if_neg (by assumption)] at h2
    refine ⟨i + 1, ⟨by omega, h2⟩, by omega, ?_⟩
    repeat' first | exact trivial | exact rfl | apply And.intro
  ·rw [show nameL.drop i = [] by rw [List.drop_eq_nil_iff]; omega, wordRun] at h2
   conv => whnf
   refine Fin.ib ?_ ?_ <;> rw [← h2] <;> rfl
end Go.Proofs.YtlhegfkpgchaeaaGreatDoor.Aw
