/- The program's reader of selectors: operators, combinators, plain pseudo-classes. -/
import Derived.Test.YtlhegfkpgchaeaaGreatDoorXvP
import Derived.Test.YtlhegfkpgchaeaaGreatDoorXvE
import Derived.Test.YtlhegfkpgchaeaaGreatDoorXrQ
namespace Go.Proofs.YtlhegfkpgchaeaaGreatDoor.Aw
open Go Go.RowKit Go.Lib
set_option linter.unusedVariables false
set_option linter.unusedSimpArgs false
set_option maxRecDepth 100000
def valV (v : List Tok) : List Tok := if (markV v).2 then (markV v).1 else v
def declV : List Tok → Dcl × Bool
 | [] => ({}, false)
 | k :: r => if k.kind = 1 then (match trimL r with
   | [] => ({}, false)
   | c :: r' => if c.kind = 11 then ({ name := lower k.text, value := valV (trimT r'), imp := (markV (trimT r')).2 }, true) else ({}, false))
  else ({}, false)
def Dcl.d (d : Dcl) : D := .agg [.str ⟨d.name.toArray⟩, .f (.sl (toksF d.value)), bool d.imp]
theorem markV_len (v : List Tok) : (markV v).1.length ≤ v.length := by
 unfold markV
 split
 ·exact Nat.le_refl _
 ·split
  ·exact Nat.le_refl _
  ·split
   ·simp
   ·split
    ·dsimp only
     have h1 := trimT_len (trimT v.dropLast).dropLast
     have h2 := trimT_len v.dropLast
     simp at h1 h2
     omega
    ·simp
structure DwI (t r : List Tok) (j : Nat) : Prop where
 le : 1 ≤ j ∧ j ≤ t.length
 run : trimL (t.drop j) = trimL r
set_option maxHeartbeats 2000000 in
theorem yone_val (t : List Tok) (hl : t.length < 100000000) (ht : ∀ k ∈ t, k.text.length ≤ 140737488355328) : Val 36 [.f (.sl (toksF t))] (.tup [(declV t).1.d, bool (declV t).2]) := by
 refine ⟨rfl, ⟨trivial, trivial⟩, rfl, spec_mk tab_ok Tryz.func36 (by rfl) rfl ?_⟩
 cases t with
 | nil =>
  have hz : (toksF []).length = 0 := rfl
  conv => whnf
  repeat' (refine Case.yes ?_; conv => whnf)
  refine Fin.mk (.tup [(declV []).1.d, bool (declV []).2]) [] ⟨rfl, rfl⟩ rfl ?_
  repeat' first | exact trivial | exact rfl | apply And.intro
 | cons k r =>
  have hk := ht k (by simp)
  have hlow := lowerP_specB k.text hk
  have hlr : (toksF (k :: r)).length = r.length + 1 := by simp
  have hget : (toksF (k :: r))[0]? = some (tokRow k) := rfl
  have hgj : ∀ (j : Nat) (x : Tok), (k :: r)[j]? = some x → (toksF (k :: r))[j]? = some (tokRow x) := fun j x h => toksF_get h
  have hlt : (k :: r).length = r.length + 1 := by simp
  by_cases h1 : k.kind = 1
  ·generalize hg : toksF (k :: r) = kr at *
   have hrow := toksF_of hg
   conv => whnf
   repeat' ((first | refine Case.not ?_ | refine Case.decT (by with_reducible assumption) ?_ | refine Case.decF (by omega) ?_ | refine Owes.mk hrow ?_ | refine Elem.mk 0 _ rfl hget ?_ | refine hlow.call ⟨rfl, rfl⟩ ?_); conv => whnf)
   refine step_loop tab_ok (fun j : Nat => padK [.f (.sl kr), .junk, .ptr 0 0, .junk, .ptr 1 0, int j] 72) (fun _ => [some [.str ⟨#[]⟩, .nil, bool false], some [.str ⟨(lower k.text).toArray⟩, .nil, bool false]]) 0 (DwI (k :: r) r) (fun j => r.length + 1 - j) 1 ⟨⟨by omega, by omega⟩, rfl⟩ (fun _ => rfl) ?_ ?_
   ·
    repeat' first | exact trivial | exact rfl | exact Nat.zero_lt_succ _ | exact (by decide : 1 < 2) | apply And.intro
   ·rintro j ⟨g1, g2⟩
    rw [hlt] at g1
    rcases Nat.lt_or_ge j (r.length + 1) with hj | hj
    ·obtain ⟨x, hx⟩ : ∃ x, (k :: r)[j]? = some x := ⟨_, List.getElem?_eq_getElem (by omega)⟩
     have hgx := hgj j x hx
     have hdr : (k :: r).drop j = x :: (k :: r).drop (j + 1) := drop_cons' hx
     have hwx := dwhite_spec x
     rw [hdr, trimL] at g2
     by_cases h9 : x.kind = 9
     ·rw [if_pos h9] at g2
      rw [decide_eq_true h9] at hwx
      conv => whnf
      repeat' ((first | refine Case.yes ?_ | refine Case.decT (by omega) ?_ | refine Owes.mk hrow ?_ | refine Elem.mk j _ rfl hgx ?_ | refine hwx.call ⟨⟨rfl, rfl, rfl, rfl, rfl, rfl⟩, rfl⟩ ?_ | refine Num.id (by omega) (by omega) ?_); conv => whnf)
      refine ⟨j + 1, ⟨⟨by omega, by omega⟩, g2⟩, by omega, ?_⟩
      repeat' first | exact trivial | exact rfl | exact Nat.zero_lt_succ _ | exact (by decide : 1 < 2) | apply And.intro
     ·rw [if_neg h9] at g2
      rw [decide_eq_false h9] at hwx
      by_cases h11 : x.kind = 11
      ·obtain ⟨r', hr'⟩ : ∃ r', (k :: r).drop (j + 1) = r' := ⟨_, rfl⟩
       have e : declV (k :: r) = ({ name := lower k.text, value := valV (trimT r'), imp := (markV (trimT r')).2 }, true) := by
        rw [declV, if_pos h1, ← g2, hr']
        dsimp only
        rw [if_pos h11]
       have hcut : (kr.take (r.length + 1)).drop (j + 1) = toksF r' := by
        rw [← hg, ← hr', show (toksF (k :: r)).take (r.length + 1) = toksF (k :: r) from List.take_of_length_le (by simp)]
        show _ = List.map tokRow _
        rw [List.map_drop]
       have hrl : r'.length ≤ r.length := by rw [← hr', List.length_drop]; omega
       have hv := ytrim_val r' (by omega)
       have hvl := trimT_len r'
       have hm := ymarked_val (trimT r') (by omega) (fun y hy => ht y (by
        have := trimT_sub r' y hy
        rw [← hr'] at this
        exact List.mem_of_mem_drop this))
       rw [e]
       unfold valV
       rcases hmv : markV (trimT r') with ⟨w, b⟩
       rw [hmv] at hm
       dsimp only at hm
       have hwl : w.length ≤ (trimT r').length := by have := markV_len (trimT r'); rw [hmv] at this; exact this
       cases b with
       | true =>
        have hc := yclone_toks w (by omega)
        conv => whnf
        repeat' first
         | (refine Case.not ?_; conv => whnf)
         | (refine Case.yes ?_; conv => whnf)
         | (refine Case.no ?_; conv => whnf)
         | (refine Case.decT (by with_reducible assumption) ?_; conv => whnf)
         | (refine Case.decT (by omega) ?_; conv => whnf)
         | (refine Case.decF (by omega) ?_; conv => whnf)
         | (refine Owes.mk hrow ?_; conv => whnf)
         | (refine Elem.mk j _ rfl hgx ?_; conv => whnf)
         | (refine hwx.call ⟨⟨rfl, rfl, rfl, rfl, rfl, rfl⟩, rfl⟩ ?_; conv => whnf)
         | (refine Part.mk (j + 1) (r.length + 1) rfl (by omega) (by omega) (by omega) ?_; conv => whnf)
         | (rw [hcut]; conv => whnf)
         | (refine hv.call ?_; conv => whnf)
         | (refine hm.call ?_; conv => whnf)
         | (refine hc.call ?_; conv => whnf)
         | (refine Num.id (by omega) (by omega) ?_; conv => whnf)
        refine Fin.mk (.tup [Dcl.d { name := lower k.text, value := w, imp := true }, bool true]) [] ⟨rfl, rfl⟩ rfl ?_
        repeat' first | exact trivial | exact rfl | apply And.intro
       | false =>
        have hc := yclone_toks (trimT r') (by omega)
        conv => whnf
        repeat' first
         | (refine Case.not ?_; conv => whnf)
         | (refine Case.no ?_; conv => whnf)
         | (refine Case.decT (by with_reducible assumption) ?_; conv => whnf)
         | (refine Case.decT (by omega) ?_; conv => whnf)
         | (refine Case.decF (by omega) ?_; conv => whnf)
         | (refine Owes.mk hrow ?_; conv => whnf)
         | (refine Elem.mk j _ rfl hgx ?_; conv => whnf)
         | (refine hwx.call ⟨⟨rfl, rfl, rfl, rfl, rfl, rfl⟩, rfl⟩ ?_; conv => whnf)
         | (refine Part.mk (j + 1) (r.length + 1) rfl (by omega) (by omega) (by omega) ?_; conv => whnf)
         | (rw [hcut]; conv => whnf)
         | (refine hv.call ?_; conv => whnf)
         | (refine hm.call ?_; conv => whnf)
         | (refine hc.call ?_; conv => whnf)
         | (refine Num.id (by omega) (by omega) ?_; conv => whnf)
        refine Fin.mk (.tup [Dcl.d { name := lower k.text, value := trimT r', imp := false }, bool true]) [] ⟨rfl, rfl⟩ rfl ?_
        repeat' first | exact trivial | exact rfl | apply And.intro
      ·have e : declV (k :: r) = ({}, false) := by
        rw [declV, if_pos h1, ← g2]
        dsimp only
        rw [if_neg h11]
       rw [e]
       conv => whnf
       repeat' ((first | refine Case.not ?_ | refine Case.no ?_ | refine Case.decF (by with_reducible assumption) ?_ | refine Case.decT (by omega) ?_ | refine Case.decF (by omega) ?_ | refine Owes.mk hrow ?_ | refine Elem.mk j _ rfl hgx ?_ | refine hwx.call ⟨⟨rfl, rfl, rfl, rfl, rfl, rfl⟩, rfl⟩ ?_); conv => whnf)
       refine Fin.mk (.tup [Dcl.d {}, bool false]) [] ⟨rfl, rfl⟩ rfl ?_
       repeat' first | exact trivial | exact rfl | apply And.intro
    ·have hdr : (k :: r).drop j = [] := by rw [List.drop_eq_nil_iff]; omega
     rw [hdr] at g2
     have e : declV (k :: r) = ({}, false) := by
      rw [declV, if_pos h1, ← g2]
      rfl
     rw [e]
     conv => whnf
     repeat' ((first | refine Case.yes ?_ | refine Case.no ?_ | refine Case.decT (by omega) ?_ | refine Case.decF (by omega) ?_); conv => whnf)
     refine Fin.mk (.tup [Dcl.d {}, bool false]) [] ⟨rfl, rfl⟩ rfl ?_
     repeat' first | exact trivial | exact rfl | apply And.intro
  ·have e : declV (k :: r) = ({}, false) := by rw [declV, if_neg h1]
   rw [e]
   generalize hg : toksF (k :: r) = kr at *
   have hrow := toksF_of hg
   conv => whnf
   repeat' ((first | refine Case.not ?_ | refine Case.decF (by with_reducible assumption) ?_ | refine Case.decF (by omega) ?_ | refine Owes.mk hrow ?_ | refine Elem.mk 0 _ rfl hget ?_); conv => whnf)
   refine Fin.mk (.tup [Dcl.d {}, bool false]) [] ⟨rfl, rfl⟩ rfl ?_
   repeat' first | exact trivial | exact rfl | apply And.intro
theorem markV_not {q : List Tok} {k : Tok} (h : ¬ k.imp) : markV (q ++ [k]) = (q ++ [k], false) := by
 unfold markV
 rw [show (q ++ [k]).getLast? = some k by simp]
 dsimp only
 rw [if_pos (.inr h)]
theorem markV_void {q : List Tok} {k : Tok} (h : k.imp) (hw : trimT q = []) : (markV (q ++ [k])).2 = false := by
 unfold markV
 rw [show (q ++ [k]).getLast? = some k by simp, show (q ++ [k]).dropLast = q by simp]
 dsimp only
 split
 ·rfl
 ·rw [hw]
  rfl
theorem trimT_nil : trimT [] = [] := rfl
theorem markV_some {q u : List Tok} {k x : Tok} (h : k.imp) (hw : trimT q = u ++ [x]) : markV (q ++ [k]) = if x.bang then (trimT u, true) else ([], false) := by
 have hq : ¬ (q ++ [k]).length < 2 := by
  intro hlt
  have : q = [] := by
   cases q with
   | nil => rfl
   | cons a q =>
    simp at hlt
    omega
  subst this
  rw [trimT_nil] at hw
  simp at hw
 unfold markV
 rw [show (q ++ [k]).getLast? = some k by simp, show (q ++ [k]).dropLast = q by simp]
 dsimp only
 rw [if_neg (fun h2 => h2.elim hq (fun h3 => h3 h)), hw, show (u ++ [x]).getLast? = some x by simp, show (u ++ [x]).dropLast = u by simp]
theorem valV_false {v : List Tok} (h : (markV v).2 = false) : valV v = v := by unfold valV; rw [h]; rfl
theorem valV_true {v w : List Tok} (h : markV v = (w, true)) : valV v = w := by unfold valV; rw [h]; rfl
set_option maxHeartbeats 4000000 in
theorem rdecl_val (k : Tok) (r : List Tok) (hl : (k :: r).length < 100000000) (ht : ∀ y ∈ k :: r, y.text.length ≤ 140737488355328) : Val 54 [.f (.sl (toksF (k :: r)))] (.tup [(declV (k :: r)).1.d, bool (declV (k :: r)).2]) := by
 have hlt : (k :: r).length = r.length + 1 := by simp
 refine ⟨rfl, ⟨trivial, trivial⟩, rfl, spec_mk tab_ok Tryz.func54 (by rfl) rfl ?_⟩
 have hk := ht k (by simp)
 have hlow := lower_specB k.text hk
 have hlr : (toksF (k :: r)).length = r.length + 1 := by simp
 have hget : (toksF (k :: r))[0]? = some (tokRow k) := rfl
 have hh := toks_head k r
 by_cases h1 : k.kind = 1
 ·generalize hg : toksF (k :: r) = kr at *
  have hrow := toksF_of hg
  conv => whnf
  repeat' ((first | refine Case.not ?_ | refine Case.decT (by with_reducible assumption) ?_ | refine Owes.mk hrow ?_ | refine Elem.mk 0 _ rfl hget ?_ | refine hlow.call ⟨rfl, rfl⟩ ?_ | refine Part.mk 1 (r.length + 1) rfl (by omega) (by omega) (by omega) ?_ | rw [hh]); conv => whnf)
  refine step_loop tab_ok (fun s : List Tok => padK [.f (.sl (toksF s)), .junk, .ptr 0 0, .junk, .ptr 1 0] 109) (fun _ => [some [.str ⟨#[]⟩, .nil, bool false], some [.str ⟨(lower k.text).toArray⟩, .nil, bool false]]) 0 (fun s => trimL s = trimL r ∧ s.length ≤ r.length ∧ ∀ y ∈ s, y ∈ k :: r) (fun s => s.length) r ⟨rfl, Nat.le_refl _, fun y hy => by simp [hy]⟩ (fun _ => rfl) ?_ ?_
  ·
   repeat' first | exact trivial | exact rfl | exact Nat.zero_lt_succ _ | exact (by decide : 1 < 2) | apply And.intro
  ·rintro s ⟨g1, g2, g3⟩
   cases s with
   | nil =>
    have e : declV (k :: r) = ({}, false) := by rw [declV, if_pos h1, ← g1]; rfl
    rw [e]
    have hz : (toksF []).length = 0 := rfl
    conv => whnf
    repeat' ((first | refine Case.yes ?_ | refine Case.no ?_); conv => whnf)
    refine Fin.mk (.tup [Dcl.d {}, bool false]) [] ⟨rfl, rfl⟩ rfl ?_
    repeat' first | exact trivial | exact rfl | apply And.intro
   | cons x r' =>
    have hxr : (toksF (x :: r')).length = r'.length + 1 := by simp
    have hgx : (toksF (x :: r'))[0]? = some (tokRow x) := rfl
    have hhx := toks_head x r'
    rw [trimL] at g1
    generalize hgs : toksF (x :: r') = xr at *
    have hrx := toksF_of hgs
    by_cases h9 : x.kind = 9
    ·rw [if_pos h9] at g1
     conv => whnf
     repeat' ((first | refine Case.decT (by with_reducible assumption) ?_ | refine Case.decT (by omega) ?_ | refine Owes.mk hrx ?_ | refine Elem.mk 0 _ rfl hgx ?_ | refine Part.mk 1 (r'.length + 1) rfl (by omega) (by omega) (by omega) ?_ | rw [hhx]); conv => whnf)
     refine ⟨r', ⟨g1, by simp at g2; omega, fun y hy => g3 y (by simp [hy])⟩, by simp, ?_⟩
     repeat' first | exact trivial | exact rfl | exact Nat.zero_lt_succ _ | exact (by decide : 1 < 2) | apply And.intro
    ·rw [if_neg h9] at g1
     by_cases h11 : x.kind = 11
     ·have e : declV (k :: r) = ({ name := lower k.text, value := valV (trimT r'), imp := (markV (trimT r')).2 }, true) := by
       rw [declV, if_pos h1, ← g1]
       dsimp only
       rw [if_pos h11]
      have hr'l : r'.length < 100000000 := by simp at g2; omega
      have hv := rtrim_val r' hr'l
      have hvl := trimT_len r'
      have hvt : ∀ y ∈ trimT r', y.text.length ≤ 140737488355328 := fun y hy => ht y (g3 y (by simp [trimT_sub r' y hy]))
      rw [e]
      clear e g1 g3 hget hlow
      rcases List.eq_nil_or_concat (trimT r') with hv0 | ⟨q, z, hvz⟩
      ·have em : markV (trimT r') = ([], false) := by rw [hv0]; rfl
       rw [valV_false (by rw [em]), em, hv0]
       rw [hv0] at hv
       have hz : (toksF []).length = 0 := rfl
       conv => whnf
       repeat' first
        | (refine Case.not ?_; conv => whnf)
        | (refine Case.no ?_; conv => whnf)
        | (refine Case.decT (by with_reducible assumption) ?_; conv => whnf)
        | (refine Case.decF (by with_reducible assumption) ?_; conv => whnf)
        | (refine Case.decT (by omega) ?_; conv => whnf)
        | (refine Case.decF (by omega) ?_; conv => whnf)
        | (refine Owes.mk hrx ?_; conv => whnf)
        | (refine Elem.mk 0 _ rfl hgx ?_; conv => whnf)
        | (refine Part.mk 1 (r'.length + 1) rfl (by omega) (by omega) (by omega) ?_; conv => whnf)
        | (rw [hhx]; conv => whnf)
        | (refine hv.call ?_; conv => whnf)
        | (refine Owes.mk (toksF_of rfl) ?_; conv => whnf)
        | (refine Owes.mk (by show (toksF []).length * 48 ≤ 140737488355328; omega) ?_; conv => whnf)
       refine Fin.frz 0 ?_
       refine Fin.mk (.tup [Dcl.d { name := lower k.text, value := [], imp := false }, bool true]) [] ⟨rfl, rfl⟩ rfl ?_
       repeat' first | exact trivial | exact rfl | apply And.intro
      ·simp only [List.concat_eq_append] at hvz
       rw [hvz] at hv hvl hvt ⊢
       have hz := hvt z (by simp)
       have hlz := lower_specB z.text hz
       have hql : q.length < 100000000 := by simp at hvl; omega
       have hvq := rtrim_val q hql
       have hwl := trimT_len q
       have hcz := toks_tail q z
       have hgz := toks_last q z
       have hlrz : (toksF (q ++ [z])).length = q.length + 1 := by simp
       by_cases hzi : z.imp
       ·have h3 := hzi.2
        have h2 := hzi.1
        rcases List.eq_nil_or_concat (trimT q) with hw | ⟨u, x', hw⟩
        ·rw [valV_false (markV_void hzi hw), markV_void hzi hw]
         rw [hw] at hvq
         have hz0 : (toksF []).length = 0 := rfl
         generalize hzr : toksF (q ++ [z]) = zr at *
         have hrz := toksF_of hzr
         have hiz : (zr.length : Int) - 1 = (q.length : Nat) := by omega
         conv => whnf
         repeat' first
          | (refine Case.not ?_; conv => whnf)
          | (refine Case.no ?_; conv => whnf)
          | (refine Case.decT (by with_reducible assumption) ?_; conv => whnf)
          | (refine Case.decF (by with_reducible assumption) ?_; conv => whnf)
          | (refine Case.decT (by omega) ?_; conv => whnf)
          | (refine Case.decF (by omega) ?_; conv => whnf)
          | (refine Owes.mk hrx ?_; conv => whnf)
          | (refine Elem.mk 0 _ rfl hgx ?_; conv => whnf)
          | (refine Part.mk 1 (r'.length + 1) rfl (by omega) (by omega) (by omega) ?_; conv => whnf)
          | (rw [hhx]; conv => whnf)
          | (refine hv.call ?_; conv => whnf)
          | (refine Owes.mk hrz ?_; conv => whnf)
          | (refine Elem.mk q.length _ hiz hgz ?_; conv => whnf)
          | (refine hlz.call ⟨rfl, rfl⟩ ?_; conv => whnf)
          | (refine Case.strT (x := lower z.text) (y := impB) h3 ?_; conv => whnf)
          | (refine Part.mk 0 q.length rfl hiz (by omega) (by omega) ?_; conv => whnf)
          | (rw [hcz]; conv => whnf)
          | (refine hvq.call ?_; conv => whnf)
          | (refine Owes.mk (by show zr.length * 48 ≤ 140737488355328; omega) ?_; conv => whnf)
          | (refine Num.id (by omega) (by omega) ?_; conv => whnf)
         subst hzr
         refine Fin.frz 0 ?_
         refine Fin.mk (.tup [Dcl.d { name := lower k.text, value := q ++ [z], imp := false }, bool true]) [] ⟨rfl, rfl⟩ rfl ?_
         repeat' first | exact trivial | exact rfl | apply And.intro
        ·simp only [List.concat_eq_append] at hw
         have em := markV_some hzi hw
         rw [hw] at hvq hwl
         have hub : u.length < 100000000 := by simp at hwl; omega
         have hvu := rtrim_val u hub
         have hul := trimT_len u
         have hcu := toks_tail u x'
         have hgu := toks_last u x'
         have hlru : (toksF (u ++ [x'])).length = u.length + 1 := by simp
         generalize hur : toksF (u ++ [x']) = ur at *
         have hru := toksF_of hur
         have hiu : (ur.length : Int) - 1 = (u.length : Nat) := by omega
         by_cases hx1 : x'.kind = 10
         ·by_cases hx2 : x'.c = 33
          ·rw [if_pos (show x'.bang from ⟨hx1, hx2⟩)] at em
           rw [valV_true em, em]
           have hz0 : (toksF []).length = 0 := rfl
           generalize hzr : toksF (q ++ [z]) = zr at *
           have hrz := toksF_of hzr
           have hiz : (zr.length : Int) - 1 = (q.length : Nat) := by omega
           have htu : (toksF (trimT u)).length = (trimT u).length := by simp
           conv => whnf
           repeat' first
            | (refine Case.not ?_; conv => whnf)
            | (refine Case.decT (by with_reducible assumption) ?_; conv => whnf)
            | (refine Case.decF (by with_reducible assumption) ?_; conv => whnf)
            | (refine Case.decT (by omega) ?_; conv => whnf)
            | (refine Case.decF (by omega) ?_; conv => whnf)
            | (refine Owes.mk hrx ?_; conv => whnf)
            | (refine Elem.mk 0 _ rfl hgx ?_; conv => whnf)
            | (refine Part.mk 1 (r'.length + 1) rfl (by omega) (by omega) (by omega) ?_; conv => whnf)
            | (rw [hhx]; conv => whnf)
            | (refine hv.call ?_; conv => whnf)
            | (refine Owes.mk hrz ?_; conv => whnf)
            | (refine Elem.mk q.length _ hiz hgz ?_; conv => whnf)
            | (refine hlz.call ⟨rfl, rfl⟩ ?_; conv => whnf)
            | (refine Case.strT (x := lower z.text) (y := impB) h3 ?_; conv => whnf)
            | (refine Part.mk 0 q.length rfl hiz (by omega) (by omega) ?_; conv => whnf)
            | (rw [hcz]; conv => whnf)
            | (refine hvq.call ?_; conv => whnf)
            | (refine Owes.mk hru ?_; conv => whnf)
            | (refine Elem.mk u.length _ hiu hgu ?_; conv => whnf)
            | (refine Part.mk 0 u.length rfl hiu (by omega) (by omega) ?_; conv => whnf)
            | (rw [hcu]; conv => whnf)
            | (refine hvu.call ?_; conv => whnf)
            | (refine Owes.mk (toksF_of rfl) ?_; conv => whnf)
            | (refine Owes.mk (by show (toksF (trimT u)).length * 48 ≤ 140737488355328; omega) ?_; conv => whnf)
            | (refine Num.id (by omega) (by omega) ?_; conv => whnf)
           refine Fin.frz 0 ?_
           refine Fin.mk (.tup [Dcl.d { name := lower k.text, value := trimT u, imp := true }, bool true]) [] ⟨rfl, rfl⟩ rfl ?_
           repeat' first | exact trivial | exact rfl | apply And.intro
          ·rw [if_neg (fun h : x'.bang => hx2 h.2)] at em
           rw [valV_false (by rw [em]), em]
           have hz0 : (toksF []).length = 0 := rfl
           generalize hzr : toksF (q ++ [z]) = zr at *
           have hrz := toksF_of hzr
           have hiz : (zr.length : Int) - 1 = (q.length : Nat) := by omega
           conv => whnf
           repeat' first
            | (refine Case.not ?_; conv => whnf)
            | (refine Case.decT (by with_reducible assumption) ?_; conv => whnf)
            | (refine Case.decF (by with_reducible assumption) ?_; conv => whnf)
            | (refine Case.decT (by omega) ?_; conv => whnf)
            | (refine Case.decF (by omega) ?_; conv => whnf)
            | (refine Owes.mk hrx ?_; conv => whnf)
            | (refine Elem.mk 0 _ rfl hgx ?_; conv => whnf)
            | (refine Part.mk 1 (r'.length + 1) rfl (by omega) (by omega) (by omega) ?_; conv => whnf)
            | (rw [hhx]; conv => whnf)
            | (refine hv.call ?_; conv => whnf)
            | (refine Owes.mk hrz ?_; conv => whnf)
            | (refine Elem.mk q.length _ hiz hgz ?_; conv => whnf)
            | (refine hlz.call ⟨rfl, rfl⟩ ?_; conv => whnf)
            | (refine Case.strT (x := lower z.text) (y := impB) h3 ?_; conv => whnf)
            | (refine Part.mk 0 q.length rfl hiz (by omega) (by omega) ?_; conv => whnf)
            | (rw [hcz]; conv => whnf)
            | (refine hvq.call ?_; conv => whnf)
            | (refine Owes.mk hru ?_; conv => whnf)
            | (refine Elem.mk u.length _ hiu hgu ?_; conv => whnf)
            | (refine Owes.mk (by show zr.length * 48 ≤ 140737488355328; omega) ?_; conv => whnf)
            | (refine Num.id (by omega) (by omega) ?_; conv => whnf)
           subst hzr
           refine Fin.frz 0 ?_
           refine Fin.mk (.tup [Dcl.d { name := lower k.text, value := q ++ [z], imp := false }, bool true]) [] ⟨rfl, rfl⟩ rfl ?_
           repeat' first | exact trivial | exact rfl | apply And.intro
         ·rw [if_neg (fun h : x'.bang => hx1 h.1)] at em
          rw [valV_false (by rw [em]), em]
          have hz0 : (toksF []).length = 0 := rfl
          generalize hzr : toksF (q ++ [z]) = zr at *
          have hrz := toksF_of hzr
          have hiz : (zr.length : Int) - 1 = (q.length : Nat) := by omega
          conv => whnf
          repeat' first
           | (refine Case.not ?_; conv => whnf)
           | (refine Case.no ?_; conv => whnf)
           | (refine Case.decT (by with_reducible assumption) ?_; conv => whnf)
           | (refine Case.decF (by with_reducible assumption) ?_; conv => whnf)
           | (refine Case.decT (by omega) ?_; conv => whnf)
           | (refine Case.decF (by omega) ?_; conv => whnf)
           | (refine Owes.mk hrx ?_; conv => whnf)
           | (refine Elem.mk 0 _ rfl hgx ?_; conv => whnf)
           | (refine Part.mk 1 (r'.length + 1) rfl (by omega) (by omega) (by omega) ?_; conv => whnf)
           | (rw [hhx]; conv => whnf)
           | (refine hv.call ?_; conv => whnf)
           | (refine Owes.mk hrz ?_; conv => whnf)
           | (refine Elem.mk q.length _ hiz hgz ?_; conv => whnf)
           | (refine hlz.call ⟨rfl, rfl⟩ ?_; conv => whnf)
           | (refine Case.strT (x := lower z.text) (y := impB) h3 ?_; conv => whnf)
           | (refine Part.mk 0 q.length rfl hiz (by omega) (by omega) ?_; conv => whnf)
           | (rw [hcz]; conv => whnf)
           | (refine hvq.call ?_; conv => whnf)
           | (refine Owes.mk hru ?_; conv => whnf)
           | (refine Elem.mk u.length _ hiu hgu ?_; conv => whnf)
           | (refine Owes.mk (by show zr.length * 48 ≤ 140737488355328; omega) ?_; conv => whnf)
           | (refine Num.id (by omega) (by omega) ?_; conv => whnf)
          subst hzr
          refine Fin.frz 0 ?_
          refine Fin.mk (.tup [Dcl.d { name := lower k.text, value := q ++ [z], imp := false }, bool true]) [] ⟨rfl, rfl⟩ rfl ?_
          repeat' first | exact trivial | exact rfl | apply And.intro
       ·rw [markV_not hzi, valV_false (by rw [markV_not hzi])]
        have hz0 : (toksF []).length = 0 := rfl
        generalize hzr : toksF (q ++ [z]) = zr at *
        have hrz := toksF_of hzr
        have hiz : (zr.length : Int) - 1 = (q.length : Nat) := by omega
        by_cases h2 : z.kind = 1
        ·have h3 : ¬ lower z.text = impB := fun h => hzi ⟨h2, h⟩
         conv => whnf
         repeat' first
          | (refine Case.not ?_; conv => whnf)
          | (refine Case.decT (by with_reducible assumption) ?_; conv => whnf)
          | (refine Case.decF (by with_reducible assumption) ?_; conv => whnf)
          | (refine Case.decT (by omega) ?_; conv => whnf)
          | (refine Case.decF (by omega) ?_; conv => whnf)
          | (refine Owes.mk hrx ?_; conv => whnf)
          | (refine Elem.mk 0 _ rfl hgx ?_; conv => whnf)
          | (refine Part.mk 1 (r'.length + 1) rfl (by omega) (by omega) (by omega) ?_; conv => whnf)
          | (rw [hhx]; conv => whnf)
          | (refine hv.call ?_; conv => whnf)
          | (refine Owes.mk hrz ?_; conv => whnf)
          | (refine Elem.mk q.length _ hiz hgz ?_; conv => whnf)
          | (refine hlz.call ⟨rfl, rfl⟩ ?_; conv => whnf)
          | (refine Case.strF (x := lower z.text) (y := impB) h3 ?_; conv => whnf)
          | (refine Owes.mk (by show zr.length * 48 ≤ 140737488355328; omega) ?_; conv => whnf)
          | (refine Num.id (by omega) (by omega) ?_; conv => whnf)
         subst hzr
         refine Fin.frz 0 ?_
         refine Fin.mk (.tup [Dcl.d { name := lower k.text, value := q ++ [z], imp := false }, bool true]) [] ⟨rfl, rfl⟩ rfl ?_
         repeat' first | exact trivial | exact rfl | apply And.intro
        ·conv => whnf
         repeat' first
          | (refine Case.not ?_; conv => whnf)
          | (refine Case.no ?_; conv => whnf)
          | (refine Case.decT (by with_reducible assumption) ?_; conv => whnf)
          | (refine Case.decF (by with_reducible assumption) ?_; conv => whnf)
          | (refine Case.decT (by omega) ?_; conv => whnf)
          | (refine Case.decF (by omega) ?_; conv => whnf)
          | (refine Owes.mk hrx ?_; conv => whnf)
          | (refine Elem.mk 0 _ rfl hgx ?_; conv => whnf)
          | (refine Part.mk 1 (r'.length + 1) rfl (by omega) (by omega) (by omega) ?_; conv => whnf)
          | (rw [hhx]; conv => whnf)
          | (refine hv.call ?_; conv => whnf)
          | (refine Owes.mk hrz ?_; conv => whnf)
          | (refine Elem.mk q.length _ hiz hgz ?_; conv => whnf)
          | (refine Owes.mk (by show zr.length * 48 ≤ 140737488355328; omega) ?_; conv => whnf)
          | (refine Num.id (by omega) (by omega) ?_; conv => whnf)
         subst hzr
         refine Fin.frz 0 ?_
         refine Fin.mk (.tup [Dcl.d { name := lower k.text, value := q ++ [z], imp := false }, bool true]) [] ⟨rfl, rfl⟩ rfl ?_
         repeat' first | exact trivial | exact rfl | apply And.intro
     ·have e : declV (k :: r) = ({}, false) := by
       rw [declV, if_pos h1, ← g1]
       dsimp only
       rw [if_neg h11]
      rw [e]
      conv => whnf
      repeat' ((first | refine Case.not ?_ | refine Case.decF (by with_reducible assumption) ?_ | refine Case.decT (by omega) ?_ | refine Case.decF (by omega) ?_ | refine Owes.mk hrx ?_ | refine Elem.mk 0 _ rfl hgx ?_); conv => whnf)
      refine Fin.mk (.tup [Dcl.d {}, bool false]) [] ⟨rfl, rfl⟩ rfl ?_
      repeat' first | exact trivial | exact rfl | apply And.intro
 ·have e : declV (k :: r) = ({}, false) := by rw [declV, if_neg h1]
  rw [e]
  generalize hg : toksF (k :: r) = kr at *
  have hrow := toksF_of hg
  conv => whnf
  repeat' ((first | refine Case.not ?_ | refine Case.decF (by with_reducible assumption) ?_ | refine Owes.mk hrow ?_ | refine Elem.mk 0 _ rfl hget ?_); conv => whnf)
  refine Fin.mk (.tup [Dcl.d {}, bool false]) [] ⟨rfl, rfl⟩ rfl ?_
  repeat' first | exact trivial | exact rfl | apply And.intro
theorem findP_gt {t : List Tok} {i : Nat} {a b : Int} (hi : i < t.length) (h : ¬ ((tk t i).kind = a ∨ (tk t i).kind = b)) : i < findP t i a b := by
  unfold findP
  rw [findRun, if_pos hi, if_neg h]
  have h1 := skipP_gt hi
  exact Nat.lt_of_lt_of_le h1.1 ((findRun_le t a b _ _).2 h1.2)
def declsRun (t : List Tok) : Nat → Nat → List Dcl → List Dcl
  | 0, _, out => out
  | f + 1, i, out => if i < t.length then
      (if (tk t i).kind = 9 ∨ (tk t i).kind = 12 then declsRun t f (i + 1) out
       else if (tk t i).kind = 2 then declsRun t f (atP t i) out
       else declsRun t f (findP t i 12 12) (if (declV (preT t i (findP t i 12 12))).2 then out ++ [(declV (preT t i (findP t i 12 12))).1] else out))
    else out
def declsV (t : List Tok) : List Dcl := declsRun t (t.length + 1) 0 []
theorem declsRun_fuel (t : List Tok) : ∀ (f g i : Nat) (out : List Dcl), t.length - i < f → t.length - i < g → declsRun t f i out = declsRun t g i out
  | 0, _, _, _, h, _ => by omega
  | f + 1, 0, _, _, _, h => by omega
  | f + 1, g + 1, i, out, h1, h2 => by
    unfold declsRun
    split
    · rename_i hi
      split
      · exact declsRun_fuel t f g _ _ (by omega) (by omega)
      split
      · have := atP_gt hi
        exact declsRun_fuel t f g _ _ (by omega) (by omega)
      · rename_i hk _
        have g1 : i < findP t i 12 12 := findP_gt hi (by omega)
        exact declsRun_fuel t f g _ _ (by omega) (by omega)
    · rfl
structure DeclsI (t : List Tok) (s : Nat × List Dcl) : Prop where
  i : s.1 ≤ t.length
  o : s.2.length ≤ s.1
  run : ∀ f, t.length - s.1 < f → declsRun t f s.1 s.2 = declsV t
theorem preT_len (t : List Tok) (i k : Nat) : (preT t i k).length ≤ t.length := by
  unfold preT
  rw [List.length_drop, List.length_take]
  omega
theorem preT_mem {t : List Tok} {i k : Nat} {y : Tok} (h : y ∈ preT t i k) : y ∈ t := List.mem_of_mem_take (List.mem_of_mem_drop h)
set_option maxHeartbeats 2000000 in
theorem ydecls_val (t : List Tok) (hl : t.length < 100000000) (ht : ∀ y ∈ t, y.text.length ≤ 140737488355328) : Val 17 [.f (.sl (toksF t))] (.f (.sl (dclsF (declsV t)))) := by
  have hlen : (toksF t).length = t.length := by simp
  refine ⟨rfl, ⟨trivial, trivial⟩, rfl, spec_mk tab_ok Tryz.func17 (by rfl) rfl ?_⟩
  conv => whnf
  repeat' first
    | (refine Case.not ?_; conv => whnf)
    | (refine Case.yes ?_; conv => whnf)
    | (refine Case.no ?_; conv => whnf)
    | (refine Case.isTrue (by with_reducible assumption) ?_; conv => whnf)
    | (refine Case.isFalse (by with_reducible assumption) ?_; conv => whnf)
    | (refine Case.decT (by with_reducible assumption) ?_; conv => whnf)
    | (refine Case.decF (by with_reducible assumption) ?_; conv => whnf)
    | (refine Case.decT (by omega) ?_; conv => whnf)
    | (refine Case.decF (by omega) ?_; conv => whnf)
    | (refine Case.beqT (by omega) ?_; conv => whnf)
    | (refine Case.beqF (by omega) ?_; conv => whnf)
    | (refine Num.id (by omega) (by omega) ?_; conv => whnf)
    | (refine Case.dec (fun _ => ?_) (fun _ => ?_) <;> conv => whnf)
    | (refine Case.beqI (fun _ => ?_) (fun _ => ?_) <;> conv => whnf)
    | (refine Case.mk (fun _ => ?_) (fun _ => ?_) <;> conv => whnf)
    | (refine Way.fst ?_; conv => whnf)
  refine step_loop tab_ok (fun s : Nat × List Dcl => padK [.f (.sl (toksF t)), .junk, .junk, .own 0 80 3 (dclsF s.2), int s.1] 45) (fun _ => []) 1 (DeclsI t) (fun s => t.length - s.1) (0, []) ⟨by simp, by simp, fun f hf => declsRun_fuel t _ _ _ _ hf (by omega)⟩ (fun _ => rfl) ?_ ?_
  ·
    repeat' first | exact trivial | exact rfl | exact Nat.zero_le _ | exact Nat.zero_lt_succ _ | apply And.intro
  · rintro ⟨i, out⟩ ⟨h1, h2, h3⟩
    dsimp only at h1 h2 h3 ⊢
    have l2 : (dclsF out).length = out.length := List.length_map ..
    have e0 := h3 (t.length - i + 1) (by omega)
    rw [declsRun] at e0
    by_cases hi : i < t.length
    · obtain ⟨k, hk⟩ : ∃ k, t[i]? = some k := ⟨_, List.getElem?_eq_getElem hi⟩
      have hkk := tk_get hk
      rw [if_pos hi, hkk] at e0
      by_cases h9 : k.kind = 9
      · rw [if_pos (.inl h9)] at e0
        conv => whnf
        repeat' ((first | refine Case.decT (by with_reducible assumption) ?_ | refine Case.decT (by omega) ?_ | refine Owes.mk toksF_row ?_ | refine Elem.mk i _ rfl (toksF_get hk) ?_ | refine Num.id (by omega) (by omega) ?_); conv => whnf)
        refine ⟨(i + 1, out), ⟨by dsimp only; omega, by dsimp only; omega, fun f hf => ?_⟩, by dsimp only; omega, ?_⟩
        · dsimp only at hf ⊢
          rw [← e0]
          exact declsRun_fuel t _ _ _ _ hf (by omega)
        ·
          repeat' first | exact trivial | exact rfl | exact Nat.zero_lt_succ _ | apply And.intro
      by_cases h12 : k.kind = 12
      · rw [if_pos (.inr h12)] at e0
        conv => whnf
        repeat' ((first | refine Case.decT (by with_reducible assumption) ?_ | refine Case.decF (by with_reducible assumption) ?_ | refine Case.decT (by omega) ?_ | refine Owes.mk toksF_row ?_ | refine Elem.mk i _ rfl (toksF_get hk) ?_ | refine Num.id (by omega) (by omega) ?_); conv => whnf)
        refine ⟨(i + 1, out), ⟨by dsimp only; omega, by dsimp only; omega, fun f hf => ?_⟩, by dsimp only; omega, ?_⟩
        · dsimp only at hf ⊢
          rw [← e0]
          exact declsRun_fuel t _ _ _ _ hf (by omega)
        ·
          repeat' first | exact trivial | exact rfl | exact Nat.zero_lt_succ _ | apply And.intro
      have hn : ¬ (k.kind = 9 ∨ k.kind = 12) := fun h => h.elim h9 h12
      have hn2 : ¬ ((tk t i).kind = 12 ∨ (tk t i).kind = 12) := by rw [hkk]; exact fun h => h.elim h12 h12
      rw [if_neg hn] at e0
      have hf := yfind_spec hl
      by_cases h2k : k.kind = 2
      · rw [if_pos h2k] at e0
        have ha := yat_spec hl i hi
        have hg := atP_gt hi
        conv => whnf
        repeat' ((first | refine Case.decT (by with_reducible assumption) ?_ | refine Case.decF (by with_reducible assumption) ?_ | refine Case.decT (by omega) ?_ | refine Owes.mk toksF_row ?_ | refine Elem.mk i _ rfl (toksF_get hk) ?_ | refine ha.call ⟨rfl, rfl, rfl⟩ ?_); conv => whnf)
        refine ⟨(atP t i, out), ⟨hg.2, by dsimp only; omega, fun f hf => ?_⟩, by dsimp only; omega, ?_⟩
        · dsimp only at hf ⊢
          rw [← e0]
          exact declsRun_fuel t _ _ _ _ hf (by omega)
        ·
          repeat' first | exact trivial | exact rfl | exact Nat.zero_lt_succ _ | apply And.intro
      rw [if_neg h2k] at e0
      have hf := yfind_spec hl i h1 12 12
      have g1 := findP_gt (a := 12) (b := 12) hi hn2
      have g2 := findP_le t i 12 12
      obtain ⟨p, hp⟩ : ∃ p, p = preT t i (findP t i 12 12) := ⟨_, rfl⟩
      have e : ((toksF t).take (findP t i 12 12)).drop i = toksF p := by rw [hp]; unfold preT; show _ = List.map tokRow _; rw [List.map_drop, List.map_take]
      rw [← hp] at e0
      have hpl : p.length ≤ t.length := by rw [hp]; exact preT_len ..
      have hone := yone_val p (by omega) (fun y hy => ht y (by rw [hp] at hy; exact preT_mem hy))
      rcases hd : declV p with ⟨d, b⟩
      rw [hd] at hone e0
      dsimp only at hone e0
      cases b with
      | true =>
        rw [if_pos rfl] at e0
        conv => whnf
        repeat' ((first | refine Case.yes ?_ | refine Case.decF (by with_reducible assumption) ?_ | refine Case.decT (by omega) ?_ | refine Owes.mk toksF_row ?_ | refine Elem.mk i _ rfl (toksF_get hk) ?_ | refine hf.call ⟨rfl, rfl, rfl, rfl, rfl⟩ ?_ | (refine Part.mk i (findP t i 12 12) rfl rfl (Nat.le_of_lt g1) (by rw [hlen]; exact g2) ?_) | rw [e] | refine hone.call ?_ | (refine Owes.mk (by simp; omega) ?_)); conv => whnf)
        refine ⟨(findP t i 12 12, out ++ [d]), ⟨g2, by dsimp only; rw [List.length_append]; simp; omega, fun f hf => ?_⟩, by dsimp only; omega, ?_⟩
        · dsimp only at hf ⊢
          rw [← e0]
          exact declsRun_fuel t _ _ _ _ hf (by omega)
        ·
          repeat' first | exact trivial | exact rfl | exact Nat.zero_lt_succ _ | exact congrArg (D.own _ _ _) (by simp [Dcl.row]; done) | apply And.intro
      | false =>
        rw [if_neg (by simp)] at e0
        conv => whnf
        repeat' ((first | refine Case.no ?_ | refine Case.decF (by with_reducible assumption) ?_ | refine Case.decT (by omega) ?_ | refine Owes.mk toksF_row ?_ | refine Elem.mk i _ rfl (toksF_get hk) ?_ | refine hf.call ⟨rfl, rfl, rfl, rfl, rfl⟩ ?_ | (refine Part.mk i (findP t i 12 12) rfl rfl (Nat.le_of_lt g1) (by rw [hlen]; exact g2) ?_) | rw [e] | refine hone.call ?_); conv => whnf)
        refine ⟨(findP t i 12 12, out), ⟨g2, by dsimp only; omega, fun f hf => ?_⟩, by dsimp only; omega, ?_⟩
        · dsimp only at hf ⊢
          rw [← e0]
          exact declsRun_fuel t _ _ _ _ hf (by omega)
        ·
          repeat' first | exact trivial | exact rfl | exact Nat.zero_lt_succ _ | apply And.intro
    · rw [if_neg hi] at e0
      conv => whnf
      repeat' (refine Case.decF (by omega) ?_; conv => whnf)
      refine Fin.frz 0 (Fin.mk (.f (.sl (dclsF (declsV t)))) [] ⟨rfl, rfl⟩ rfl ?_)
      rw [← e0]
      repeat' first | exact trivial | exact rfl | apply And.intro
structure WayD (t : List Tok) (i j : Nat) : Prop where
 le : i ≤ j ∧ j ≤ t.length
 run : findP t j 12 12 = findP t i 12 12
set_option maxHeartbeats 2000000 in
theorem rdecls_val (t : List Tok) (hl : t.length < 100000000) (ht : ∀ y ∈ t, y.text.length ≤ 140737488355328) : Val 23 [.f (.sl (toksF t))] (.f (.sl (dclsF (declsV t)))) := by
 have hlen : (toksF t).length = t.length := by simp
 refine ⟨rfl, ⟨trivial, trivial⟩, rfl, spec_mk tab_ok Tryz.func23 (by rfl) rfl ?_⟩
 conv => whnf
 repeat' first
  | (refine Case.not ?_; conv => whnf)
  | (refine Case.yes ?_; conv => whnf)
  | (refine Case.no ?_; conv => whnf)
  | (refine Case.isTrue (by with_reducible assumption) ?_; conv => whnf)
  | (refine Case.isFalse (by with_reducible assumption) ?_; conv => whnf)
  | (refine Case.decT (by with_reducible assumption) ?_; conv => whnf)
  | (refine Case.decF (by with_reducible assumption) ?_; conv => whnf)
  | (refine Case.decT (by omega) ?_; conv => whnf)
  | (refine Case.decF (by omega) ?_; conv => whnf)
  | (refine Case.beqT (by omega) ?_; conv => whnf)
  | (refine Case.beqF (by omega) ?_; conv => whnf)
  | (refine Num.id (by omega) (by omega) ?_; conv => whnf)
  | (refine Case.dec (fun _ => ?_) (fun _ => ?_) <;> conv => whnf)
  | (refine Case.beqI (fun _ => ?_) (fun _ => ?_) <;> conv => whnf)
  | (refine Case.mk (fun _ => ?_) (fun _ => ?_) <;> conv => whnf)
  | (refine Way.fst ?_; conv => whnf)
 refine step_loop tab_ok (fun s : Nat × List Dcl => padK [.f (.sl (toksF t)), .junk, .junk, .own 0 80 3 (dclsF s.2), int s.1] 61) (fun _ => []) 1 (DeclsI t) (fun s => t.length - s.1) (0, []) ⟨by simp, by simp, fun f hf => declsRun_fuel t _ _ _ _ hf (by omega)⟩ (fun _ => rfl) ?_ ?_
 ·
  repeat' first | exact trivial | exact rfl | exact Nat.zero_le _ | exact Nat.zero_lt_succ _ | apply And.intro
 ·rintro ⟨i, out⟩ ⟨h1, h2, h3⟩
  dsimp only at h1 h2 h3 ⊢
  have l2 : (dclsF out).length = out.length := List.length_map ..
  have e0 := h3 (t.length - i + 1) (by omega)
  rw [declsRun] at e0
  by_cases hi : i < t.length
  ·obtain ⟨k, hk⟩ : ∃ k, t[i]? = some k := ⟨_, List.getElem?_eq_getElem hi⟩
   have hkk := tk_get hk
   rw [if_pos hi, hkk] at e0
   by_cases h9 : k.kind = 9
   ·rw [if_pos (.inl h9)] at e0
    conv => whnf
    repeat' ((first | refine Case.yes ?_ | refine Case.decT (by with_reducible assumption) ?_ | refine Case.decT (by omega) ?_ | refine Owes.mk toksF_row ?_ | refine Elem.mk i _ rfl (toksF_get hk) ?_ | refine Num.id (by omega) (by omega) ?_); conv => whnf)
    refine ⟨(i + 1, out), ⟨by dsimp only; omega, by dsimp only; omega, fun f hf => ?_⟩, by dsimp only; omega, ?_⟩
    ·dsimp only at hf ⊢
     rw [← e0]
     exact declsRun_fuel t _ _ _ _ hf (by omega)
    ·
     repeat' first | exact trivial | exact rfl | exact Nat.zero_lt_succ _ | apply And.intro
   by_cases h12 : k.kind = 12
   ·rw [if_pos (.inr h12)] at e0
    conv => whnf
    repeat' ((first | refine Case.decT (by with_reducible assumption) ?_ | refine Case.decF (by with_reducible assumption) ?_ | refine Case.decT (by omega) ?_ | refine Owes.mk toksF_row ?_ | refine Elem.mk i _ rfl (toksF_get hk) ?_ | refine Num.id (by omega) (by omega) ?_); conv => whnf)
    refine ⟨(i + 1, out), ⟨by dsimp only; omega, by dsimp only; omega, fun f hf => ?_⟩, by dsimp only; omega, ?_⟩
    ·dsimp only at hf ⊢
     rw [← e0]
     exact declsRun_fuel t _ _ _ _ hf (by omega)
    ·
     repeat' first | exact trivial | exact rfl | exact Nat.zero_lt_succ _ | apply And.intro
   have hn : ¬ (k.kind = 9 ∨ k.kind = 12) := fun h => h.elim h9 h12
   have hn2 : ¬ ((tk t i).kind = 12 ∨ (tk t i).kind = 12) := by rw [hkk]; exact fun h => h.elim h12 h12
   rw [if_neg hn] at e0
   by_cases h2k : k.kind = 2
   ·rw [if_pos h2k] at e0
    have ha := rat_spec hl i hi
    have hg := atP_gt hi
    conv => whnf
    repeat' ((first | refine Case.decT (by with_reducible assumption) ?_ | refine Case.decF (by with_reducible assumption) ?_ | refine Case.decT (by omega) ?_ | refine Owes.mk toksF_row ?_ | refine Elem.mk i _ rfl (toksF_get hk) ?_ | refine ha.call ⟨rfl, rfl, rfl⟩ ?_); conv => whnf)
    refine ⟨(atP t i, out), ⟨hg.2, by dsimp only; omega, fun f hf => ?_⟩, by dsimp only; omega, ?_⟩
    ·dsimp only at hf ⊢
     rw [← e0]
     exact declsRun_fuel t _ _ _ _ hf (by omega)
    ·
     repeat' first | exact trivial | exact rfl | exact Nat.zero_lt_succ _ | apply And.intro
   rw [if_neg h2k] at e0
   conv => whnf
   repeat' ((first | refine Case.decF (by with_reducible assumption) ?_ | refine Case.decT (by omega) ?_ | refine Owes.mk toksF_row ?_ | refine Elem.mk i _ rfl (toksF_get hk) ?_); conv => whnf)
   refine step_loop tab_ok (fun j : Nat => padK [.f (.sl (toksF t)), .junk, .junk, .own 0 80 3 (dclsF out), int j, .junk, int i] 61) (fun _ => []) 1 (WayD t i) (fun j => t.length - j) i ⟨⟨Nat.le_refl _, h1⟩, rfl⟩ (fun _ => rfl) ?_ ?_
   ·
    repeat' first | exact trivial | exact rfl | exact Nat.zero_lt_succ _ | apply And.intro
   ·rintro j ⟨g1, g2⟩
    by_cases hj : j < t.length
    ·obtain ⟨u, hu⟩ : ∃ u, t[j]? = some u := ⟨_, List.getElem?_eq_getElem hj⟩
     have huu := tk_get hu
     have hst := findP_step (a := 12) (b := 12) hj
     have hs := rskip_spec hl j (by omega)
     have hg := skipP_gt hj
     rw [huu] at hst
     by_cases h14 : u.kind = 12
     ·rw [if_pos (.inl h14)] at hst
      have hF : findP t i 12 12 = j := by rw [← g2, hst]
      have hij : i < j := by rw [← hF]; exact findP_gt (a := 12) (b := 12) hi hn2
      rw [hF] at e0
      obtain ⟨p, hp⟩ : ∃ p, p = preT t i j := ⟨_, rfl⟩
      have e : ((toksF t).take j).drop i = toksF p := by rw [hp]; unfold preT; show _ = List.map tokRow _; rw [List.map_drop, List.map_take]
      have hpl : p.length ≤ t.length := by rw [hp]; exact preT_len ..
      have hpp : 0 < p.length := by rw [hp]; unfold preT; rw [List.length_drop, List.length_take]; omega
      have hone : Val 54 [.f (.sl (toksF p))] (.tup [(declV p).1.d, bool (declV p).2]) := by
       have hpm : ∀ y ∈ p, y.text.length ≤ 140737488355328 := fun y hy => ht y (by rw [hp] at hy; exact preT_mem hy)
       clear hp e e0
       cases p with
       | nil => simp at hpp
       | cons x r => exact rdecl_val x r (by omega) hpm
      rw [← hp] at e0
      rcases hd : declV p with ⟨d, b⟩
      rw [hd] at hone e0
      dsimp only at hone e0
      cases b with
      | true =>
       rw [if_pos rfl] at e0
       conv => whnf
       repeat' ((first | refine Case.not ?_ | refine Case.yes ?_ | refine Case.decT (by with_reducible assumption) ?_ | refine Case.decT (by omega) ?_ | refine Owes.mk toksF_row ?_ | refine Elem.mk j _ rfl (toksF_get hu) ?_ | (refine Part.mk i j rfl rfl (Nat.le_of_lt hij) (by rw [hlen]; exact g1.2) ?_) | rw [e] | refine hone.call ?_ | (refine Owes.mk (by simp; omega) ?_)); conv => whnf)
       refine ⟨(j, out ++ [d]), ⟨g1.2, by dsimp only; rw [List.length_append]; simp; omega, fun f hf => ?_⟩, by dsimp only; omega, ?_⟩
       ·dsimp only at hf ⊢
        rw [← e0]
        exact declsRun_fuel t _ _ _ _ hf (by omega)
       ·
        repeat' first | exact trivial | exact rfl | exact Nat.zero_lt_succ _ | exact congrArg (D.own _ _ _) (by simp [Dcl.row]; done) | apply And.intro
      | false =>
       rw [if_neg (by simp)] at e0
       conv => whnf
       repeat' ((first | refine Case.not ?_ | refine Case.no ?_ | refine Case.decT (by with_reducible assumption) ?_ | refine Case.decT (by omega) ?_ | refine Owes.mk toksF_row ?_ | refine Elem.mk j _ rfl (toksF_get hu) ?_ | (refine Part.mk i j rfl rfl (Nat.le_of_lt hij) (by rw [hlen]; exact g1.2) ?_) | rw [e] | refine hone.call ?_); conv => whnf)
       refine ⟨(j, out), ⟨g1.2, by dsimp only; omega, fun f hf => ?_⟩, by dsimp only; omega, ?_⟩
       ·dsimp only at hf ⊢
        rw [← e0]
        exact declsRun_fuel t _ _ _ _ hf (by omega)
       ·
        repeat' first | exact trivial | exact rfl | exact Nat.zero_lt_succ _ | apply And.intro
     ·rw [if_neg (fun h => h.elim h14 h14)] at hst
      conv => whnf
      repeat' ((first | refine Case.not ?_ | refine Case.decF (by with_reducible assumption) ?_ | refine Case.decT (by omega) ?_ | refine Owes.mk toksF_row ?_ | refine Elem.mk j _ rfl (toksF_get hu) ?_ | refine hs.call ⟨rfl, rfl, rfl⟩ ?_); conv => whnf)
      refine ⟨skipP t j, ⟨⟨by omega, hg.2⟩, by rw [← hst]; exact g2⟩, by omega, ?_⟩
      repeat' first | exact trivial | exact rfl | exact Nat.zero_lt_succ _ | apply And.intro
    ·have hF : findP t i 12 12 = j := by
      have q1 := findP_ge (t := t) (i := j) 12 12 (by omega)
      have q2 := findP_le t j 12 12
      rw [g2] at q1 q2
      omega
     have hij : i < j := by rw [← hF]; exact findP_gt (a := 12) (b := 12) hi hn2
     rw [hF] at e0
     obtain ⟨p, hp⟩ : ∃ p, p = preT t i j := ⟨_, rfl⟩
     have e : ((toksF t).take j).drop i = toksF p := by rw [hp]; unfold preT; show _ = List.map tokRow _; rw [List.map_drop, List.map_take]
     have hpl : p.length ≤ t.length := by rw [hp]; exact preT_len ..
     have hpp : 0 < p.length := by rw [hp]; unfold preT; rw [List.length_drop, List.length_take]; omega
     have hone : Val 54 [.f (.sl (toksF p))] (.tup [(declV p).1.d, bool (declV p).2]) := by
      have hpm : ∀ y ∈ p, y.text.length ≤ 140737488355328 := fun y hy => ht y (by rw [hp] at hy; exact preT_mem hy)
      clear hp e e0
      cases p with
      | nil => simp at hpp
      | cons x r => exact rdecl_val x r (by omega) hpm
     rw [← hp] at e0
     rcases hd : declV p with ⟨d, b⟩
     rw [hd] at hone e0
     dsimp only at hone e0
     cases b with
     | true =>
      rw [if_pos rfl] at e0
      conv => whnf
      repeat' ((first | refine Case.yes ?_ | refine Case.no ?_ | refine Case.decF (by omega) ?_ | refine Owes.mk toksF_row ?_ | (refine Part.mk i j rfl rfl (Nat.le_of_lt hij) (by rw [hlen]; exact g1.2) ?_) | rw [e] | refine hone.call ?_ | (refine Owes.mk (by simp; omega) ?_)); conv => whnf)
      refine ⟨(j, out ++ [d]), ⟨g1.2, by dsimp only; rw [List.length_append]; simp; omega, fun f hf => ?_⟩, by dsimp only; omega, ?_⟩
      ·dsimp only at hf ⊢
       rw [← e0]
       exact declsRun_fuel t _ _ _ _ hf (by omega)
      ·
       repeat' first | exact trivial | exact rfl | exact Nat.zero_lt_succ _ | exact congrArg (D.own _ _ _) (by simp [Dcl.row]; done) | apply And.intro
     | false =>
      rw [if_neg (by simp)] at e0
      conv => whnf
      repeat' ((first | refine Case.no ?_ | refine Case.decF (by omega) ?_ | refine Owes.mk toksF_row ?_ | (refine Part.mk i j rfl rfl (Nat.le_of_lt hij) (by rw [hlen]; exact g1.2) ?_) | rw [e] | refine hone.call ?_); conv => whnf)
      refine ⟨(j, out), ⟨g1.2, by dsimp only; omega, fun f hf => ?_⟩, by dsimp only; omega, ?_⟩
      ·dsimp only at hf ⊢
       rw [← e0]
       exact declsRun_fuel t _ _ _ _ hf (by omega)
      ·
       repeat' first | exact trivial | exact rfl | exact Nat.zero_lt_succ _ | apply And.intro
  ·rw [if_neg hi] at e0
   conv => whnf
   repeat' (refine Case.decF (by omega) ?_; conv => whnf)
   refine Fin.frz 0 (Fin.mk (.f (.sl (dclsF (declsV t)))) [] ⟨rfl, rfl⟩ rfl ?_)
   rw [← e0]
   repeat' first | exact trivial | exact rfl | apply And.intro
theorem markV_sub (v : List Tok) : ∀ y ∈ (markV v).1, y ∈ v := by
 unfold markV
 split
 ·exact fun y h => h
 ·split
  ·exact fun y h => h
  ·split
   ·exact fun y h => by simp at h
   ·split
    ·exact fun y h => (List.dropLast_sublist v).subset (trimT_sub _ y ((List.dropLast_sublist _).subset (trimT_sub _ y h)))
    ·exact fun y h => by simp at h
theorem valV_sub (v : List Tok) : ∀ y ∈ valV v, y ∈ v := by
 unfold valV
 split
 ·exact markV_sub v
 ·exact fun y h => h
theorem valV_len (v : List Tok) : (valV v).length ≤ v.length := by
 unfold valV
 split
 ·exact markV_len v
 ·exact Nat.le_refl _
theorem declV_sub (t : List Tok) : (declV t).1.value.length ≤ t.length ∧ ∀ y ∈ (declV t).1.value, y ∈ t := by
 cases t with
 | nil => exact ⟨Nat.le_refl _, fun y h => h⟩
 | cons k r =>
  have hz : ([] : List Tok).length ≤ (k :: r).length := Nat.zero_le _
  rw [declV]
  split
  ·have h1 := trimL_len r
   have h2 := trimL_sub r
   split
   ·exact ⟨hz, fun y h => by simp at h⟩
   ·rename_i c r' hr
    rw [hr] at h1 h2
    split
    ·dsimp only
     have h3 := valV_len (trimT r')
     have h4 := trimT_len r'
     refine ⟨by simp at h1 ⊢; omega, fun y h => ?_⟩
     exact List.mem_cons_of_mem _ (h2 y (List.mem_cons_of_mem _ (trimT_sub r' y (valV_sub _ y h))))
    ·exact ⟨hz, fun y h => by simp at h⟩
  ·exact ⟨hz, fun y h => by simp at h⟩
theorem declsRun_ok (t : List Tok) (hl : t.length < 100000000) (ht : ∀ y ∈ t, y.text.length ≤ 140737488355328) : ∀ (f i : Nat) (out : List Dcl), (∀ d ∈ out, DclOk d) → ∀ d ∈ declsRun t f i out, DclOk d
 | 0, _, out, h => h
 | f + 1, i, out, h => by
  unfold declsRun
  split
  ·split
   ·exact declsRun_ok t hl ht f _ _ h
   split
   ·exact declsRun_ok t hl ht f _ _ h
   ·refine declsRun_ok t hl ht f _ _ ?_
    split
    ·intro d hd
     rcases List.mem_append.1 hd with hd | hd
     ·exact h d hd
     ·have e := List.mem_singleton.1 hd
      obtain ⟨g1, g2⟩ := declV_sub (preT t i (findP t i 12 12))
      have g3 := preT_len t i (findP t i 12 12)
      rw [e]
      exact ⟨by omega, fun k hk => ht k (preT_mem (g2 k hk))⟩
    ·exact h
  ·exact h
theorem declsV_ok (t : List Tok) (hl : t.length < 100000000) (ht : ∀ y ∈ t, y.text.length ≤ 140737488355328) : ∀ d ∈ declsV t, DclOk d := declsRun_ok t hl ht _ _ _ (fun d h => by simp at h)
theorem declsRun_len (t : List Tok) : ∀ (f i : Nat) (out : List Dcl), i ≤ t.length → out.length ≤ i → (declsRun t f i out).length ≤ t.length
 | 0, i, out, h1, h2 => by unfold declsRun; omega
 | f + 1, i, out, h1, h2 => by
  unfold declsRun
  split
  ·rename_i hi
   split
   ·exact declsRun_len t f _ _ (by omega) (by omega)
   split
   ·have := atP_gt hi
    exact declsRun_len t f _ _ (by omega) (by omega)
   ·rename_i hk _
    have g1 : i < findP t i 12 12 := findP_gt hi (by omega)
    have g2 := findP_le t i 12 12
    refine declsRun_len t f _ _ g2 ?_
    split
    ·rw [List.length_append]
     simp
     omega
    ·omega
  ·omega
theorem declsV_len (t : List Tok) : (declsV t).length ≤ t.length := declsRun_len t _ _ _ (Nat.zero_le _) (Nat.le_refl _)
structure RawOk (t : List Tok) (r : RawV) : Prop where
 pl : r.pre.length ≤ t.length
 bl : r.block.length ≤ t.length
 pm : ∀ y ∈ r.pre, y ∈ t
 bm : ∀ y ∈ r.block, y ∈ t
theorem innerT_len (t : List Tok) (k : Nat) : (innerT t k).length ≤ t.length := by
 unfold innerT
 rw [List.length_drop, List.length_take]
 omega
theorem innerT_mem {t : List Tok} {k : Nat} {y : Tok} (h : y ∈ innerT t k) : y ∈ t := List.mem_of_mem_take (List.mem_of_mem_drop h)
theorem rulesRun_ok (t : List Tok) : ∀ (f i : Nat) (out : List RawV), (∀ r ∈ out, RawOk t r) → ∀ r ∈ rulesRun t f i out, RawOk t r
 | 0, _, out, h => h
 | f + 1, i, out, h => by
  unfold rulesRun
  split
  ·split
   ·exact rulesRun_ok t f _ _ h
   split
   ·exact rulesRun_ok t f _ _ h
   split
   ·exact h
   ·refine rulesRun_ok t f _ _ ?_
    intro r hr
    rcases List.mem_append.1 hr with hr | hr
    ·exact h r hr
    ·have e := List.mem_singleton.1 hr
     rw [e]
     exact ⟨preT_len .., innerT_len .., fun y hy => preT_mem hy, fun y hy => innerT_mem hy⟩
  ·exact h
theorem rulesV_ok (t : List Tok) : ∀ r ∈ rulesV t, RawOk t r := rulesRun_ok t _ _ _ (fun r h => by simp at h)
theorem rulesRun_len (t : List Tok) : ∀ (f i : Nat) (out : List RawV), i ≤ t.length → out.length ≤ i → (rulesRun t f i out).length ≤ t.length
 | 0, i, out, h1, h2 => by unfold rulesRun; omega
 | f + 1, i, out, h1, h2 => by
  unfold rulesRun
  split
  ·rename_i hi
   split
   ·exact rulesRun_len t f _ _ (by omega) (by omega)
   split
   ·have := atP_gt hi
    exact rulesRun_len t f _ _ (by omega) (by omega)
   split
   ·omega
   ·rename_i hk
    have g1 := findP_ge (t := t) (i := i) 14 14 (by omega)
    have g2 := findP_le t i 14 14
    have g3 := skipP_gt (t := t) (i := findP t i 14 14) (by omega)
    refine rulesRun_len t f _ _ g3.2 ?_
    rw [List.length_append]
    simp
    omega
  ·omega
theorem rulesV_len (t : List Tok) : (rulesV t).length ≤ t.length := rulesRun_len t _ _ _ (Nat.zero_le _) (Nat.le_refl _)
mutual
theorem ref_cls (h n : Nat) : ∀ d : D, clsD d → refD h n d
 | .f _, _ => by simp [refD]
 | .nil, _ => by simp [refD]
 | .junk, _ => by simp [refD]
 | .agg cs, hs => by unfold clsD at hs; simp [refD, refL_cls h n cs hs]
 | .tup cs, hs => by unfold clsD at hs; simp [refD, refL_cls h n cs hs]
 | .own _ _ _ _, hs => hs.elim
 | .optr _ _ _ _ _ _, hs => hs.elim
 | .ptr _ _, hs => hs.elim
 | .ip _, hs => hs.elim
 | .fn _ _, hs => hs.elim
 | .yl _ _ _ _ _, hs => hs.elim
theorem refL_cls (h n : Nat) : ∀ ds : List D, clsL ds → refL h n ds
 | [], _ => trivial
 | d :: ds, hs => by unfold clsL at hs; exact ⟨ref_cls h n d hs.1, refL_cls h n ds hs.2⟩
end
abbrev sip (t : List Tok) (a : Nat) (q : Int) : D := .ip [.sl (toksF t), .v (.int .i64 a), .v (.int .i64 q)]
abbrev srd (t : List Tok) (a : Nat) (q : Int) : Cells := [.f (.sl (toksF t)), int a, int q]
theorem Fin.sk {d d' : D} {t : List Tok} {p : Int} {q q' : Int} {more : Hp} {n : Nat} {R : D → Hp → Prop} (a : Nat) (hd : intoD n 0 1 d d') (hp : p = a) (hq : q = q') (hR : R d' [some (srd t a q')]) : Fin d (some [.f (.sl (toksF t)), int p, int q] :: more) n 1 0 R := by
 subst hp hq
 exact Fin.mk d' [some (srd t a q)] hR rfl ⟨by unfold intoL; exact ⟨hd, by unfold intoL; rfl⟩, ⟨rfl, rfl, rfl, rfl⟩, by unfold intoH; cases more <;> trivial⟩
def SMeth (g : FuncId) (xs : List D) (t : List Tok) (a : Nat) (q : Int) (V : D) (p : Nat) : Prop := clsL xs ∧ clsD V ∧ Spec P g (.ptr 0 0 :: xs) [some (srd t a q)] 0 (fun d H => d = V ∧ H = [some (srd t p q)])
theorem SMeth.call {g : FuncId} {xs : List D} {t : List Tok} {a p : Nat} {q : Int} {V : D} {E : List D} {H : Hp} {n : Nat} {K : KD} (h : SMeth g xs t a q V p) (k : K V E (some (srd t p q) :: H) n) : Call P g (.ptr 0 0 :: xs) E (some (srd t a q) :: H) n K := by
 have e : renL [0] [] (.ptr 0 0 :: xs) = .ptr 0 0 :: xs := by
  rw [renL, renL_cls _ _ _ h.1]
  rfl
 have := call_gen (E := E) (H := some (srd t a q) :: H) (n := n) (K := K) («as» := .ptr 0 0 :: xs) [0] [] h.2.2 (by simp) (by simp) (by simp) (by simp) (by unfold fitH fitH; exact ⟨⟨rfl, ⟨trivial, trivial, trivial, trivial⟩⟩, trivial⟩) ⟨Nat.zero_lt_one, refL_cls _ _ _ h.1⟩ (fun d Hs' hR _ => by
  obtain ⟨rfl, rfl⟩ := hR
  rw [ren_cls _ _ _ h.2.1, killsL_nil, killsH_nil]
  exact k)
 rwa [e] at this
theorem sat_at (t : List Tok) (ht : t.length < 1000000000) (a : Nat) (q : Int) (ha : a < 2000000000) (k : Int) (i : Nat) (hi : (a : Int) + k = i) (h0 : 0 ≤ k) (hk : k < 1000) : Pure 97 [sip t a q, int k] (tk t i).d := by
 have hlen : (toksF t).length = t.length := by simp
 refine ⟨Tok.scal _, spec_mk tab_ok Tryz.func97 (by rfl) rfl ?_⟩
 conv => whnf
 repeat' first | ((first | (refine step_kinds 2 ?hk ?_; (case hk => decide +kernel)) | refine Num.id (by omega) (by omega) ?_); conv => whnf) | (refine Case.dec (fun _ => ?_) (fun _ => ?_) <;> conv => whnf)
 ·have e : tk t i = {} := by unfold tk; rw [List.getElem?_eq_none (by omega)]
  rw [e]
  exact Fin.agg (Tok.scal {}) rfl
 ·obtain ⟨c, hc⟩ : ∃ c, t[i]? = some c := ⟨_, List.getElem?_eq_getElem (by omega)⟩
  have e : tk t i = c := by unfold tk; rw [hc]
  rw [e]
  repeat' ((first | refine Owes.mk toksF_row ?_ | refine Elem.mk i _ (by omega) (toksF_get hc) ?_); conv => whnf)
  exact Fin.agg (Tok.scal c) rfl
theorem sdelim_spec (k : Tok) (c : Int) : Pure 136 [k.d, int c] (bool (decide (k.kind = 10) && decide (k.c = c))) := by
 refine .mk trivial (spec_mk tab_ok Tryz.func136 (by rfl) rfl ?_)
 conv => whnf
 repeat' first | ((first | refine Case.decT (by assumption) ?_ | refine Case.decF (by assumption) ?_); conv => whnf) | (refine Case.dec (fun _ => ?_) (fun _ => ?_) <;> conv => whnf)
 all_goals (refine Fin.isB ?_; rw [Bool.eq_iff_iff]; simp [*])
def sIs (t : List Tok) (i : Nat) (k : Int) : Bool × Nat := if (tk t i).kind = k then (true, i + 1) else (false, i)
theorem sis_spec (t : List Tok) (ht : t.length < 1000000000) (a : Nat) (q : Int) (ha : a < 1900000000) (k : Int) : SMeth 57 [int k] t a q (bool (sIs t a k).1) (sIs t a k).2 := by
 refine ⟨⟨trivial, trivial⟩, trivial, spec_mk tab_ok Tryz.func57 (by rfl) rfl ?_⟩
 unfold sIs
 conv => whnf
 repeat' first | ((first | refine Case.not ?_ | refine (sat_at t (by omega) a q (by omega) _ a (by omega) (by omega) (by omega)).call ⟨⟨rfl, rfl, rfl, trivial⟩, rfl, rfl⟩ ?_ | refine Num.id (by omega) (by omega) ?_); conv => whnf) | (refine Case.dec (fun _ => ?_) (fun _ => ?_) <;> conv => whnf)
 ·rw [if_pos (by omega)]
  refine Fin.sk (a + 1) ?_ rfl rfl ⟨rfl, rfl⟩
  exact rfl
 ·rw [if_neg (by omega)]
  refine Fin.sk a ?_ rfl rfl ⟨rfl, rfl⟩
  exact rfl
def sSign (t : List Tok) (i : Nat) (c : Int) : Bool × Nat := if isD t i c = true then (true, i + 1) else (false, i)
theorem ssign_spec (t : List Tok) (ht : t.length < 1000000000) (a : Nat) (q : Int) (ha : a < 1900000000) (c : Int) : SMeth 118 [int c] t a q (bool (sSign t a c).1) (sSign t a c).2 := by
 refine ⟨⟨trivial, trivial⟩, trivial, spec_mk tab_ok Tryz.func118 (by rfl) rfl ?_⟩
 unfold sSign isD
 conv => whnf
 repeat' first | ((first | refine Case.not ?_ | refine (sat_at t (by omega) a q (by omega) _ a (by omega) (by omega) (by omega)).call ⟨⟨rfl, rfl, rfl, trivial⟩, rfl, rfl⟩ ?_ | refine (sdelim_spec (tk t a) c).call ⟨⟨rfl, rfl, rfl, rfl, rfl, rfl⟩, rfl, rfl⟩ ?_ | refine Num.id (by omega) (by omega) ?_); conv => whnf) | (refine Case.mk (fun _ => ?_) (fun _ => ?_) <;> conv => whnf)
 ·rw [if_pos (by assumption)]
  refine Fin.sk (a + 1) ?_ rfl rfl ⟨rfl, rfl⟩
  exact rfl
 ·rw [if_neg (by rename_i h; rw [h]; decide)]
  refine Fin.sk a ?_ rfl rfl ⟨rfl, rfl⟩
  exact rfl
theorem swhite_spec (t : List Tok) (ht : t.length < 1000000000) (a : Nat) (q : Int) (ha : a < 1800000000) : SMeth 55 [] t a q (bool (decide (a < ws t a))) (ws t a) := by
 refine ⟨trivial, trivial, spec_mk tab_ok Tryz.func55 (by rfl) rfl ?_⟩
 conv => whnf
 repeat' first
  | (refine Case.not ?_; conv => whnf)
  | (refine Case.yes ?_; conv => whnf)
  | (refine Case.no ?_; conv => whnf)
  | (refine Case.isTrue (by assumption) ?_; conv => whnf)
  | (refine Case.isFalse (by assumption) ?_; conv => whnf)
  | (refine Case.decT (by assumption) ?_; conv => whnf)
  | (refine Case.decF (by assumption) ?_; conv => whnf)
  | (refine Case.decT (by omega) ?_; conv => whnf)
  | (refine Case.decF (by omega) ?_; conv => whnf)
  | (refine Case.beqT (by omega) ?_; conv => whnf)
  | (refine Case.beqF (by omega) ?_; conv => whnf)
  | (refine Case.strT (by assumption) ?_; conv => whnf)
  | (refine Case.strF (by assumption) ?_; conv => whnf)
  | (refine Case.strF (by simp only [*]; decide) ?_; conv => whnf)
  | (refine step_kinds 2 ?hk ?_; (case hk => decide +kernel); conv => whnf)
  | (refine step_kinds 3 ?hk ?_; (case hk => decide +kernel); conv => whnf)
  | (refine Num.id (by omega) (by omega) ?_; conv => whnf)
  | (refine Case.strI (fun _ => ?_) (fun _ => ?_) <;> conv => whnf)
  | (refine Both.mk ?_ ?_ <;> conv => whnf)
  | (refine Case.dec (fun _ => ?_) (fun _ => ?_) <;> conv => whnf)
  | (refine Case.beqI (fun _ => ?_) (fun _ => ?_) <;> conv => whnf)
  | (refine Case.mk (fun _ => ?_) (fun _ => ?_) <;> conv => whnf)
  | (refine Way.fst ?_; conv => whnf)
 refine step_loop tab_ok (fun i : Nat => padK [.ptr 0 0, .junk, .junk, bool (decide (a < i))] 7) (fun i => [some (srd t i q)]) 0 (WsI t a) (fun i => t.length - i) a ⟨by omega, by omega, fun f hf => wsTo_fuel t _ _ _ hf (by omega)⟩ (fun _ => rfl) ?_ ?_
 ·simp only [Nat.lt_irrefl, decide_false]
  repeat' first | exact trivial | exact rfl | exact Nat.zero_lt_succ _ | apply And.intro
 ·rintro i ⟨h1, h2, h3⟩
  have e := h3 (t.length - i + 1) (by omega)
  rw [wsTo] at e
  have hsp := sis_spec t ht i q (by omega) 9
  unfold sIs at hsp
  conv => whnf
  by_cases hk : (tk t i).kind = 9
  ·rw [if_pos hk] at hsp e
   have := tk_lt (t := t) (i := i) (by omega)
   repeat' ((first | refine Case.yes ?_ | refine hsp.call ?_); conv => whnf)
   refine ⟨i + 1, ⟨by omega, by omega, fun f hf => by rw [← h3 (f + 1) (by omega), wsTo, if_pos (by assumption)]⟩, by omega, ?_⟩
   have e2 : decide (a < i + 1) = true := by simp; omega
   rw [e2]
   repeat' first | exact trivial | exact rfl | exact Nat.zero_lt_succ _ | apply And.intro
  ·rw [if_neg hk] at hsp e
   repeat' ((first | refine Case.no ?_ | refine hsp.call ?_); conv => whnf)
   subst e
   refine Fin.sk _ ?_ rfl rfl ⟨rfl, rfl⟩
   exact rfl
def sEnds (t : List Tok) (i : Nat) (q : Int) : Bool := decide (t.length ≤ i) || decide ((tk t i).kind = 13) || (decide ((tk t i).kind = 17) && decide (0 < q))
theorem sends_spec (t : List Tok) (ht : t.length < 1000000000) (a : Nat) (q : Int) (ha : a < 1900000000) : Pure 120 [sip t a q] (bool (sEnds t a q)) := by
 have hlen : (toksF t).length = t.length := by simp
 refine .mk trivial (spec_mk tab_ok Tryz.func120 (by rfl) rfl ?_)
 conv => whnf
 repeat' first | ((first | refine Case.yes ?_ | refine Case.decT (by assumption) ?_ | refine Case.decF (by assumption) ?_ | (refine step_kinds 2 ?hk ?_; (case hk => decide +kernel)) | refine (sat_at t (by omega) a q (by omega) _ a (by omega) (by omega) (by omega)).call ⟨rfl, rfl, rfl⟩ ?_); conv => whnf) | (refine Case.dec (fun _ => ?_) (fun _ => ?_) <;> conv => whnf)
 all_goals (refine Fin.isB ?_; rw [Bool.eq_iff_iff]; simp only [sEnds, Bool.or_eq_true, Bool.and_eq_true, decide_eq_true_eq, beq_iff_eq, Bool.false_eq_true, false_iff, true_iff]; omega)
def sOp (t : List Tok) (i : Nat) : Int × Bool × Nat :=
 if isD t i 61 = true then (1, true, i + 1) else if (tk t i).kind = 10 ∧ opIx (tk t i).c ≠ 0 ∧ isD t (i + 1) 61 = true then (opIx (tk t i).c, true, i + 2) else (0, false, i)
theorem Fin.ibs {x : Int} {b : Bool} {t : List Tok} {p q : Int} {r : Int × Bool × Nat} {more : Hp} {n : Nat} (h1 : p = r.2.2) (h2 : x = r.1) (h3 : b = r.2.1) : Fin (.tup [int x, bool b]) (some [.f (.sl (toksF t)), int p, int q] :: more) n 1 0 (fun d H => d = .tup [int r.1, bool r.2.1] ∧ H = [some (srd t r.2.2 q)]) := by
 subst h1 h2 h3
 refine Fin.sk r.2.2 ?_ rfl rfl ⟨rfl, rfl⟩
 exact ⟨rfl, rfl, rfl⟩
theorem take_step {α : Type} {l : List α} {i : Nat} {c : α} {p : α → Prop} (h : ∀ x ∈ l.take i, p x) (hi : l[i]? = some c) (hc : p c) : ∀ x ∈ l.take (i + 1), p x := by
 intro x hx
 rw [List.take_add_one, hi, List.mem_append] at hx
 rcases hx with hx | hx
 ·exact h x hx
 ·simp at hx; subst hx; exact hc
theorem sdelim_at (t : List Tok) (i : Nat) (c : Int) : Pure 136 [(tk t i).d, int c] (bool (isD t i c)) := sdelim_spec (tk t i) c
theorem isD_iff {t : List Tok} {i : Nat} {c : Int} : isD t i c = true ↔ (tk t i).kind = 10 ∧ (tk t i).c = c := by simp [isD]
theorem opIx_ne {c : Int} (h : opIx c ≠ 0) : c ∈ opsL := by
 unfold opIx at h
 repeat' split at h
 all_goals simp_all [opsL]
theorem sop_spec (t : List Tok) (ht : t.length < 1000000000) (a : Nat) (q : Int) (ha : a < 1800000000) : SMeth 153 [] t a q (.tup [int (sOp t a).1, bool (sOp t a).2.1]) (sOp t a).2.2 := by
 refine ⟨trivial, ⟨trivial, trivial, trivial⟩, spec_mk tab_ok Tryz.func153 (by rfl) rfl ?_⟩
 have hsp := ssign_spec t ht a q (by omega) 61
 unfold sSign at hsp
 conv => whnf
 by_cases h61 : isD t a 61 = true
 ·rw [if_pos h61] at hsp
  repeat' ((first | refine Case.yes ?_ | refine hsp.call ?_); conv => whnf)
  refine Fin.ibs ?_ ?_ ?_ <;> unfold sOp <;> rw [if_pos h61] <;> rfl
 ·rw [if_neg h61] at hsp
  repeat' ((first | refine Case.no ?_ | refine hsp.call ?_); conv => whnf)
  refine step_loop tab_ok (fun i : Nat => padK [.ptr 0 0, .junk, .junk, .junk, .junk, .junk, .junk, .junk, .own 0 3 1 (ptsF opsL), int 5, int i] 34) (fun i => [some (srd t a q)]) 1 (fun i => i ≤ 5 ∧ ∀ c ∈ opsL.take i, ¬ (isD t a c = true ∧ isD t (a + 1) 61 = true)) (fun i => 5 - i) 0 ⟨by omega, by simp⟩ (fun _ => rfl) ?_ ?_
  ·
   repeat' first | exact trivial | exact rfl | exact Nat.zero_lt_succ _ | apply And.intro
  ·rintro i ⟨h1, h2⟩
   have h5 : i = 0 ∨ i = 1 ∨ i = 2 ∨ i = 3 ∨ i = 4 ∨ i = 5 := by omega
   rcases h5 with rfl | rfl | rfl | rfl | rfl | rfl
   ·have hc : opsL[0]? = some 126 := rfl
    conv => whnf
    repeat' first | ((first | refine Case.yes ?_ | refine Case.no ?_ | refine Case.isTrue (by assumption) ?_ | refine Case.isFalse (by assumption) ?_ | refine (sat_at t (by omega) a q (by omega) _ a (by omega) (by omega) (by omega)).call ⟨⟨rfl, rfl, rfl, trivial⟩, rfl, rfl⟩ ?_ | refine (sat_at t (by omega) a q (by omega) _ (a + 1) (by omega) (by omega) (by omega)).call ⟨⟨rfl, rfl, rfl, trivial⟩, rfl, rfl⟩ ?_ | refine (sdelim_at t a _).call ⟨⟨rfl, rfl, rfl, rfl, rfl, rfl⟩, rfl, rfl⟩ ?_ | refine (sdelim_at t (a + 1) _).call ⟨⟨rfl, rfl, rfl, rfl, rfl, rfl⟩, rfl, rfl⟩ ?_ | refine Elem.mk 0 _ rfl (ptsF_get hc) ?_ | refine Owes.mk (by decide) ?_ | refine Num.id (by omega) (by omega) ?_); conv => whnf) | (refine Case.mk (fun _ => ?_) (fun _ => ?_) <;> conv => whnf)
    ·have h1 := isD_iff.1 (by assumption : isD t a 126 = true)
     have e : sOp t a = (2 + 0, true, a + 2) := by
      unfold sOp
      rw [if_neg h61, if_pos ⟨h1.1, by rw [h1.2]; decide, by assumption⟩, h1.2]
      rfl
     refine Fin.ibs ?_ ?_ ?_ <;> rw [e] <;> rfl
    ·refine ⟨0 + 1, ⟨by omega, take_step h2 hc (by simp [*])⟩, by omega, ?_⟩
     repeat' first | exact trivial | exact rfl | exact Nat.zero_lt_succ _ | apply And.intro
    ·refine ⟨0 + 1, ⟨by omega, take_step h2 hc (by simp [*])⟩, by omega, ?_⟩
     repeat' first | exact trivial | exact rfl | exact Nat.zero_lt_succ _ | apply And.intro
   ·have hc : opsL[1]? = some 124 := rfl
    conv => whnf
    repeat' first | ((first | refine Case.yes ?_ | refine Case.no ?_ | refine Case.isTrue (by assumption) ?_ | refine Case.isFalse (by assumption) ?_ | refine (sat_at t (by omega) a q (by omega) _ a (by omega) (by omega) (by omega)).call ⟨⟨rfl, rfl, rfl, trivial⟩, rfl, rfl⟩ ?_ | refine (sat_at t (by omega) a q (by omega) _ (a + 1) (by omega) (by omega) (by omega)).call ⟨⟨rfl, rfl, rfl, trivial⟩, rfl, rfl⟩ ?_ | refine (sdelim_at t a _).call ⟨⟨rfl, rfl, rfl, rfl, rfl, rfl⟩, rfl, rfl⟩ ?_ | refine (sdelim_at t (a + 1) _).call ⟨⟨rfl, rfl, rfl, rfl, rfl, rfl⟩, rfl, rfl⟩ ?_ | refine Elem.mk 1 _ rfl (ptsF_get hc) ?_ | refine Owes.mk (by decide) ?_ | refine Num.id (by omega) (by omega) ?_); conv => whnf) | (refine Case.mk (fun _ => ?_) (fun _ => ?_) <;> conv => whnf)
    ·have h1 := isD_iff.1 (by assumption : isD t a 124 = true)
     have e : sOp t a = (2 + 1, true, a + 2) := by
      unfold sOp
      rw [if_neg h61, if_pos ⟨h1.1, by rw [h1.2]; decide, by assumption⟩, h1.2]
      rfl
     refine Fin.ibs ?_ ?_ ?_ <;> rw [e] <;> rfl
    ·refine ⟨1 + 1, ⟨by omega, take_step h2 hc (by simp [*])⟩, by omega, ?_⟩
     repeat' first | exact trivial | exact rfl | exact Nat.zero_lt_succ _ | apply And.intro
    ·refine ⟨1 + 1, ⟨by omega, take_step h2 hc (by simp [*])⟩, by omega, ?_⟩
     repeat' first | exact trivial | exact rfl | exact Nat.zero_lt_succ _ | apply And.intro
   ·have hc : opsL[2]? = some 94 := rfl
    conv => whnf
    repeat' first | ((first | refine Case.yes ?_ | refine Case.no ?_ | refine Case.isTrue (by assumption) ?_ | refine Case.isFalse (by assumption) ?_ | refine (sat_at t (by omega) a q (by omega) _ a (by omega) (by omega) (by omega)).call ⟨⟨rfl, rfl, rfl, trivial⟩, rfl, rfl⟩ ?_ | refine (sat_at t (by omega) a q (by omega) _ (a + 1) (by omega) (by omega) (by omega)).call ⟨⟨rfl, rfl, rfl, trivial⟩, rfl, rfl⟩ ?_ | refine (sdelim_at t a _).call ⟨⟨rfl, rfl, rfl, rfl, rfl, rfl⟩, rfl, rfl⟩ ?_ | refine (sdelim_at t (a + 1) _).call ⟨⟨rfl, rfl, rfl, rfl, rfl, rfl⟩, rfl, rfl⟩ ?_ | refine Elem.mk 2 _ rfl (ptsF_get hc) ?_ | refine Owes.mk (by decide) ?_ | refine Num.id (by omega) (by omega) ?_); conv => whnf) | (refine Case.mk (fun _ => ?_) (fun _ => ?_) <;> conv => whnf)
    ·have h1 := isD_iff.1 (by assumption : isD t a 94 = true)
     have e : sOp t a = (2 + 2, true, a + 2) := by
      unfold sOp
      rw [if_neg h61, if_pos ⟨h1.1, by rw [h1.2]; decide, by assumption⟩, h1.2]
      rfl
     refine Fin.ibs ?_ ?_ ?_ <;> rw [e] <;> rfl
    ·refine ⟨2 + 1, ⟨by omega, take_step h2 hc (by simp [*])⟩, by omega, ?_⟩
     repeat' first | exact trivial | exact rfl | exact Nat.zero_lt_succ _ | apply And.intro
    ·refine ⟨2 + 1, ⟨by omega, take_step h2 hc (by simp [*])⟩, by omega, ?_⟩
     repeat' first | exact trivial | exact rfl | exact Nat.zero_lt_succ _ | apply And.intro
   ·have hc : opsL[3]? = some 36 := rfl
    conv => whnf
    repeat' first | ((first | refine Case.yes ?_ | refine Case.no ?_ | refine Case.isTrue (by assumption) ?_ | refine Case.isFalse (by assumption) ?_ | refine (sat_at t (by omega) a q (by omega) _ a (by omega) (by omega) (by omega)).call ⟨⟨rfl, rfl, rfl, trivial⟩, rfl, rfl⟩ ?_ | refine (sat_at t (by omega) a q (by omega) _ (a + 1) (by omega) (by omega) (by omega)).call ⟨⟨rfl, rfl, rfl, trivial⟩, rfl, rfl⟩ ?_ | refine (sdelim_at t a _).call ⟨⟨rfl, rfl, rfl, rfl, rfl, rfl⟩, rfl, rfl⟩ ?_ | refine (sdelim_at t (a + 1) _).call ⟨⟨rfl, rfl, rfl, rfl, rfl, rfl⟩, rfl, rfl⟩ ?_ | refine Elem.mk 3 _ rfl (ptsF_get hc) ?_ | refine Owes.mk (by decide) ?_ | refine Num.id (by omega) (by omega) ?_); conv => whnf) | (refine Case.mk (fun _ => ?_) (fun _ => ?_) <;> conv => whnf)
    ·have h1 := isD_iff.1 (by assumption : isD t a 36 = true)
     have e : sOp t a = (2 + 3, true, a + 2) := by
      unfold sOp
      rw [if_neg h61, if_pos ⟨h1.1, by rw [h1.2]; decide, by assumption⟩, h1.2]
      rfl
     refine Fin.ibs ?_ ?_ ?_ <;> rw [e] <;> rfl
    ·refine ⟨3 + 1, ⟨by omega, take_step h2 hc (by simp [*])⟩, by omega, ?_⟩
     repeat' first | exact trivial | exact rfl | exact Nat.zero_lt_succ _ | apply And.intro
    ·refine ⟨3 + 1, ⟨by omega, take_step h2 hc (by simp [*])⟩, by omega, ?_⟩
     repeat' first | exact trivial | exact rfl | exact Nat.zero_lt_succ _ | apply And.intro
   ·have hc : opsL[4]? = some 42 := rfl
    conv => whnf
    repeat' first | ((first | refine Case.yes ?_ | refine Case.no ?_ | refine Case.isTrue (by assumption) ?_ | refine Case.isFalse (by assumption) ?_ | refine (sat_at t (by omega) a q (by omega) _ a (by omega) (by omega) (by omega)).call ⟨⟨rfl, rfl, rfl, trivial⟩, rfl, rfl⟩ ?_ | refine (sat_at t (by omega) a q (by omega) _ (a + 1) (by omega) (by omega) (by omega)).call ⟨⟨rfl, rfl, rfl, trivial⟩, rfl, rfl⟩ ?_ | refine (sdelim_at t a _).call ⟨⟨rfl, rfl, rfl, rfl, rfl, rfl⟩, rfl, rfl⟩ ?_ | refine (sdelim_at t (a + 1) _).call ⟨⟨rfl, rfl, rfl, rfl, rfl, rfl⟩, rfl, rfl⟩ ?_ | refine Elem.mk 4 _ rfl (ptsF_get hc) ?_ | refine Owes.mk (by decide) ?_ | refine Num.id (by omega) (by omega) ?_); conv => whnf) | (refine Case.mk (fun _ => ?_) (fun _ => ?_) <;> conv => whnf)
    ·have h1 := isD_iff.1 (by assumption : isD t a 42 = true)
     have e : sOp t a = (2 + 4, true, a + 2) := by
      unfold sOp
      rw [if_neg h61, if_pos ⟨h1.1, by rw [h1.2]; decide, by assumption⟩, h1.2]
      rfl
     refine Fin.ibs ?_ ?_ ?_ <;> rw [e] <;> rfl
    ·refine ⟨4 + 1, ⟨by omega, take_step h2 hc (by simp [*])⟩, by omega, ?_⟩
     repeat' first | exact trivial | exact rfl | exact Nat.zero_lt_succ _ | apply And.intro
    ·refine ⟨4 + 1, ⟨by omega, take_step h2 hc (by simp [*])⟩, by omega, ?_⟩
     repeat' first | exact trivial | exact rfl | exact Nat.zero_lt_succ _ | apply And.intro
   ·have e : sOp t a = (0, false, a) := by
     unfold sOp
     rw [if_neg h61, if_neg ?_]
     rintro ⟨g1, g2, g3⟩
     exact h2 _ (opIx_ne g2) ⟨isD_iff.2 ⟨g1, rfl⟩, g3⟩
    conv => whnf
    refine Case.decF (by decide) ?_
    conv => whnf
    repeat' first
     | (refine Case.not ?_; conv => whnf)
     | (refine Case.yes ?_; conv => whnf)
     | (refine Case.no ?_; conv => whnf)
     | (refine Case.isTrue (by assumption) ?_; conv => whnf)
     | (refine Case.isFalse (by assumption) ?_; conv => whnf)
     | (refine Case.decT (by assumption) ?_; conv => whnf)
     | (refine Case.decF (by assumption) ?_; conv => whnf)
     | (refine Case.decT (by omega) ?_; conv => whnf)
     | (refine Case.decF (by omega) ?_; conv => whnf)
     | (refine Case.beqT (by omega) ?_; conv => whnf)
     | (refine Case.beqF (by omega) ?_; conv => whnf)
     | (refine Case.strT (by assumption) ?_; conv => whnf)
     | (refine Case.strF (by assumption) ?_; conv => whnf)
     | (refine Case.strF (by simp only [*]; decide) ?_; conv => whnf)
     | (refine step_kinds 2 ?hk ?_; (case hk => decide +kernel); conv => whnf)
     | (refine step_kinds 3 ?hk ?_; (case hk => decide +kernel); conv => whnf)
     | (refine Num.id (by omega) (by omega) ?_; conv => whnf)
     | (refine Case.strI (fun _ => ?_) (fun _ => ?_) <;> conv => whnf)
     | (refine Both.mk ?_ ?_ <;> conv => whnf)
     | (refine Case.dec (fun _ => ?_) (fun _ => ?_) <;> conv => whnf)
     | (refine Case.beqI (fun _ => ?_) (fun _ => ?_) <;> conv => whnf)
     | (refine Case.mk (fun _ => ?_) (fun _ => ?_) <;> conv => whnf)
     | (refine Way.fst ?_; conv => whnf)
    refine Fin.ibs ?_ ?_ ?_ <;> rw [e] <;> rfl
def sComb (t : List Tok) (i : Nat) (q : Int) : Int × Bool × Nat :=
 if 0 < pcomb t (ws t i) then (pcomb t (ws t i), true, ws t (ws t i + 1)) else if sEnds t (ws t i) q = true then (0, true, ws t i) else (1, decide (i < ws t i), ws t i)
def combL : List Int := [62, 43, 126]
theorem scomb_spec (t : List Tok) (ht : t.length < 1000000000) (a : Nat) (q : Int) (ha : a < 1700000000) : SMeth 96 [] t a q (.tup [int (sComb t a q).1, bool (sComb t a q).2.1]) (sComb t a q).2.2 := by
 refine ⟨trivial, ⟨trivial, trivial, trivial⟩, spec_mk tab_ok Tryz.func96 (by rfl) rfl ?_⟩
 have k1 := ws_le t a
 conv => whnf
 repeat' (refine (swhite_spec t ht a q (by omega)).call ?_; conv => whnf)
 refine step_loop tab_ok (fun i : Nat => padK [.ptr 0 0, .junk, .junk, .junk, bool (decide (a < ws t a)), .junk, .junk, .junk, .junk, .own 0 3 1 (ptsF combL), int 3, int i] 27) (fun i => [some (srd t (ws t a) q)]) 1 (fun i => i ≤ 3 ∧ ∀ c ∈ combL.take i, ¬ isD t (ws t a) c = true) (fun i => 3 - i) 0 ⟨by omega, by simp⟩ (fun _ => rfl) ?_ ?_
 ·
  repeat' first | exact trivial | exact rfl | exact Nat.zero_lt_succ _ | apply And.intro
 ·rintro i ⟨h1, h2⟩
  generalize hw : ws t a = w at *
  have k2 := ws_le t (w + 1)
  have h5 : i = 0 ∨ i = 1 ∨ i = 2 ∨ i = 3 := by omega
  rcases h5 with rfl | rfl | rfl | rfl
  ·have hc : combL[0]? = some 62 := rfl
   have hsp := ssign_spec t ht w q (by omega) 62
   unfold sSign at hsp
   conv => whnf
   by_cases hs : isD t w 62 = true
   ·rw [if_pos hs] at hsp
    repeat' ((first | refine Case.yes ?_ | refine Elem.mk 0 _ rfl (ptsF_get hc) ?_ | refine Owes.mk (by decide) ?_ | refine hsp.call ?_ | refine (swhite_spec t ht (w + 1) q (by omega)).call ?_ | refine Num.id (by omega) (by omega) ?_); conv => whnf)
    have e : pcomb t w = 2 + 0 := by
     unfold pcomb
     simp [*, h2, combL] <;> (have := isD_iff.1 hs; simp_all [isD])
    refine Fin.ibs ?_ ?_ ?_ <;> unfold sComb <;> rw [hw, if_pos (by omega)] <;> first | rfl | (dsimp only; omega)
   ·rw [if_neg hs] at hsp
    repeat' ((first | refine Case.yes ?_ | refine Case.no ?_ | refine Elem.mk 0 _ rfl (ptsF_get hc) ?_ | refine Owes.mk (by decide) ?_ | refine hsp.call ?_ | refine Num.id (by omega) (by omega) ?_); conv => whnf)
    refine ⟨0 + 1, ⟨by omega, take_step h2 hc hs⟩, by omega, ?_⟩
    repeat' first | exact trivial | exact rfl | exact Nat.zero_lt_succ _ | apply And.intro
  ·have hc : combL[1]? = some 43 := rfl
   have hsp := ssign_spec t ht w q (by omega) 43
   unfold sSign at hsp
   conv => whnf
   by_cases hs : isD t w 43 = true
   ·rw [if_pos hs] at hsp
    repeat' ((first | refine Case.yes ?_ | refine Elem.mk 1 _ rfl (ptsF_get hc) ?_ | refine Owes.mk (by decide) ?_ | refine hsp.call ?_ | refine (swhite_spec t ht (w + 1) q (by omega)).call ?_ | refine Num.id (by omega) (by omega) ?_); conv => whnf)
    have e : pcomb t w = 2 + 1 := by
     unfold pcomb
     simp [*, h2, combL] <;> (have := isD_iff.1 hs; simp_all [isD])
    refine Fin.ibs ?_ ?_ ?_ <;> unfold sComb <;> rw [hw, if_pos (by omega)] <;> first | rfl | (dsimp only; omega)
   ·rw [if_neg hs] at hsp
    repeat' ((first | refine Case.yes ?_ | refine Case.no ?_ | refine Elem.mk 1 _ rfl (ptsF_get hc) ?_ | refine Owes.mk (by decide) ?_ | refine hsp.call ?_ | refine Num.id (by omega) (by omega) ?_); conv => whnf)
    refine ⟨1 + 1, ⟨by omega, take_step h2 hc hs⟩, by omega, ?_⟩
    repeat' first | exact trivial | exact rfl | exact Nat.zero_lt_succ _ | apply And.intro
  ·have hc : combL[2]? = some 126 := rfl
   have hsp := ssign_spec t ht w q (by omega) 126
   unfold sSign at hsp
   conv => whnf
   by_cases hs : isD t w 126 = true
   ·rw [if_pos hs] at hsp
    repeat' ((first | refine Case.yes ?_ | refine Elem.mk 2 _ rfl (ptsF_get hc) ?_ | refine Owes.mk (by decide) ?_ | refine hsp.call ?_ | refine (swhite_spec t ht (w + 1) q (by omega)).call ?_ | refine Num.id (by omega) (by omega) ?_); conv => whnf)
    have e : pcomb t w = 2 + 2 := by
     unfold pcomb
     simp [*, h2, combL] <;> (have := isD_iff.1 hs; simp_all [isD])
    refine Fin.ibs ?_ ?_ ?_ <;> unfold sComb <;> rw [hw, if_pos (by omega)] <;> first | rfl | (dsimp only; omega)
   ·rw [if_neg hs] at hsp
    repeat' ((first | refine Case.yes ?_ | refine Case.no ?_ | refine Elem.mk 2 _ rfl (ptsF_get hc) ?_ | refine Owes.mk (by decide) ?_ | refine hsp.call ?_ | refine Num.id (by omega) (by omega) ?_); conv => whnf)
    refine ⟨2 + 1, ⟨by omega, take_step h2 hc hs⟩, by omega, ?_⟩
    repeat' first | exact trivial | exact rfl | exact Nat.zero_lt_succ _ | apply And.intro
  ·have e0 : pcomb t w = 0 := by
    have g1 := h2 62 (by simp [combL])
    have g2 := h2 43 (by simp [combL])
    have g3 := h2 126 (by simp [combL])
    unfold pcomb
    rw [if_neg g1, if_neg g2, if_neg g3]
   conv => whnf
   refine Case.decF (by decide) ?_
   conv => whnf
   repeat' first | (refine (sends_spec t ht w q (by omega)).call ⟨⟨rfl, rfl, rfl, trivial⟩, rfl⟩ ?_; conv => whnf) | (refine Case.mk (fun _ => ?_) (fun _ => ?_) <;> conv => whnf)
   ·refine Fin.ibs ?_ ?_ ?_ <;> unfold sComb <;> rw [hw, if_neg (by omega), if_pos (by assumption)] <;> rfl
   ·refine Fin.ibs ?_ ?_ ?_ <;> unfold sComb <;> rw [hw, if_neg (by omega), if_neg (by simp [*])] <;> rfl
def fiveN (s : List UInt8) : Int := if (wordV (lower s) fiveW).2 = true then 1 + (wordV (lower s) fiveW).1 else 0
theorem fiveN_eq (s : List UInt8) : fiveN s = if lower s = [114, 111, 111, 116] then 1 else if lower s = [102, 105, 114, 115, 116, 45, 99, 104, 105, 108, 100] then 2 else if lower s = [108, 97, 115, 116, 45, 99, 104, 105, 108, 100] then 3 else if lower s = [111, 110, 108, 121, 45, 99, 104, 105, 108, 100] then 4 else if lower s = [101, 109, 112, 116, 121] then 5 else 0 := by
 unfold fiveN wordV fiveW
 simp only [wordRun, eq_comm (b := lower s)]
 repeat' split
 all_goals simp_all
theorem splain_spec (s : List UInt8) (hs : s.length < 1000000000) : Pure 154 [.str ⟨s.toArray⟩] (int (fiveN s)) := by
 refine .mk trivial (spec_mk tab_ok Tryz.func154 (by rfl) rfl ?_)
 rw [fiveN_eq]
 conv => whnf
 repeat' first | (refine (lowerP_spec s hs).call ⟨rfl, rfl⟩ ?_; conv => whnf) | (refine Case.strI (fun _ => ?_) (fun _ => ?_) <;> conv => whnf)
 all_goals (refine Fin.isI ?_; simp [*])
end Go.Proofs.YtlhegfkpgchaeaaGreatDoor.Aw
