/- The program's Sheet. -/
import Derived.Test.YtlhegfkpgchaeaaGreatDoorXyD
import Derived.Test.YtlhegfkpgchaeaaGreatDoorXsF
import Derived.Test.YtlhegfkpgchaeaaGreatDoorXyO
namespace Go.Proofs.YtlhegfkpgchaeaaGreatDoor.Aw
open Go Go.RowKit Go.Lib
set_option linter.unusedVariables false
set_option linter.unusedSimpArgs false
set_option maxRecDepth 100000
structure SheetI (t : List Tok) (s : Nat × List RuleV) : Prop where
 i : s.1 ≤ (rulesV t).length
 o : s.2.length ≤ s.1
 run : s.2 ++ ((rulesV t).drop s.1).flatMap rule1 = sheetT t
theorem rule1_yes {x : RawV} {l : List Selr} (h : sParse x.pre = (l, true)) : rule1 x = [{ sels := l, sets := setsW (declsV x.block) }] := by
 unfold rule1; rw [h]; rfl
theorem rule1_no {x : RawV} {l : List Selr} (h : sParse x.pre = (l, false)) : rule1 x = [] := by
 unfold rule1; rw [h]; rfl
theorem SheetI.yes {t : List Tok} {i : Nat} {out : List RuleV} (h : SheetI t (i, out)) {x : RawV} (hx : (rulesV t)[i]? = some x) {l : List Selr} (hs : sParse x.pre = (l, true)) :
  SheetI t (i + 1, out ++ [{ sels := l, sets := setsW (declsV x.block) }]) := by
 obtain ⟨h1, h2, h3⟩ := h
 dsimp only at h1 h2 h3
 have hi : i < (rulesV t).length := (List.getElem?_eq_some_iff.1 hx).1
 rw [drop_cons' hx, List.flatMap_cons, rule1_yes hs] at h3
 exact ⟨by dsimp only; omega, by dsimp only; rw [List.length_append]; simp; omega, by dsimp only; rw [List.append_assoc]; exact h3⟩
theorem SheetI.no {t : List Tok} {i : Nat} {out : List RuleV} (h : SheetI t (i, out)) {x : RawV} (hx : (rulesV t)[i]? = some x) {l : List Selr} (hs : sParse x.pre = (l, false)) :
  SheetI t (i + 1, out) := by
 obtain ⟨h1, h2, h3⟩ := h
 dsimp only at h1 h2 h3
 have hi : i < (rulesV t).length := (List.getElem?_eq_some_iff.1 hx).1
 rw [drop_cons' hx, List.flatMap_cons, rule1_no hs] at h3
 exact ⟨by dsimp only; omega, by dsimp only; omega, h3⟩
theorem SheetI.done {t : List Tok} {i : Nat} {out : List RuleV} (h : SheetI t (i, out)) (hi : ¬ i < (rulesV t).length) : out = sheetT t := by
 obtain ⟨h1, h2, h3⟩ := h
 dsimp only at h1 h2 h3
 rw [show (rulesV t).drop i = [] by rw [List.drop_eq_nil_iff]; omega] at h3
 simpa using h3
set_option maxHeartbeats 2000000 in
theorem rsheet_val (bs : List UInt8) (hl : bs.length < 100000) (hf : Fit (ofB bs)) : Val 8 [.f (.sl (bs.map byteRow))] (.f (.sl (rulesF (if bs.length > 65536 then [] else sheetT (ofB bs))))) := by
 have hp := prepare_len bs
 refine ⟨rfl, ⟨trivial, trivial⟩, rfl, spec_mk tab_ok Tryz.func8 (by rfl) rfl ?_⟩
 have hlb : (bs.map byteRow).length = bs.length := List.length_map ..
 by_cases hb : bs.length > 65536
 ·rw [if_pos hb]
  conv => whnf
  repeat' (refine Case.decT (by omega) ?_; conv => whnf)
  refine Fin.mk (.f (.sl (rulesF []))) [] ⟨rfl, rfl⟩ rfl ?_
  repeat' first | exact trivial | exact rfl | apply And.intro
 ·rw [if_neg hb]
  have h1 := prepare_spec bs (by omega)
  have h2 := tokens_val (prepare bs) (by omega)
  have h3 := rrules_val (ofB bs) hf.len
  have hfl := hf.len
  change Val _ _ (.f (.sl (toksF (ofB bs)))) at h2
  generalize ofB bs = t at *
  have hrl := rulesV_len t
  obtain ⟨R, hR⟩ : ∃ R, R = rawsF (rulesV t) := ⟨_, rfl⟩
  have hlR : R.length = (rulesV t).length := by rw [hR]; exact List.length_map ..
  have hrow : ∀ e ∈ R, e.length = 2 := by rw [hR]; exact rawsF_row
  rw [← hR] at h3
  conv => whnf
  repeat' ((first | refine Case.decF (by omega) ?_ | refine h1.call ?_ | refine h2.call ?_ | refine h3.call ?_); conv => whnf)
  refine step_loop tab_ok (fun s : Nat × List RuleV => padK [.f (.sl (bs.map byteRow)), .junk, .junk, .f (.sl R), .own 0 31 2 (rulesF s.2), int s.1] 44) (fun _ => []) 1 (SheetI t) (fun s => (rulesV t).length - s.1) (0, []) ⟨by simp, by simp, rfl⟩ (fun _ => rfl) ?_ ?_
  ·
   repeat' first | exact trivial | exact rfl | exact Nat.zero_le _ | exact Nat.zero_lt_succ _ | apply And.intro
  ·rintro ⟨i, out⟩ hI
   have hIi := hI.i
   have hIo := hI.o
   dsimp only at hIi hIo ⊢
   have l2 : (rulesF out).length = out.length := List.length_map ..
   by_cases hi : i < (rulesV t).length
   ·obtain ⟨x, hx⟩ : ∃ x, (rulesV t)[i]? = some x := ⟨_, List.getElem?_eq_getElem hi⟩
    have hok := rulesV_ok t x (List.mem_of_getElem? hx)
    have hbl := hok.bl
    have hsel := selectors_spec (fit_sub hf hok.pl hok.pm)
    rw [← parse_same] at hsel
    have hxr : R[i]? = some [.sl (toksF x.pre), .sl (toksF x.block)] := by rw [hR]; simp [hx, RawV.row]
    have htx : ∀ y ∈ x.block, y.text.length ≤ 140737488355328 := fun y hy => fit_text hf y (hok.bm y hy)
    have hdec := rdecls_val x.block (by omega) htx
    have hdl := declsV_len x.block
    have hset := rsets_spec (declsV x.block) (by omega) (declsV_ok x.block (by omega) htx)
    rcases hs : sParse x.pre with ⟨l, b⟩
    rw [hs] at hsel
    dsimp only at hsel
    obtain ⟨S1, hS1⟩ : ∃ S, S = l.map selRow := ⟨_, rfl⟩
    obtain ⟨S2, hS2⟩ : ∃ S, S = setsF (setsW (declsV x.block)) := ⟨_, rfl⟩
    obtain ⟨S3, hS3⟩ : ∃ S, S = dclsF (declsV x.block) := ⟨_, rfl⟩
    rw [← hS1] at hsel
    rw [← hS3] at hdec
    rw [← hS3, ← hS2] at hset
    cases b with
    | true =>
     conv => whnf
     repeat' ((first | refine Case.yes ?_ | refine Case.decT (by omega) ?_ | refine Owes.mk hrow ?_ | refine Elem.mk i _ rfl hxr ?_ | refine hsel.call ?_ | refine hdec.call ?_ | refine hset.call ?_ | (refine Owes.mk (by simp; omega) ?_) | refine Num.id (by omega) (by omega) ?_); conv => whnf)
     refine ⟨(i + 1, out ++ [{ sels := l, sets := setsW (declsV x.block) }]), hI.yes hx hs, by dsimp only; omega, ?_⟩
     have er : rulesF (out ++ [{ sels := l, sets := setsW (declsV x.block) }]) = rulesF out ++ [[.sl S1, .sl S2]] := by rw [hS1, hS2]; simp [RuleV.row]
     dsimp only
     rw [er]
     repeat' first | exact trivial | exact rfl | exact Nat.zero_lt_succ _ | apply And.intro
    | false =>
     conv => whnf
     repeat' ((first | refine Case.no ?_ | refine Case.decT (by omega) ?_ | refine Owes.mk hrow ?_ | refine Elem.mk i _ rfl hxr ?_ | refine hsel.call ?_ | refine Num.id (by omega) (by omega) ?_); conv => whnf)
     refine ⟨(i + 1, out), hI.no hx hs, by dsimp only; omega, ?_⟩
     repeat' first | exact trivial | exact rfl | exact Nat.zero_lt_succ _ | apply And.intro
   ·conv => whnf
    repeat' (refine Case.decF (by omega) ?_; conv => whnf)
    refine Fin.frz 0 (Fin.mk (.f (.sl (rulesF (sheetT t)))) [] ⟨rfl, rfl⟩ rfl ?_)
    rw [← hI.done hi]
    repeat' first | exact trivial | exact rfl | apply And.intro
set_option maxHeartbeats 2000000 in
theorem ysheet_val (bs : List UInt8) (hl : bs.length < 100000) (hf : Fit (ofB bs)) : Val 7 [.f (.sl (bs.map byteRow))] (.f (.sl (rulesF (if bs.length > 65536 then [] else sheetT (ofB bs))))) := by
 have hp := prepare_len bs
 refine ⟨rfl, ⟨trivial, trivial⟩, rfl, spec_mk tab_ok Tryz.func7 (by rfl) rfl ?_⟩
 have hlb : (bs.map byteRow).length = bs.length := List.length_map ..
 by_cases hb : bs.length > 65536
 ·rw [if_pos hb]
  conv => whnf
  repeat' (refine Case.decT (by omega) ?_; conv => whnf)
  refine Fin.mk (.f (.sl (rulesF []))) [] ⟨rfl, rfl⟩ rfl ?_
  repeat' first | exact trivial | exact rfl | apply And.intro
 ·rw [if_neg hb]
  have h1 := prepare4_val bs (by omega)
  have h2 := tokens4_val (prepare bs) (by omega)
  have h3 := yrules_val (ofB bs) hf.len
  have hfl := hf.len
  change Val _ _ (.f (.sl (toksF (ofB bs)))) at h2
  generalize ofB bs = t at *
  have hrl := rulesV_len t
  obtain ⟨R, hR⟩ : ∃ R, R = rawsF (rulesV t) := ⟨_, rfl⟩
  have hlR : R.length = (rulesV t).length := by rw [hR]; exact List.length_map ..
  have hrow : ∀ e ∈ R, e.length = 2 := by rw [hR]; exact rawsF_row
  rw [← hR] at h3
  conv => whnf
  repeat' ((first | refine Case.decF (by omega) ?_ | refine h1.call ?_ | refine h2.call ?_ | refine h3.call ?_); conv => whnf)
  refine step_loop tab_ok (fun s : Nat × List RuleV => padK [.f (.sl (bs.map byteRow)), .junk, .junk, .own 0 31 2 (rulesF s.2), .junk, .junk, .junk, .junk, .junk, .junk, .junk, .junk, .junk, .junk, .f (.sl R), int R.length, int s.1] 38) (fun _ => []) 1 (SheetI t) (fun s => (rulesV t).length - s.1) (0, []) ⟨by simp, by simp, rfl⟩ (fun _ => rfl) ?_ ?_
  ·
   repeat' first | exact trivial | exact rfl | exact Nat.zero_le _ | exact Nat.zero_lt_succ _ | apply And.intro
  ·rintro ⟨i, out⟩ hI
   have hIi := hI.i
   have hIo := hI.o
   dsimp only at hIi hIo ⊢
   have l2 : (rulesF out).length = out.length := List.length_map ..
   by_cases hi : i < (rulesV t).length
   ·obtain ⟨x, hx⟩ : ∃ x, (rulesV t)[i]? = some x := ⟨_, List.getElem?_eq_getElem hi⟩
    have hok := rulesV_ok t x (List.mem_of_getElem? hx)
    have hbl := hok.bl
    have hsel := parse_spec (fit_sub hf hok.pl hok.pm)
    have hxr : R[i]? = some [.sl (toksF x.pre), .sl (toksF x.block)] := by rw [hR]; simp [hx, RawV.row]
    have htx : ∀ y ∈ x.block, y.text.length ≤ 140737488355328 := fun y hy => fit_text hf y (hok.bm y hy)
    have hdec := ydecls_val x.block (by omega) htx
    have hdl := declsV_len x.block
    have hset := vsets_spec (declsV x.block) (by omega) (declsV_ok x.block (by omega) htx)
    rcases hs : sParse x.pre with ⟨l, b⟩
    rw [hs] at hsel
    dsimp only at hsel
    obtain ⟨S1, hS1⟩ : ∃ S, S = l.map selRow := ⟨_, rfl⟩
    obtain ⟨S2, hS2⟩ : ∃ S, S = setsF (setsW (declsV x.block)) := ⟨_, rfl⟩
    obtain ⟨S3, hS3⟩ : ∃ S, S = dclsF (declsV x.block) := ⟨_, rfl⟩
    rw [← hS1] at hsel
    rw [← hS3] at hdec
    rw [← hS3, ← hS2] at hset
    cases b with
    | true =>
     conv => whnf
     repeat' ((first | refine Case.yes ?_ | refine Case.decT (by omega) ?_ | refine Owes.mk hrow ?_ | refine Elem.mk i _ rfl hxr ?_ | refine hsel.call ?_ | refine hdec.call ?_ | refine hset.call ?_ | (refine Owes.mk (by simp; omega) ?_) | refine Num.id (by omega) (by omega) ?_); conv => whnf)
     refine ⟨(i + 1, out ++ [{ sels := l, sets := setsW (declsV x.block) }]), hI.yes hx hs, by dsimp only; omega, ?_⟩
     have er : rulesF (out ++ [{ sels := l, sets := setsW (declsV x.block) }]) = rulesF out ++ [[.sl S1, .sl S2]] := by rw [hS1, hS2]; simp [RuleV.row]
     dsimp only
     rw [er]
     repeat' first | exact trivial | exact rfl | exact Nat.zero_lt_succ _ | apply And.intro
    | false =>
     conv => whnf
     repeat' ((first | refine Case.no ?_ | refine Case.decT (by omega) ?_ | refine Owes.mk hrow ?_ | refine Elem.mk i _ rfl hxr ?_ | refine hsel.call ?_ | refine Num.id (by omega) (by omega) ?_); conv => whnf)
     refine ⟨(i + 1, out), hI.no hx hs, by dsimp only; omega, ?_⟩
     repeat' first | exact trivial | exact rfl | exact Nat.zero_lt_succ _ | apply And.intro
   ·conv => whnf
    repeat' (refine Case.decF (by omega) ?_; conv => whnf)
    refine Fin.frz 0 (Fin.mk (.f (.sl (rulesF (sheetT t)))) [] ⟨rfl, rfl⟩ rfl ?_)
    rw [← hI.done hi]
    repeat' first | exact trivial | exact rfl | apply And.intro
end Go.Proofs.YtlhegfkpgchaeaaGreatDoor.Aw
