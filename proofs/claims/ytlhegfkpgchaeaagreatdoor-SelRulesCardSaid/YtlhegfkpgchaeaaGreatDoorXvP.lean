/- The program's values are the reference's. -/
import Derived.Test.YtlhegfkpgchaeaaGreatDoorXqF
import Derived.Test.YtlhegfkpgchaeaaGreatDoorXvA
namespace Go.Proofs.YtlhegfkpgchaeaaGreatDoor.Aw
open Go Go.RowKit Go.Lib
set_option linter.unusedVariables false
set_option linter.unusedSimpArgs false
set_option maxRecDepth 100000
def impB : List UInt8 := [105, 109, 112, 111, 114, 116, 97, 110, 116]
def Tok.imp (k : Tok) : Prop := k.kind = 1 ∧ lower k.text = impB
instance (k : Tok) : Decidable k.imp := by unfold Tok.imp; infer_instance
def Tok.bang (k : Tok) : Prop := k.kind = 10 ∧ k.c = 33
instance (k : Tok) : Decidable k.bang := by unfold Tok.bang; infer_instance
def markV (v : List Tok) : List Tok × Bool := match v.getLast? with
 | none => (v, false)
 | some k => if v.length < 2 ∨ ¬ k.imp then (v, false) else
  (match (trimT v.dropLast).getLast? with
  | none => ([], false)
  | some x => if x.bang then (trimT (trimT v.dropLast).dropLast, true) else ([], false))
theorem toksF_of {t : List Tok} {kr : List (List F)} (h : toksF t = kr) : ∀ e ∈ kr, e.length = 5 := by rw [← h]; exact toksF_row
set_option maxHeartbeats 2000000 in
theorem ymarked_val (v : List Tok) (hl : v.length < 100000000) (ht : ∀ k ∈ v, k.text.length ≤ 140737488355328) : Val 75 [.f (.sl (toksF v))] (.tup [.f (.sl (toksF (markV v).1)), bool (markV v).2]) := by
 refine ⟨rfl, ⟨trivial, trivial⟩, rfl, spec_mk tab_ok Tryz.func75 (by rfl) rfl ?_⟩
 have hz : (toksF []).length = 0 := rfl
 rcases List.eq_nil_or_concat v with rfl | ⟨q, k, rfl⟩
 ·conv => whnf
  repeat' ((first | refine Case.yes ?_ | refine Num.id (by omega) (by omega) ?_); conv => whnf)
  refine Fin.mk (.tup [.f (.sl (toksF [])), bool false]) [] ⟨rfl, rfl⟩ rfl ?_
  repeat' first | exact trivial | exact rfl | apply And.intro
 ·simp only [List.concat_eq_append] at *
  have hlast : (q ++ [k]).getLast? = some k := by simp
  have hdl : (q ++ [k]).dropLast = q := by simp
  have hlq : (q ++ [k]).length = q.length + 1 := by simp
  have hq : q.length < 100000000 := by omega
  have hk := ht k (by simp)
  have hcut := toks_tail q k
  have hget := toks_last q k
  have hlow := lowerP_specB k.text hk
  have hlr : (toksF (q ++ [k])).length = q.length + 1 := by simp
  have htr := ytrim_val q hq
  unfold markV
  rw [hlast, hdl]
  dsimp only
  generalize hg : toksF (q ++ [k]) = kr at *
  have hrow := toksF_of hg
  have hi : (kr.length : Int) - 1 = (q.length : Nat) := by omega
  by_cases h1 : q.length < 1
  ·rw [if_pos (.inl (by omega)), hg]
   conv => whnf
   repeat' ((first | refine Case.yes ?_ | refine Case.decT (by omega) ?_ | refine Num.id (by omega) (by omega) ?_); conv => whnf)
   refine Fin.mk (.tup [.f (.sl kr), bool false]) [] ⟨rfl, rfl⟩ rfl ?_
   repeat' first | exact trivial | exact rfl | apply And.intro
  by_cases h2 : k.kind = 1
  ·by_cases h3 : lower k.text = impB
   ·rw [if_neg (by simp only [Tok.imp, h2, h3]; simp; omega)]
    have hwl := trimT_len q
    generalize hw : trimT q = w at *
    rcases List.eq_nil_or_concat w with rfl | ⟨u, x, rfl⟩
    ·rw [List.getLast?_nil]
     dsimp only
     conv => whnf
     repeat' ((first | refine Case.not ?_ | refine Case.yes ?_ | refine Case.decT (by with_reducible assumption) ?_ | refine Case.decF (by omega) ?_ | refine Owes.mk hrow ?_ | refine Elem.mk q.length _ hi hget ?_ | refine hlow.call ⟨rfl, rfl⟩ ?_ | refine Case.strT (x := lower k.text) (y := impB) h3 ?_ | refine Part.mk 0 q.length rfl hi (by omega) (by omega) ?_ | rw [hcut] | refine htr.call ?_ | refine Num.id (by omega) (by omega) ?_); conv => whnf)
     refine Fin.mk (.tup [.f (.sl (toksF [])), bool false]) [] ⟨rfl, rfl⟩ rfl ?_
     repeat' first | exact trivial | exact rfl | apply And.intro
    ·simp only [List.concat_eq_append] at *
     have hul : (u ++ [x]).getLast? = some x := by simp
     have hud : (u ++ [x]).dropLast = u := by simp
     rw [hul, hud]
     dsimp only
     have hcut2 := toks_tail u x
     have hget2 := toks_last u x
     have hlr2 : (toksF (u ++ [x])).length = u.length + 1 := by simp
     have hub : u.length < 100000000 := by simp at hwl; omega
     have htr2 := ytrim_val u hub
     generalize hg2 : toksF (u ++ [x]) = kr2 at *
     have hrow2 := toksF_of hg2
     have hi2 : (kr2.length : Int) - 1 = (u.length : Nat) := by omega
     by_cases hx1 : x.kind = 10
     ·by_cases hx2 : x.c = 33
      ·rw [if_pos (show x.bang from ⟨hx1, hx2⟩)]
       conv => whnf
       repeat' first
        | (refine Case.not ?_; conv => whnf)
        | (refine Case.decT (by with_reducible assumption) ?_; conv => whnf)
        | (refine Case.decF (by omega) ?_; conv => whnf)
        | (refine Owes.mk hrow ?_; conv => whnf)
        | (refine Elem.mk q.length _ hi hget ?_; conv => whnf)
        | (refine hlow.call ⟨rfl, rfl⟩ ?_; conv => whnf)
        | (refine Case.strT (x := lower k.text) (y := impB) h3 ?_; conv => whnf)
        | (refine Part.mk 0 q.length rfl hi (by omega) (by omega) ?_; conv => whnf)
        | (rw [hcut]; conv => whnf)
        | (refine htr.call ?_; conv => whnf)
        | (refine Owes.mk hrow2 ?_; conv => whnf)
        | (refine Elem.mk u.length _ hi2 hget2 ?_; conv => whnf)
        | (refine Part.mk 0 u.length rfl hi2 (by omega) (by omega) ?_; conv => whnf)
        | (rw [hcut2]; conv => whnf)
        | (refine htr2.call ?_; conv => whnf)
        | (refine Num.id (by omega) (by omega) ?_; conv => whnf)
       refine Fin.mk (.tup [.f (.sl (toksF (trimT u))), bool true]) [] ⟨rfl, rfl⟩ rfl ?_
       repeat' first | exact trivial | exact rfl | apply And.intro
      ·rw [if_neg (fun h : x.bang => hx2 h.2)]
       conv => whnf
       repeat' first
        | (refine Case.not ?_; conv => whnf)
        | (refine Case.decT (by with_reducible assumption) ?_; conv => whnf)
        | (refine Case.decF (by with_reducible assumption) ?_; conv => whnf)
        | (refine Case.decF (by omega) ?_; conv => whnf)
        | (refine Owes.mk hrow ?_; conv => whnf)
        | (refine Elem.mk q.length _ hi hget ?_; conv => whnf)
        | (refine hlow.call ⟨rfl, rfl⟩ ?_; conv => whnf)
        | (refine Case.strT (x := lower k.text) (y := impB) h3 ?_; conv => whnf)
        | (refine Part.mk 0 q.length rfl hi (by omega) (by omega) ?_; conv => whnf)
        | (rw [hcut]; conv => whnf)
        | (refine htr.call ?_; conv => whnf)
        | (refine Owes.mk hrow2 ?_; conv => whnf)
        | (refine Elem.mk u.length _ hi2 hget2 ?_; conv => whnf)
        | (refine Num.id (by omega) (by omega) ?_; conv => whnf)
       refine Fin.mk (.tup [.f (.sl (toksF [])), bool false]) [] ⟨rfl, rfl⟩ rfl ?_
       repeat' first | exact trivial | exact rfl | apply And.intro
     ·rw [if_neg (fun h : x.bang => hx1 h.1)]
      conv => whnf
      repeat' first
       | (refine Case.not ?_; conv => whnf)
       | (refine Case.yes ?_; conv => whnf)
       | (refine Case.decT (by with_reducible assumption) ?_; conv => whnf)
       | (refine Case.decF (by with_reducible assumption) ?_; conv => whnf)
       | (refine Case.decF (by omega) ?_; conv => whnf)
       | (refine Owes.mk hrow ?_; conv => whnf)
       | (refine Elem.mk q.length _ hi hget ?_; conv => whnf)
       | (refine hlow.call ⟨rfl, rfl⟩ ?_; conv => whnf)
       | (refine Case.strT (x := lower k.text) (y := impB) h3 ?_; conv => whnf)
       | (refine Part.mk 0 q.length rfl hi (by omega) (by omega) ?_; conv => whnf)
       | (rw [hcut]; conv => whnf)
       | (refine htr.call ?_; conv => whnf)
       | (refine Owes.mk hrow2 ?_; conv => whnf)
       | (refine Elem.mk u.length _ hi2 hget2 ?_; conv => whnf)
       | (refine Num.id (by omega) (by omega) ?_; conv => whnf)
      refine Fin.mk (.tup [.f (.sl (toksF [])), bool false]) [] ⟨rfl, rfl⟩ rfl ?_
      repeat' first | exact trivial | exact rfl | apply And.intro
   ·rw [if_pos (.inr (fun h : k.imp => h3 h.2)), hg]
    conv => whnf
    repeat' ((first | refine Case.not ?_ | refine Case.decT (by with_reducible assumption) ?_ | refine Case.decF (by omega) ?_ | refine Owes.mk hrow ?_ | refine Elem.mk q.length _ hi hget ?_ | refine hlow.call ⟨rfl, rfl⟩ ?_ | refine Case.strF (x := lower k.text) (y := impB) h3 ?_ | refine Num.id (by omega) (by omega) ?_); conv => whnf)
    refine Fin.mk (.tup [.f (.sl kr), bool false]) [] ⟨rfl, rfl⟩ rfl ?_
    repeat' first | exact trivial | exact rfl | apply And.intro
  ·rw [if_pos (.inr (fun h : k.imp => h2 h.1)), hg]
   conv => whnf
   repeat' ((first | refine Case.not ?_ | refine Case.yes ?_ | refine Case.decF (by with_reducible assumption) ?_ | refine Case.decF (by omega) ?_ | refine Owes.mk hrow ?_ | refine Elem.mk q.length _ hi hget ?_ | refine Num.id (by omega) (by omega) ?_); conv => whnf)
   refine Fin.mk (.tup [.f (.sl kr), bool false]) [] ⟨rfl, rfl⟩ rfl ?_
   repeat' first | exact trivial | exact rfl | apply And.intro
def parse1 (p : Int) (k : Tok) : Int × Int × Bool := if k.kind = 1 then wordW p k.text else if k.kind = 3 ∧ p = 0 then colorW k.text else if k.kind = 6 then numW p k else if p = 5 ∨ ((p = 1 ∨ p = 4) ∧ 0 ≤ k.n) then lenW k else (0, 0, false)
def parseW (p : Int) (t : List Tok) : Int × Int × Bool := if 0 ≤ p ∧ p < 8 then (match t with | [k] => parse1 p k | _ => (0, 0, false)) else (0, 0, false)
theorem parseW_len {p : Int} {t : List Tok} (h : ¬ t.length = 1) : parseW p t = (0, 0, false) := by
 unfold parseW
 split
 ·match t, h with
  | [], _ => rfl
  | [k], h => simp at h
  | _ :: _ :: _, _ => rfl
 ·rfl
theorem isW_t {p : Int} (h : isW p = true) : 0 ≤ p ∧ p < 8 := by simpa [isW] using h
theorem isW_f {p : Int} (h : isW p = false) : ¬ (0 ≤ p ∧ p < 8) := by
 intro h2
 have : isW p = true := by simpa [isW] using h2
 rw [h] at this
 cases this
theorem vparse_spec (p : Int) (t : List Tok) (hl : t.length < 9223372036854775808) (hx : ∀ k ∈ t, k.text.length ≤ 140737488355328) : Pure 35 [int p, .f (.sl (toksF t))] (valD (parseW p t)) := by
 have hlen : (toksF t).length = t.length := by simp
 refine .mk (valD_scal _) (spec_mk tab_ok Tryz.func35 (by rfl) rfl ?_)
 by_cases h1 : t.length = 1
 ·obtain ⟨k, rfl⟩ : ∃ k, t = [k] := by
   match t, h1 with
   | [k], _ => exact ⟨k, rfl⟩
  have hk := hx k (by simp)
  have hget : (toksF [k])[0]? = some (tokRow k) := rfl
  conv => whnf
  repeat' first
   | (refine Case.not ?_; conv => whnf)
   | (refine Case.yes ?_; conv => whnf)
   | (refine Case.no ?_; conv => whnf)
   | (refine Case.isTrue (by assumption) ?_; conv => whnf)
   | (refine Case.isFalse (by assumption) ?_; conv => whnf)
   | (refine Case.decT (by assumption) ?_; conv => whnf)
   | (refine Case.decF (by assumption) ?_; conv => whnf)
   | (refine Case.decF (by omega) ?_; conv => whnf)
   | (refine (vis_spec p).call ⟨rfl, rfl⟩ ?_; conv => whnf)
   | (refine Owes.mk toksF_row ?_; conv => whnf)
   | (refine Elem.mk 0 _ rfl hget ?_; conv => whnf)
   | (refine (vword_spec p _ hk).call ⟨rfl, rfl, rfl⟩ ?_; conv => whnf)
   | (refine (vcolor_spec _ hk).call ⟨rfl, rfl⟩ ?_; conv => whnf)
   | (refine (vnumber_spec p k).call ⟨rfl, ⟨rfl, rfl, rfl, rfl, rfl, rfl⟩, rfl⟩ ?_; conv => whnf)
   | (refine (vlength_spec k hk).call ⟨⟨rfl, rfl, rfl, rfl, rfl, rfl⟩, rfl⟩ ?_; conv => whnf)
   | (refine Case.dec (fun _ => ?_) (fun _ => ?_) <;> conv => whnf)
   | (refine Case.mk (fun _ => ?_) (fun _ => ?_) <;> conv => whnf)
  all_goals (refine Fin.v3 ?_; unfold parseW parse1; first | rw [if_pos (isW_t (by assumption))] | rw [if_neg (isW_f (by assumption))])
  all_goals (try dsimp only)
  all_goals (repeat first | rw [if_pos (by omega)] | rw [if_neg (by omega)])
 ·rw [parseW_len h1]
  conv => whnf
  repeat' first | ((first | refine Case.not ?_ | refine Case.yes ?_ | refine Case.isTrue (by assumption) ?_ | refine Case.isFalse (by assumption) ?_ | refine Case.decF (by omega) ?_ | refine (vis_spec p).call ⟨rfl, rfl⟩ ?_); conv => whnf) | (refine Case.mk (fun _ => ?_) (fun _ => ?_) <;> conv => whnf)
  all_goals exact Fin.v3 rfl
def colRun (three : Bool) : List UInt8 → Int → Option Int
 | [], n => some n
 | c :: r, n => if hex c.toNat < 0 then none else colRun three r (if three then (n * 16 + hex c.toNat) * 16 + hex c.toNat else n * 16 + hex c.toNat)
def colR (s : List UInt8) : Int × Bool := if s.length = 3 ∨ s.length = 6 then (match colRun (decide (s.length = 3)) s 0 with | some n => (n, true) | none => (0, false)) else (0, false)
def wideL : List (List UInt8) := [[105, 110, 104, 101, 114, 105, 116], [105, 110, 105, 116, 105, 97, 108], [117, 110, 115, 101, 116]]
def colorL : List (List UInt8) := [[98, 108, 97, 99, 107], [119, 104, 105, 116, 101], [114, 101, 100], [103, 114, 101, 101, 110], [98, 108, 117, 101]]
def alignL : List (List UInt8) := [[108, 101, 102, 116], [114, 105, 103, 104, 116], [99, 101, 110, 116, 101, 114]]
def dispL : List (List UInt8) := [[110, 111, 110, 101], [98, 108, 111, 99, 107], [105, 110, 108, 105, 110, 101]]
def autoL : List (List UInt8) := [[97, 117, 116, 111]]
def colorN : List Int := [0, 16777215, 16711680, 32768, 255]
def lenR (k : Tok) : Int × Int × Bool := if k.kind = 7 then (4, k.n, true) else if k.kind = 8 ∧ lower k.text = [112, 120] then (2, k.n, true) else if k.kind = 8 ∧ lower k.text = [101, 109] then (3, k.n, true) else (0, 0, false)
def keyR (k : Tok) (l : List (List UInt8)) : Int × Int × Bool := if k.kind = 1 then (if (wordV (lower k.text) l).2 = true then (1, (wordV (lower k.text) l).1, true) else (0, 0, false)) else (0, 0, false)
def value1 (p : Int) (k : Tok) : Int × Int × Bool :=
 if k.kind = 1 ∧ (wordV (lower k.text) wideL).2 = true then (7 + ((wordV (lower k.text) wideL).1 : Int), 0, true)
 else if p = 0 then (if k.kind = 3 then (if (colR k.text).2 = true then (6, (colR k.text).1, true) else (0, 0, false)) else if (keyR k colorL).2.2 = true then (6, colorN.getD (keyR k colorL).2.1.toNat 0, true) else (0, 0, false))
 else if p = 2 then keyR k alignL
 else if p = 3 then keyR k dispL
 else if p = 6 then (if k.kind = 6 then (5, clampW k.n, true) else (0, 0, false))
 else if p = 7 then (if k.kind = 6 ∧ k.whole = true then (5, k.n, true) else keyR k autoL)
 else if p = 5 then (if k.kind = 6 ∧ k.n = 0 then (2, 0, true) else lenR k)
 else if (lenR k).2.2 = true ∧ (lenR k).2.1 < 0 then (0, 0, false)
 else if (lenR k).2.2 = false ∧ p = 4 then keyR k autoL
 else lenR k
def valueR (p : Int) (t : List Tok) : Int × Int × Bool := if 0 ≤ p ∧ p < 8 then (match t with | [k] => value1 p k | _ => (0, 0, false)) else (0, 0, false)
theorem rlength_spec (k : Tok) (hk : k.text.length ≤ 140737488355328) : Pure 93 [k.d] (valD (lenR k)) := by
 refine .mk (valD_scal _) (spec_mk tab_ok Tryz.func93 (by rfl) rfl ?_)
 conv => whnf
 repeat' first | ((first | refine Case.no ?_ | refine Case.decT (by assumption) ?_ | refine Case.decF (by assumption) ?_ | refine (lower_specB _ hk).call ⟨rfl, rfl⟩ ?_); conv => whnf) | (refine Case.strI (fun _ => ?_) (fun _ => ?_) <;> conv => whnf) | (refine Case.dec (fun _ => ?_) (fun _ => ?_) <;> conv => whnf)
 all_goals (refine Fin.v3 ?_; unfold lenR; first | (simp_all; done) | ((repeat' split) <;> simp_all))
theorem rkey_spec (k : Tok) (hk : k.text.length ≤ 140737488355328) (l : List (List UInt8)) (hl : l.length < 1000000000) : Pure 92 [k.d, .f (.sl (strs l))] (valD (keyR k l)) := by
 refine .mk (valD_scal _) (spec_mk tab_ok Tryz.func92 (by rfl) rfl ?_)
 conv => whnf
 repeat' first | ((first | refine Case.not ?_ | refine (lower_specB _ hk).call ⟨rfl, rfl⟩ ?_ | refine (word_spec (lower k.text) l hl).call ⟨rfl, rfl, rfl⟩ ?_); conv => whnf) | (refine Case.dec (fun _ => ?_) (fun _ => ?_) <;> conv => whnf) | (refine Case.mk (fun _ => ?_) (fun _ => ?_) <;> conv => whnf)
 all_goals (refine Fin.v3 ?_; unfold keyR; first | (simp_all; done) | ((repeat' split) <;> simp_all))
theorem colR_len {s : List UInt8} (h : ¬ (s.length = 3 ∨ s.length = 6)) : colR s = (0, false) := by unfold colR; rw [if_neg h]
structure ColI (s : List UInt8) (x : Nat × Int) : Prop where
 i : x.1 ≤ s.length
 n0 : 0 ≤ x.2
 n1 : x.2 < 256 ^ x.1
 run : colRun (decide (s.length = 3)) (s.drop x.1) x.2 = colRun (decide (s.length = 3)) s 0
theorem p256 : ∀ j : Nat, j ≤ 6 → (256 : Int) ^ j ≤ 281474976710656 := by
 intro j hj
 have : j = 0 ∨ j = 1 ∨ j = 2 ∨ j = 3 ∨ j = 4 ∨ j = 5 ∨ j = 6 := by omega
 rcases this with rfl | rfl | rfl | rfl | rfl | rfl | rfl <;> decide
theorem hex_15 (c : Int) : -1 ≤ hex c ∧ hex c ≤ 15 := by
 unfold hex
 repeat' split
 all_goals omega
theorem rcolor_spec (s : List UInt8) (hs : s.length ≤ 140737488355328) : Pure 91 [.str ⟨s.toArray⟩] (.tup [int (colR s).1, bool (colR s).2]) := by
 have hlen : (⟨s.toArray⟩ : ByteArray).size = s.length := rfl
 refine ⟨⟨trivial, trivial, trivial⟩, spec_mk tab_ok Tryz.func91 (by rfl) rfl ?_⟩
 by_cases h36 : s.length = 3 ∨ s.length = 6
 ·conv => whnf
  repeat' first | ((first | refine Case.not ?_ | refine Case.no ?_ | refine Case.decT (by assumption) ?_ | refine Case.decF (by assumption) ?_ | refine Case.decT (by omega) ?_); conv => whnf) | (refine Case.dec (fun _ => ?_) (fun _ => ?_) <;> conv => whnf)
  ·refine step_loop tab_ok (fun x : Nat × Int => padK [.str ⟨s.toArray⟩, .junk, .junk, .junk, int x.2, int x.1] 40) (fun _ => []) 0 (ColI s) (fun x => s.length - x.1) (0, 0) ⟨by simp, by simp, by simp, rfl⟩ (fun _ => rfl) ?_ ?_
   ·
    repeat' first | exact trivial | exact rfl | apply And.intro
   ·rintro ⟨i, n⟩ ⟨h1, h2, h3, h4⟩
    simp only at h1 h2 h3 h4
    have h5 := p256 i (by omega)
    conv => whnf
    refine Case.dec (fun h0 => ?_) (fun h0 => ?_)
    ·obtain ⟨c, hc⟩ : ∃ c, s[i]? = some c := ⟨_, List.getElem?_eq_getElem (by omega)⟩
     rw [drop_cons' hc, colRun] at h4
     have hx := hex_15 c.toNat
     have hc8 := c.toNat_lt
     conv => whnf
     repeat' first | ((first | refine Case.decT (by assumption) ?_ | refine Byte.mk i c rfl (by simpa using hc) ?_ | refine (hex_spec _).call ⟨rfl, rfl⟩ ?_ | refine Num.id (by omega) (by omega) ?_); conv => whnf) | (refine Case.dec (fun _ => ?_) (fun _ => ?_) <;> conv => whnf)
     ·rw [if_pos (by assumption)] at h4
      refine Fin.num (y := (colR s).1) (c := (colR s).2) ?_; unfold colR; rw [if_pos h36, ← h4]
     ·rw [if_neg (by assumption)] at h4
      first | rw [if_pos (by simp; omega)] at h4 | rw [if_neg (by simp; omega)] at h4
      refine ⟨(i + 1, _), ⟨by dsimp only; omega, ?_, ?_, h4⟩, by dsimp only; omega, ?_⟩
      ·dsimp only; omega
      ·dsimp only; rw [Int.pow_succ]; omega
      ·
       repeat' first | exact trivial | exact rfl | apply And.intro
    ·rw [show s.drop i = [] by rw [List.drop_eq_nil_iff]; omega, colRun] at h4
     conv => whnf
     refine Fin.num (y := (colR s).1) (c := (colR s).2) ?_; unfold colR; rw [if_pos h36, ← h4]
  ·refine step_loop tab_ok (fun x : Nat × Int => padK [.str ⟨s.toArray⟩, .junk, .junk, .junk, int x.2, int x.1] 40) (fun _ => []) 0 (ColI s) (fun x => s.length - x.1) (0, 0) ⟨by simp, by simp, by simp, rfl⟩ (fun _ => rfl) ?_ ?_
   ·
    repeat' first | exact trivial | exact rfl | apply And.intro
   ·rintro ⟨i, n⟩ ⟨h1, h2, h3, h4⟩
    simp only at h1 h2 h3 h4
    have h5 := p256 i (by omega)
    conv => whnf
    refine Case.dec (fun h0 => ?_) (fun h0 => ?_)
    ·obtain ⟨c, hc⟩ : ∃ c, s[i]? = some c := ⟨_, List.getElem?_eq_getElem (by omega)⟩
     rw [drop_cons' hc, colRun] at h4
     have hx := hex_15 c.toNat
     have hc8 := c.toNat_lt
     conv => whnf
     repeat' first | ((first | refine Case.decF (by assumption) ?_ | refine Byte.mk i c rfl (by simpa using hc) ?_ | refine (hex_spec _).call ⟨rfl, rfl⟩ ?_ | refine Num.id (by omega) (by omega) ?_); conv => whnf) | (refine Case.dec (fun _ => ?_) (fun _ => ?_) <;> conv => whnf)
     ·rw [if_pos (by assumption)] at h4
      refine Fin.num (y := (colR s).1) (c := (colR s).2) ?_; unfold colR; rw [if_pos h36, ← h4]
     ·rw [if_neg (by assumption)] at h4
      first | rw [if_pos (by simp; omega)] at h4 | rw [if_neg (by simp; omega)] at h4
      refine ⟨(i + 1, _), ⟨by dsimp only; omega, ?_, ?_, h4⟩, by dsimp only; omega, ?_⟩
      ·dsimp only; omega
      ·dsimp only; rw [Int.pow_succ]; omega
      ·
       repeat' first | exact trivial | exact rfl | apply And.intro
    ·rw [show s.drop i = [] by rw [List.drop_eq_nil_iff]; omega, colRun] at h4
     conv => whnf
     refine Fin.num (y := (colR s).1) (c := (colR s).2) ?_; unfold colR; rw [if_pos h36, ← h4]
 ·rw [colR_len h36]
  conv => whnf
  repeat' ((first | refine Case.not ?_ | refine Case.decF (by omega) ?_); conv => whnf)
  all_goals first | exact Fin.num rfl | (exfalso; omega)
theorem hexV_hex (c : UInt8) : Giv.hexV c = if hex c.toNat < 0 then none else some (hex c.toNat) := by
 unfold Giv.hexV hex
 have := c.toNat_lt
 repeat' split
 all_goals first | rfl | (exfalso; omega) | (congr 1; omega)
theorem colRun_one : ∀ (l : List UInt8) (n : Int), colRun false l n = Giv.hexL l n
 | [], n => rfl
 | c :: r, n => by
  rw [colRun, Giv.hexL, hexV_hex]
  split
  ·rfl
  ·exact colRun_one r _
theorem colRun_two (a b c : UInt8) (n : Int) : colRun true [a, b, c] n = Giv.hexL [a, a, b, b, c, c] n := by
 simp only [colRun, Giv.hexL, hexV_hex]
 by_cases ha : hex a.toNat < 0
 ·simp [ha]
 by_cases hb : hex b.toNat < 0
 ·simp [ha, hb]
 by_cases hc : hex c.toNat < 0
 ·simp [ha, hb, hc]
 simp [ha, hb, hc]
theorem colorV_other {s : List UInt8} (h3 : ¬ s.length = 3) : Giv.colorV s = if s.length = 6 then (match Giv.hexL s 0 with | some n => ((6 : Int), n, true) | none => ((0 : Int), (0 : Int), false)) else ((0 : Int), (0 : Int), false) := by
 match s, h3 with
 | [], _ => rfl
 | [a], _ => rfl
 | [a, b], _ => rfl
 | [a, b, c], h => exact absurd rfl h
 | a :: b :: c :: d :: r, _ => rfl
theorem color_same (s : List UInt8) : colorW s = if (colR s).2 = true then (6, (colR s).1, true) else (0, 0, false) := by
 unfold colorW
 by_cases h3 : s.length = 3
 ·unfold Giv.colorV colR
  match s, h3 with
  | [a, b, c], _ =>
   simp only [List.length_cons, List.length_nil, decide_true, ← colRun_two]
   cases h : colRun true [a, b, c] 0 <;> simp_all
 ·rw [colorV_other h3]
  unfold colR
  by_cases h6 : s.length = 6
  ·rw [if_pos h6, if_pos (c := s.length = 3 ∨ s.length = 6) (.inr h6), ← colRun_one, decide_eq_false h3]
   cases h : colRun false s 0 with
   | none => rfl
   | some n => rfl
  ·rw [if_neg h6, if_neg (c := s.length = 3 ∨ s.length = 6) (by omega)]
   rfl
theorem key_none {p : Int} {s : List UInt8} (h : Giv.keyV p s = none) : Giv.wordV p s = if (wordV s wideL).2 = true then (7 + ((wordV s wideL).1 : Int), 0, true) else (0, 0, false) := by
 unfold Giv.wordV wideL wordV
 rw [h]
 simp only [wordRun, eq_comm (b := s)]
 repeat' split
 all_goals simp_all
theorem key_some {p : Int} {s : List UInt8} {k n : Int} (h : Giv.keyV p s = some (k, n)) : Giv.wordV p s = if (wordV s wideL).2 = true then (7 + ((wordV s wideL).1 : Int), 0, true) else (k, n, true) := by
 unfold Giv.wordV wideL wordV
 rw [h]
 simp only [wordRun, eq_comm (b := s)]
 repeat' split
 all_goals simp_all
theorem keyV_list (p : Int) (s : List UInt8) : Giv.keyV p s =
  if p = 0 then (if (wordV s colorL).2 = true then some (6, colorN.getD (wordV s colorL).1 0) else none)
  else if p = 2 then (if (wordV s alignL).2 = true then some (1, ((wordV s alignL).1 : Int)) else none)
  else if p = 3 then (if (wordV s dispL).2 = true then some (1, ((wordV s dispL).1 : Int)) else none)
  else if p = 4 ∨ p = 7 then (if (wordV s autoL).2 = true then some (1, ((wordV s autoL).1 : Int)) else none)
  else none := by
 unfold Giv.keyV wordV colorL alignL dispL autoL
 simp only [wordRun, eq_comm (a := s)]
 split
 ·repeat' split
  all_goals first | rfl | (simp_all; done)
 split
 ·repeat' split
  all_goals first | rfl | (simp_all; done)
 split
 ·repeat' split
  all_goals first | rfl | (simp_all; done)
 split
 ·repeat' split
  all_goals first | rfl | (simp_all; done)
 rfl
theorem len_same (k : Tok) : lenW k = lenR k := by
 unfold lenW lenR
 by_cases h7 : k.kind = 7
 ·simp [h7]
 ·simp [h7]
theorem lenR_no {k : Tok} (h7 : ¬ k.kind = 7) (h8 : ¬ k.kind = 8) : lenR k = (0, 0, false) := by
 unfold lenR
 simp [h7, h8]
theorem lenR_n (k : Tok) (h : (lenR k).2.2 = true) : (lenR k).2.1 = k.n := by
 unfold lenR at *
 split at h
 ·rename_i h1; rw [if_pos h1]
 split at h
 ·rename_i h1 h2; rw [if_neg h1, if_pos h2]
 split at h
 ·rename_i h1 h2 h3; rw [if_neg h1, if_neg h2, if_pos h3]
 ·cases h
theorem value_same (p : Int) (k : Tok) (h0 : 0 ≤ p ∧ p < 8) : value1 p k = parse1 p k := by
 unfold value1 parse1
 have hL := len_same k
 by_cases h1 : k.kind = 1
 ·have e7 : lenR k = (0, 0, false) := lenR_no (by omega) (by omega)
  rw [if_pos h1]
  have hk := keyV_list p (lower k.text)
  unfold wordW
  by_cases hw : (wordV (lower k.text) wideL).2 = true
  ·rw [if_pos ⟨h1, hw⟩]
   cases hv : Giv.keyV p (lower k.text) with
   | none => rw [key_none hv, if_pos hw]
   | some v => rw [key_some (k := v.1) (n := v.2) hv, if_pos hw]
  ·rw [if_neg (fun h => hw h.2)]
   have fin : (match Giv.keyV p (lower k.text) with | some (k, n) => (k, n, true) | none => ((0 : Int), (0 : Int), false)) = Giv.wordV p (lower k.text) := by
    cases hv : Giv.keyV p (lower k.text) with
    | none => rw [key_none hv, if_neg hw]
    | some v => rw [key_some (k := v.1) (n := v.2) hv, if_neg hw]
   rw [← fin, hk, e7]
   have : p = 0 ∨ p = 1 ∨ p = 2 ∨ p = 3 ∨ p = 4 ∨ p = 5 ∨ p = 6 ∨ p = 7 := by omega
   rcases this with rfl | rfl | rfl | rfl | rfl | rfl | rfl | rfl
   all_goals (simp [h1, keyR]; try (repeat' split) <;> simp_all)
 ·rw [if_neg (fun h => h1 h.1), if_neg h1]
  have hkr : ∀ l, keyR k l = (0, 0, false) := fun l => by unfold keyR; rw [if_neg h1]
  simp only [hkr, hL, color_same]
  have : p = 0 ∨ p = 1 ∨ p = 2 ∨ p = 3 ∨ p = 4 ∨ p = 5 ∨ p = 6 ∨ p = 7 := by omega
  have hn := lenR_n k
  have h6 : k.kind = 6 → lenR k = (0, 0, false) := fun h => lenR_no (by omega) (by omega)
  have h9 : lenR k = (0, 0, false) ∨ (lenR k).2.2 = true := by
   unfold lenR
   repeat' split
   all_goals simp
  unfold numW
  rcases this with rfl | rfl | rfl | rfl | rfl | rfl | rfl | rfl
  ·simp
   repeat' split
   all_goals simp_all
  ·simp
   by_cases k6 : k.kind = 6
   ·simp [k6, h6 k6]
   ·simp [k6]
    rcases h9 with h9 | h9
    ·simp [h9]
    ·rw [hn h9, h9]; simp
     by_cases hneg : k.n < 0
     ·rw [if_pos hneg, if_neg (by omega)]
     ·rw [if_neg hneg, if_pos (by omega)]
  ·simp
  ·simp
  ·simp
   by_cases k6 : k.kind = 6
   ·simp [k6, h6 k6]
   ·simp [k6]
    rcases h9 with h9 | h9
    ·simp [h9]
    ·rw [hn h9, h9]; simp
     by_cases hneg : k.n < 0
     ·rw [if_pos hneg, if_neg (by omega)]
     ·rw [if_neg hneg, if_pos (by omega)]
  ·simp
   by_cases k6 : k.kind = 6
   ·simp [k6, h6 k6]
   ·simp [k6]
  ·simp
  ·simp
   by_cases k6 : k.kind = 6
   ·simp [k6]
   ·simp [k6]
theorem value_is (p : Int) (t : List Tok) : valueR p t = parseW p t := by
 unfold valueR parseW
 split
 ·match t with
  | [] => rfl
  | [k] => exact value_same _ _ (by assumption)
  | _ :: _ :: _ => rfl
 ·rfl
end Go.Proofs.YtlhegfkpgchaeaaGreatDoor.Aw
