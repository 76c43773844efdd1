/- TokEscapes. -/
import Derived.Test.YtdenafhfngnlfaaDoorXzB
import Derived.Test.YtdenafhfngnlfaaDoorXyQ
import Derived.Test.YtdenafhfngnlfaaDoorXkW
import Derived.Test.YtdenafhfngnlfaaDoorXlG
import Derived.Test.YtdenafhfngnlfaaDoorXrS
namespace Go.Proofs.YtdenafhfngnlfaaDoor.Aw
open Go Go.RowKit Go.Lib
set_option linter.unusedVariables false
set_option linter.unusedSimpArgs false
set_option maxRecDepth 100000
structure HexI (n : Nat) (s : Nat × List UInt8) : Prop where
  len : s.2.length ≤ 6
  lt : s.1 < 16 ^ (6 - s.2.length)
  nil : s.2 = [] → s.1 = n
  app : s.2 ≠ [] → hexU 6 n = (if s.1 = 0 then [] else hexU (6 - s.2.length) s.1) ++ s.2
theorem HexI.next {n m : Nat} {s : List UInt8} (hn : n < 16777216) (h : HexI n (m, s)) (hc : 0 < m ∨ s = []) : HexI n (m / 16, hexC (m % 16) :: s) := by
  obtain ⟨h1, h2, h3, h4⟩ := h
  dsimp only at *
  have hl : s.length < 6 := by
    rcases hc with hc | hc
    · rcases Nat.lt_or_ge s.length 6 with h | h
      · exact h
      · rw [show 6 - s.length = 0 by omega] at h2
        simp at h2
        omega
    · subst hc; simp
  obtain ⟨k, hk⟩ : ∃ k, 6 - s.length = k + 1 := ⟨5 - s.length, by omega⟩
  have hk' : 6 - (hexC (m % 16) :: s).length = k := by simp; omega
  rw [hk] at h2 h4
  refine ⟨by simp; omega, ?_, fun h => (by cases h), fun _ => ?_⟩
  · dsimp only
    rw [hk', Nat.div_lt_iff_lt_mul (by omega)]
    rw [Nat.pow_succ] at h2
    exact h2
  · dsimp only
    rw [hk']
    have step : (if m = 0 ∧ s ≠ [] then [] else hexU (k + 1) m) ++ s = (if m / 16 = 0 then [] else hexU k (m / 16)) ++ hexC (m % 16) :: s := by
      rw [if_neg (by rcases hc with hc | hc; · omega
                     · exact fun h => h.2 hc)]
      rw [show hexU (k + 1) m = if m < 16 then [hexC m] else hexU k (m / 16) ++ [hexC (m % 16)] from rfl]
      split
      · rename_i h16
        rw [if_pos (by omega), Nat.mod_eq_of_lt h16]
        rfl
      · rename_i h16
        rw [if_neg (by omega)]
        simp
    rw [← step]
    by_cases hs : s = []
    · subst hs
      have e := h3 rfl
      subst e
      rw [if_neg (by simp)]
      have : k = 5 := by simp at hk; omega
      subst this
      simp
    · rw [h4 hs]
      by_cases hm0 : m = 0
      · rw [if_pos hm0, if_pos ⟨hm0, hs⟩]
      · rw [if_neg hm0, if_neg (fun h => hm0 h.1)]
theorem HexI.done {n : Nat} {s : List UInt8} (h : HexI n (0, s)) (hs : s ≠ []) : s = hexU 6 n := by
  have := h.app hs
  simpa using this.symm
theorem hex_cut : ∀ d : _root_.Fin 16, (([48, 49, 50, 51, 52, 53, 54, 55, 56, 57, 97, 98, 99, 100, 101, 102] : List UInt8).take (d.val + 1)).drop d.val = [hexC d.val] := by decide +kernel
theorem hex_sl (d : Nat) (h : d < 16) : (⟨#[48, 49, 50, 51, 52, 53, 54, 55, 56, 57, 97, 98, 99, 100, 101, 102]⟩ : ByteArray).extract d (d + 1) = ⟨#[hexC d]⟩ := by
  have := hex_cut ⟨d, h⟩
  simp only at this
  rw [show (⟨#[48, 49, 50, 51, 52, 53, 54, 55, 56, 57, 97, 98, 99, 100, 101, 102]⟩ : ByteArray) = ⟨([48, 49, 50, 51, 52, 53, 54, 55, 56, 57, 97, 98, 99, 100, 101, 102] : List UInt8).toArray⟩ from rfl, ext_mk, this]
set_option maxHeartbeats 4000000 in
theorem escapes_spec (n : Int) (hn : -9223372036854775808 ≤ n ∧ n < 9223372036854775808) (blank : Bool) : Pure 7 [int n, bool blank] (bool true) := by
  refine ⟨trivial, spec_mk tab_ok Tryd.func7 (by rfl) rfl ?_⟩
  conv => whnf
  repeat' first
    | (refine Case.not ?_; conv => whnf)
    | (refine Case.yes ?_; conv => whnf)
    | (refine Case.no ?_; conv => whnf)
    | (refine Case.isTrue (by assumption) ?_; conv => whnf)
    | (refine Case.isFalse (by assumption) ?_; conv => whnf)
    | (refine Case.decT (by assumption) ?_; conv => whnf)
    | (refine Case.decF (by assumption) ?_; conv => whnf)
    | (refine Case.decT (by omega) ?_; conv => whnf)
    | (refine Case.decF (by omega) ?_; conv => whnf)
    | (refine Case.beqT (by omega) ?_; conv => whnf)
    | (refine Case.beqF (by omega) ?_; conv => whnf)
    | (refine Case.strT (by assumption) ?_; conv => whnf)
    | (refine Case.strF (by assumption) ?_; conv => whnf)
    | (refine Case.strF (by simp only [*]; decide) ?_; conv => whnf)
    | (refine alive4_spec.call rfl ?_; conv => whnf)
    | (refine step_kinds 2 ?hk ?_; (case hk => decide +kernel); conv => whnf)
    | (refine step_kinds 3 ?hk ?_; (case hk => decide +kernel); conv => whnf)
    | (refine step_auto 2 ?hk ?_; (case hk => decide +kernel); conv => whnf)
    | (refine step_auto 3 ?hk ?_; (case hk => decide +kernel); conv => whnf)
    | (refine Num.id (by omega) (by omega) ?_; conv => whnf)
    | (refine Case.strI (fun _ => ?_) (fun _ => ?_) <;> conv => whnf)
    | (refine Both.mk ?_ ?_ <;> conv => whnf)
    | (refine Case.dec (fun _ => ?_) (fun _ => ?_) <;> conv => whnf)
    | (refine Case.beqI (fun _ => ?_) (fun _ => ?_) <;> conv => whnf)
    | (refine Case.mk (fun _ => ?_) (fun _ => ?_) <;> conv => whnf)
    | (refine Way.fst ?_; conv => whnf)
  · exact Fin.isB rfl
  · exact Fin.isB rfl
  · obtain ⟨n, rfl⟩ : ∃ m : Nat, n = m := ⟨n.toNat, by omega⟩
    have hn1 : n < 16777216 := by omega
    refine step_loop tab_ok (fun s : Nat × List UInt8 => padK [int n, bool blank, .junk, .junk, .junk, bool true, .str ⟨s.2.toArray⟩, int s.1] 96) (fun _ => []) 0 (HexI n) (fun s => s.1 + (if s.2 = [] then 1 else 0)) (n, []) ⟨by simp, by simpa using hn1, fun _ => rfl, fun h => absurd rfl h⟩ (fun _ => rfl) ?_ ?_
    ·
      repeat' first | exact trivial | exact rfl | exact Nat.zero_le _ | exact Nat.zero_lt_succ _ | exact (by decide : (0 : Nat) < 1) | exact (by decide : (1 : Nat) < 4) | exact (by decide : (2 : Nat) < 4) | exact (by decide : (3 : Nat) < 4) | exact (by decide : (1 : Nat) < 2) | exact (by decide : (2 : Nat) < 3) | exact congrArg int (by (try dsimp only); omega) | exact congrArg bool (by (try dsimp only); simp; omega) | (show _ < List.length _; simp; done) | apply And.intro
    · rintro ⟨m, s⟩ hI
      have hml : m < 16777216 := by
        have := hI.lt
        dsimp only at this
        have h16 : (16 : Nat) ^ (6 - s.length) ≤ 16 ^ 6 := Nat.pow_le_pow_right (by omega) (by omega)
        have : (16 : Nat) ^ 6 = 16777216 := by decide
        omega
      have hsl := hI.len
      dsimp only at hsl ⊢
      have h15 : ∀ {K : Int → Prop}, K ((m % 16 : Nat) : Int) → Num .i64 (andI .i64 (m : Int) 15) K := fun h => Num.mask (q := 16) 4 (by omega) (by omega) (by omega) rfl rfl (by rw [show (m : Int) % 16 = ((m % 16 : Nat) : Int) by omega]; exact h)
      have hsz : (⟨s.toArray⟩ : ByteArray).size = s.length := rfl
      conv => whnf
      by_cases hc : 0 < m ∨ s = []
      · have hN := hI.next hn1 hc
        have hcut := hex_sl (m % 16) (Nat.mod_lt _ (by omega))
        have hsh : shrI .i64 (m : Int) 4 = ((m / 16 : Nat) : Int) := (shr_eq (c := (m : Int)) 4 (by omega)).trans (by rw [show (2 : Int) ^ 4 = 16 by decide]; omega)
        have hx : (⟨#[48, 49, 50, 51, 52, 53, 54, 55, 56, 57, 97, 98, 99, 100, 101, 102]⟩ : ByteArray).extract ((m % 16 : Nat) : Int).toNat (((m % 16 : Nat) : Int) + 1).toNat ++ ⟨s.toArray⟩ = ⟨(hexC (m % 16) :: s).toArray⟩ := by
          rw [Int.toNat_natCast, show (((m % 16 : Nat) : Int) + 1).toNat = m % 16 + 1 by omega, hcut]
          apply ByteArray.ext
          simp
        have hcut' : ((⟨#[48, 49, 50, 51, 52, 53, 54, 55, 56, 57, 97, 98, 99, 100, 101, 102]⟩ : ByteArray).extract ((m % 16 : Nat) : Int).toNat (((m % 16 : Nat) : Int) + 1).toNat).size = 1 := by
          rw [Int.toNat_natCast, show (((m % 16 : Nat) : Int) + 1).toNat = m % 16 + 1 by omega, hcut]
          rfl
        by_cases hm : 0 < m
        ·
          repeat' first
            | (refine Case.not ?_; conv => whnf)
            | (refine Case.yes ?_; conv => whnf)
            | (refine Case.no ?_; conv => whnf)
            | (refine Case.isTrue (by assumption) ?_; conv => whnf)
            | (refine Case.isFalse (by assumption) ?_; conv => whnf)
            | (refine Case.decT (by assumption) ?_; conv => whnf)
            | (refine Case.decF (by assumption) ?_; conv => whnf)
            | (refine Case.decT (by omega) ?_; conv => whnf)
            | (refine Case.decF (by omega) ?_; conv => whnf)
            | (refine Case.beqT (by omega) ?_; conv => whnf)
            | (refine Case.beqF (by omega) ?_; conv => whnf)
            | (refine Case.strT (by assumption) ?_; conv => whnf)
            | (refine Case.strF (by assumption) ?_; conv => whnf)
            | (refine Case.strF (by simp only [*]; decide) ?_; conv => whnf)
            | (refine h15 ?_; conv => whnf)
            | (refine Owes.mk (by decide) ?_; conv => whnf)
            | (refine Owes.mk ⟨by omega, by omega, by show _ ≤ (16 : Int); omega⟩ ?_; conv => whnf)
            | (refine Owes.mk (by rw [hsz, hcut']; omega) ?_; conv => whnf)
            | (refine step_kinds 2 ?hk ?_; (case hk => decide +kernel); conv => whnf)
            | (refine step_kinds 3 ?hk ?_; (case hk => decide +kernel); conv => whnf)
            | (refine step_auto 2 ?hk ?_; (case hk => decide +kernel); conv => whnf)
            | (refine step_auto 3 ?hk ?_; (case hk => decide +kernel); conv => whnf)
            | (refine Num.id (by omega) (by omega) ?_; conv => whnf)
            | (refine Case.strI (fun _ => ?_) (fun _ => ?_) <;> conv => whnf)
            | (refine Both.mk ?_ ?_ <;> conv => whnf)
            | (refine Case.dec (fun _ => ?_) (fun _ => ?_) <;> conv => whnf)
            | (refine Case.beqI (fun _ => ?_) (fun _ => ?_) <;> conv => whnf)
            | (refine Case.mk (fun _ => ?_) (fun _ => ?_) <;> conv => whnf)
            | (refine Way.fst ?_; conv => whnf)
          rw [hx, hsh]
          refine ⟨(m / 16, hexC (m % 16) :: s), hN, by dsimp only; rw [if_neg (by simp)]; omega, ?_⟩
          repeat' first | exact trivial | exact rfl | exact Nat.zero_le _ | exact Nat.zero_lt_succ _ | exact (by decide : (0 : Nat) < 1) | exact (by decide : (1 : Nat) < 4) | exact (by decide : (2 : Nat) < 4) | exact (by decide : (3 : Nat) < 4) | exact (by decide : (1 : Nat) < 2) | exact (by decide : (2 : Nat) < 3) | exact congrArg int (by (try dsimp only); omega) | exact congrArg bool (by (try dsimp only); simp; omega) | (show _ < List.length _; simp; done) | apply And.intro
        · have hs : s = [] := by rcases hc with h | h; · omega
                                 · exact h
          subst hs
          obtain rfl : m = 0 := by omega
          repeat' first
            | (refine Case.not ?_; conv => whnf)
            | (refine Case.yes ?_; conv => whnf)
            | (refine Case.no ?_; conv => whnf)
            | (refine Case.isTrue (by assumption) ?_; conv => whnf)
            | (refine Case.isFalse (by assumption) ?_; conv => whnf)
            | (refine Case.decT (by assumption) ?_; conv => whnf)
            | (refine Case.decF (by assumption) ?_; conv => whnf)
            | (refine Case.decT (by omega) ?_; conv => whnf)
            | (refine Case.decF (by omega) ?_; conv => whnf)
            | (refine Case.beqT (by omega) ?_; conv => whnf)
            | (refine Case.beqF (by omega) ?_; conv => whnf)
            | (refine Case.strT (by assumption) ?_; conv => whnf)
            | (refine Case.strF (by assumption) ?_; conv => whnf)
            | (refine Case.strF (by simp only [*]; decide) ?_; conv => whnf)
            | (refine h15 ?_; conv => whnf)
            | (refine Owes.mk (by decide) ?_; conv => whnf)
            | (refine Owes.mk ⟨by omega, by omega, by show _ ≤ (16 : Int); omega⟩ ?_; conv => whnf)
            | (refine Owes.mk (by rw [hsz, hcut']; show (1 + 0 : Nat) ≤ _; omega) ?_; conv => whnf)
            | (refine Case.strT rfl ?_; conv => whnf)
            | (refine step_kinds 2 ?hk ?_; (case hk => decide +kernel); conv => whnf)
            | (refine step_kinds 3 ?hk ?_; (case hk => decide +kernel); conv => whnf)
            | (refine step_auto 2 ?hk ?_; (case hk => decide +kernel); conv => whnf)
            | (refine step_auto 3 ?hk ?_; (case hk => decide +kernel); conv => whnf)
            | (refine Num.id (by omega) (by omega) ?_; conv => whnf)
            | (refine Case.strI (fun _ => ?_) (fun _ => ?_) <;> conv => whnf)
            | (refine Both.mk ?_ ?_ <;> conv => whnf)
            | (refine Case.dec (fun _ => ?_) (fun _ => ?_) <;> conv => whnf)
            | (refine Case.beqI (fun _ => ?_) (fun _ => ?_) <;> conv => whnf)
            | (refine Case.mk (fun _ => ?_) (fun _ => ?_) <;> conv => whnf)
            | (refine Way.fst ?_; conv => whnf)
          rw [hx, hsh]
          refine ⟨(0 / 16, hexC (0 % 16) :: []), hN, by simp, ?_⟩
          repeat' first | exact trivial | exact rfl | exact Nat.zero_le _ | exact Nat.zero_lt_succ _ | exact (by decide : (0 : Nat) < 1) | exact (by decide : (1 : Nat) < 4) | exact (by decide : (2 : Nat) < 4) | exact (by decide : (3 : Nat) < 4) | exact (by decide : (1 : Nat) < 2) | exact (by decide : (2 : Nat) < 3) | exact congrArg int (by (try dsimp only); omega) | exact congrArg bool (by (try dsimp only); simp; omega) | (show _ < List.length _; simp; done) | apply And.intro
      · obtain ⟨hm0, hs0⟩ : m = 0 ∧ s ≠ [] := ⟨by omega, fun h => hc (.inr h)⟩
        subst hm0
        have hsU := hI.done hs0
        have q0 := law_esc n (by have : (16 : Nat) ^ 6 = 16777216 := by decide
                                 omega) blank
        clear hI h15 hc
        have key : ∀ (c : Int), c = escC n → ∀ (S W : ByteArray), S.data.toList = escT n blank → W = ⟨(escW n blank).toArray⟩ →
            Val 14 [.f (.sl (S.data.toList.map byteRow))] (.f (.sl ([({ kind := 1, text := escW n blank } : Tok)].map tokRow))) ∧
            Val 14 [.f (.sl ((⟨#[34]⟩ ++ S ++ ⟨#[34]⟩ : ByteArray).data.toList.map byteRow))] (.f (.sl ([({ kind := 4, text := escW n blank } : Tok)].map tokRow))) ∧
            Pure 13 [.f (.sl ([({ kind := 1, text := escW n blank } : Tok)].map tokRow)), .f (.sl [[.v (.int .i64 1), .v (.string W), .v (.int .i64 0), .v (.bool false), .v (.int .i64 0)]])] (bool true) ∧
            Pure 13 [.f (.sl ([({ kind := 4, text := escW n blank } : Tok)].map tokRow)), .f (.sl [[.v (.int .i64 4), .v (.string W), .v (.int .i64 0), .v (.bool false), .v (.int .i64 0)]])] (bool true) := by
          intro c hc S W hS hW
          have hlT : (escT n blank).length ≤ 20 := by
            have := hexU_len 6 n
            unfold escT
            simp
            (repeat' split) <;> simp <;> omega
          have o1 := of4_val (escT n blank) (by omega)
          have o2 := of4_val (34 :: (escT n blank ++ [34])) (by simp; omega)
          rw [show ofB (escT n blank) = _ from q0.1] at o1
          rw [show ofB (34 :: (escT n blank ++ [34])) = _ from q0.2] at o2
          refine ⟨by rw [hS]; exact o1, ?_, ?_, ?_⟩
          · rw [show (⟨#[34]⟩ ++ S ++ ⟨#[34]⟩ : ByteArray).data.toList = 34 :: (escT n blank ++ [34]) by simp [← hS]]
            exact o2
          · rw [hW]; exact sameTokens_spec [{ kind := 1, text := escW n blank }] (by simp)
          · rw [hW]; exact sameTokens_spec [{ kind := 4, text := escW n blank }] (by simp)
        clear q0
        have hbl := putB_le (escC n)
        have z1 : (⟨(putB (escC n)).toArray⟩ : ByteArray).size = (putB (escC n)).length := rfl
        rw [hsU] at hsz hs0 ⊢
        have hxl := hexU_len 6 n
        have hrb : Val 16 [.f (.sl (ptsF [escC n]))] (.f (.sl ((putB (escC n)).map byteRow))) := by
          have := rbytes_val [escC n] (by simp)
          rwa [show bytesOf [escC n] = putB (escC n) by simp [bytesOf]] at this
        rcases blank with _ | _
        · by_cases h6 : (hexU 6 n).length < 6
          ·
            obtain ⟨o1, o2, p1, p2⟩ := key _ rfl (⟨#[92]⟩ ++ ⟨(hexU 6 n).toArray⟩ ++ ⟨#[32]⟩ ++ ⟨#[103]⟩) (⟨(putB (escC n)).toArray⟩ ++ ⟨#[103]⟩) (by simp [escT, h6]) (by apply ByteArray.ext; simp [escW])
            clear key
            by_cases hb : n = 0 ∨ n > 1114111 ∨ (55296 ≤ n ∧ n ≤ 57343)
            · have hc : escC n = 65533 := by unfold escC; rw [if_pos hb]
              rw [hc] at hrb p1 p2 hbl z1
              rcases hb with hb | hb | hb
              all_goals
                repeat' first
                  | (refine Case.not ?_; conv => whnf)
                  | (refine Case.yes ?_; conv => whnf)
                  | (refine Case.no ?_; conv => whnf)
                  | (refine Case.isTrue (by assumption) ?_; conv => whnf)
                  | (refine Case.isFalse (by assumption) ?_; conv => whnf)
                  | (refine Case.decT (by assumption) ?_; conv => whnf)
                  | (refine Case.decF (by assumption) ?_; conv => whnf)
                  | (refine Case.decT (by omega) ?_; conv => whnf)
                  | (refine Case.decF (by omega) ?_; conv => whnf)
                  | (refine Case.beqT (by omega) ?_; conv => whnf)
                  | (refine Case.beqF (by omega) ?_; conv => whnf)
                  | (refine Case.strT (by assumption) ?_; conv => whnf)
                  | (refine Case.strF (by assumption) ?_; conv => whnf)
                  | (refine Case.strF (by simp only [*]; decide) ?_; conv => whnf)
                  | (refine hrb.callO ?_; conv => whnf)
                  | (refine AsBytes.mk _ rfl ?_; conv => whnf)
                  | (refine o1.call ?_; conv => whnf)
                  | (refine o2.call ?_; conv => whnf)
                  | (refine p1.call ⟨rfl, rfl, rfl⟩ ?_; conv => whnf)
                  | (refine p2.call ⟨rfl, rfl, rfl⟩ ?_; conv => whnf)
                  | (refine p1.callB ⟨rfl, rfl, rfl⟩ ?_; conv => whnf)
                  | (refine p2.callB ⟨rfl, rfl, rfl⟩ ?_; conv => whnf)
                  | (refine Owes.mk (by first | (simp only [ByteArray.size_append, ByteArray.size_extract, bszB, List.size_toArray, List.length_cons, List.length_nil, List.length_append, List.length_map]; omega) | (simp only [ByteArray.size_append, bszB, List.size_toArray, List.length_cons, List.length_nil]; done) | fail "x") ?_; conv => whnf)
                  | (refine step_kinds 2 ?hk ?_; (case hk => decide +kernel); conv => whnf)
                  | (refine step_kinds 3 ?hk ?_; (case hk => decide +kernel); conv => whnf)
                  | (refine step_auto 2 ?hk ?_; (case hk => decide +kernel); conv => whnf)
                  | (refine step_auto 3 ?hk ?_; (case hk => decide +kernel); conv => whnf)
                  | (refine Num.id (by omega) (by omega) ?_; conv => whnf)
                  | (refine Case.strI (fun _ => ?_) (fun _ => ?_) <;> conv => whnf)
                  | (refine Both.mk ?_ ?_ <;> conv => whnf)
                  | (refine Case.dec (fun _ => ?_) (fun _ => ?_) <;> conv => whnf)
                  | (refine Case.beqI (fun _ => ?_) (fun _ => ?_) <;> conv => whnf)
                  | (refine Case.mk (fun _ => ?_) (fun _ => ?_) <;> conv => whnf)
                  | (refine Way.fst ?_; conv => whnf)
              all_goals exact Fin.isB rfl
            · have hc : escC n = n := by unfold escC; rw [if_neg hb]
              rw [hc] at hrb p1 p2 hbl z1
              have hb' : (0 < n ∧ n < 55296) ∨ (57343 < n ∧ n ≤ 1114111) := by omega
              clear hb
              rcases hb' with hb | hb
              all_goals
                repeat' first
                  | (refine Case.not ?_; conv => whnf)
                  | (refine Case.yes ?_; conv => whnf)
                  | (refine Case.no ?_; conv => whnf)
                  | (refine Case.isTrue (by assumption) ?_; conv => whnf)
                  | (refine Case.isFalse (by assumption) ?_; conv => whnf)
                  | (refine Case.decT (by assumption) ?_; conv => whnf)
                  | (refine Case.decF (by assumption) ?_; conv => whnf)
                  | (refine Case.decT (by omega) ?_; conv => whnf)
                  | (refine Case.decF (by omega) ?_; conv => whnf)
                  | (refine Case.beqT (by omega) ?_; conv => whnf)
                  | (refine Case.beqF (by omega) ?_; conv => whnf)
                  | (refine Case.strT (by assumption) ?_; conv => whnf)
                  | (refine Case.strF (by assumption) ?_; conv => whnf)
                  | (refine Case.strF (by simp only [*]; decide) ?_; conv => whnf)
                  | (refine hrb.callO ?_; conv => whnf)
                  | (refine AsBytes.mk _ rfl ?_; conv => whnf)
                  | (refine o1.call ?_; conv => whnf)
                  | (refine o2.call ?_; conv => whnf)
                  | (refine p1.call ⟨rfl, rfl, rfl⟩ ?_; conv => whnf)
                  | (refine p2.call ⟨rfl, rfl, rfl⟩ ?_; conv => whnf)
                  | (refine p1.callB ⟨rfl, rfl, rfl⟩ ?_; conv => whnf)
                  | (refine p2.callB ⟨rfl, rfl, rfl⟩ ?_; conv => whnf)
                  | (refine Owes.mk (by first | (simp only [ByteArray.size_append, ByteArray.size_extract, bszB, List.size_toArray, List.length_cons, List.length_nil, List.length_append, List.length_map]; omega) | (simp only [ByteArray.size_append, bszB, List.size_toArray, List.length_cons, List.length_nil]; done) | fail "x") ?_; conv => whnf)
                  | (refine step_kinds 2 ?hk ?_; (case hk => decide +kernel); conv => whnf)
                  | (refine step_kinds 3 ?hk ?_; (case hk => decide +kernel); conv => whnf)
                  | (refine step_auto 2 ?hk ?_; (case hk => decide +kernel); conv => whnf)
                  | (refine step_auto 3 ?hk ?_; (case hk => decide +kernel); conv => whnf)
                  | (refine Num.id (by omega) (by omega) ?_; conv => whnf)
                  | (refine Case.strI (fun _ => ?_) (fun _ => ?_) <;> conv => whnf)
                  | (refine Both.mk ?_ ?_ <;> conv => whnf)
                  | (refine Case.dec (fun _ => ?_) (fun _ => ?_) <;> conv => whnf)
                  | (refine Case.beqI (fun _ => ?_) (fun _ => ?_) <;> conv => whnf)
                  | (refine Case.mk (fun _ => ?_) (fun _ => ?_) <;> conv => whnf)
                  | (refine Way.fst ?_; conv => whnf)
              all_goals exact Fin.isB rfl
          ·
            obtain ⟨o1, o2, p1, p2⟩ := key _ rfl (⟨#[92]⟩ ++ ⟨(hexU 6 n).toArray⟩ ++ ⟨#[103]⟩) (⟨(putB (escC n)).toArray⟩ ++ ⟨#[103]⟩) (by simp [escT, h6]) (by apply ByteArray.ext; simp [escW])
            clear key
            by_cases hb : n = 0 ∨ n > 1114111 ∨ (55296 ≤ n ∧ n ≤ 57343)
            · have hc : escC n = 65533 := by unfold escC; rw [if_pos hb]
              rw [hc] at hrb p1 p2 hbl z1
              rcases hb with hb | hb | hb
              all_goals
                repeat' first
                  | (refine Case.not ?_; conv => whnf)
                  | (refine Case.yes ?_; conv => whnf)
                  | (refine Case.no ?_; conv => whnf)
                  | (refine Case.isTrue (by assumption) ?_; conv => whnf)
                  | (refine Case.isFalse (by assumption) ?_; conv => whnf)
                  | (refine Case.decT (by assumption) ?_; conv => whnf)
                  | (refine Case.decF (by assumption) ?_; conv => whnf)
                  | (refine Case.decT (by omega) ?_; conv => whnf)
                  | (refine Case.decF (by omega) ?_; conv => whnf)
                  | (refine Case.beqT (by omega) ?_; conv => whnf)
                  | (refine Case.beqF (by omega) ?_; conv => whnf)
                  | (refine Case.strT (by assumption) ?_; conv => whnf)
                  | (refine Case.strF (by assumption) ?_; conv => whnf)
                  | (refine Case.strF (by simp only [*]; decide) ?_; conv => whnf)
                  | (refine hrb.callO ?_; conv => whnf)
                  | (refine AsBytes.mk _ rfl ?_; conv => whnf)
                  | (refine o1.call ?_; conv => whnf)
                  | (refine o2.call ?_; conv => whnf)
                  | (refine p1.call ⟨rfl, rfl, rfl⟩ ?_; conv => whnf)
                  | (refine p2.call ⟨rfl, rfl, rfl⟩ ?_; conv => whnf)
                  | (refine p1.callB ⟨rfl, rfl, rfl⟩ ?_; conv => whnf)
                  | (refine p2.callB ⟨rfl, rfl, rfl⟩ ?_; conv => whnf)
                  | (refine Owes.mk (by first | (simp only [ByteArray.size_append, ByteArray.size_extract, bszB, List.size_toArray, List.length_cons, List.length_nil, List.length_append, List.length_map]; omega) | (simp only [ByteArray.size_append, bszB, List.size_toArray, List.length_cons, List.length_nil]; done) | fail "x") ?_; conv => whnf)
                  | (refine step_kinds 2 ?hk ?_; (case hk => decide +kernel); conv => whnf)
                  | (refine step_kinds 3 ?hk ?_; (case hk => decide +kernel); conv => whnf)
                  | (refine step_auto 2 ?hk ?_; (case hk => decide +kernel); conv => whnf)
                  | (refine step_auto 3 ?hk ?_; (case hk => decide +kernel); conv => whnf)
                  | (refine Num.id (by omega) (by omega) ?_; conv => whnf)
                  | (refine Case.strI (fun _ => ?_) (fun _ => ?_) <;> conv => whnf)
                  | (refine Both.mk ?_ ?_ <;> conv => whnf)
                  | (refine Case.dec (fun _ => ?_) (fun _ => ?_) <;> conv => whnf)
                  | (refine Case.beqI (fun _ => ?_) (fun _ => ?_) <;> conv => whnf)
                  | (refine Case.mk (fun _ => ?_) (fun _ => ?_) <;> conv => whnf)
                  | (refine Way.fst ?_; conv => whnf)
              all_goals exact Fin.isB rfl
            · have hc : escC n = n := by unfold escC; rw [if_neg hb]
              rw [hc] at hrb p1 p2 hbl z1
              have hb' : (0 < n ∧ n < 55296) ∨ (57343 < n ∧ n ≤ 1114111) := by omega
              clear hb
              rcases hb' with hb | hb
              all_goals
                repeat' first
                  | (refine Case.not ?_; conv => whnf)
                  | (refine Case.yes ?_; conv => whnf)
                  | (refine Case.no ?_; conv => whnf)
                  | (refine Case.isTrue (by assumption) ?_; conv => whnf)
                  | (refine Case.isFalse (by assumption) ?_; conv => whnf)
                  | (refine Case.decT (by assumption) ?_; conv => whnf)
                  | (refine Case.decF (by assumption) ?_; conv => whnf)
                  | (refine Case.decT (by omega) ?_; conv => whnf)
                  | (refine Case.decF (by omega) ?_; conv => whnf)
                  | (refine Case.beqT (by omega) ?_; conv => whnf)
                  | (refine Case.beqF (by omega) ?_; conv => whnf)
                  | (refine Case.strT (by assumption) ?_; conv => whnf)
                  | (refine Case.strF (by assumption) ?_; conv => whnf)
                  | (refine Case.strF (by simp only [*]; decide) ?_; conv => whnf)
                  | (refine hrb.callO ?_; conv => whnf)
                  | (refine AsBytes.mk _ rfl ?_; conv => whnf)
                  | (refine o1.call ?_; conv => whnf)
                  | (refine o2.call ?_; conv => whnf)
                  | (refine p1.call ⟨rfl, rfl, rfl⟩ ?_; conv => whnf)
                  | (refine p2.call ⟨rfl, rfl, rfl⟩ ?_; conv => whnf)
                  | (refine p1.callB ⟨rfl, rfl, rfl⟩ ?_; conv => whnf)
                  | (refine p2.callB ⟨rfl, rfl, rfl⟩ ?_; conv => whnf)
                  | (refine Owes.mk (by first | (simp only [ByteArray.size_append, ByteArray.size_extract, bszB, List.size_toArray, List.length_cons, List.length_nil, List.length_append, List.length_map]; omega) | (simp only [ByteArray.size_append, bszB, List.size_toArray, List.length_cons, List.length_nil]; done) | fail "x") ?_; conv => whnf)
                  | (refine step_kinds 2 ?hk ?_; (case hk => decide +kernel); conv => whnf)
                  | (refine step_kinds 3 ?hk ?_; (case hk => decide +kernel); conv => whnf)
                  | (refine step_auto 2 ?hk ?_; (case hk => decide +kernel); conv => whnf)
                  | (refine step_auto 3 ?hk ?_; (case hk => decide +kernel); conv => whnf)
                  | (refine Num.id (by omega) (by omega) ?_; conv => whnf)
                  | (refine Case.strI (fun _ => ?_) (fun _ => ?_) <;> conv => whnf)
                  | (refine Both.mk ?_ ?_ <;> conv => whnf)
                  | (refine Case.dec (fun _ => ?_) (fun _ => ?_) <;> conv => whnf)
                  | (refine Case.beqI (fun _ => ?_) (fun _ => ?_) <;> conv => whnf)
                  | (refine Case.mk (fun _ => ?_) (fun _ => ?_) <;> conv => whnf)
                  | (refine Way.fst ?_; conv => whnf)
              all_goals exact Fin.isB rfl
        ·
          obtain ⟨o1, o2, p1, p2⟩ := key _ rfl (⟨#[92]⟩ ++ ⟨(hexU 6 n).toArray⟩ ++ ⟨#[32]⟩) (⟨(putB (escC n)).toArray⟩ ++ ⟨#[]⟩) (by simp [escT]) (by apply ByteArray.ext; simp [escW])
          clear key
          by_cases hb : n = 0 ∨ n > 1114111 ∨ (55296 ≤ n ∧ n ≤ 57343)
          · have hc : escC n = 65533 := by unfold escC; rw [if_pos hb]
            rw [hc] at hrb p1 p2 hbl z1
            rcases hb with hb | hb | hb
            all_goals
              repeat' first
                | (refine Case.not ?_; conv => whnf)
                | (refine Case.yes ?_; conv => whnf)
                | (refine Case.no ?_; conv => whnf)
                | (refine Case.isTrue (by assumption) ?_; conv => whnf)
                | (refine Case.isFalse (by assumption) ?_; conv => whnf)
                | (refine Case.decT (by assumption) ?_; conv => whnf)
                | (refine Case.decF (by assumption) ?_; conv => whnf)
                | (refine Case.decT (by omega) ?_; conv => whnf)
                | (refine Case.decF (by omega) ?_; conv => whnf)
                | (refine Case.beqT (by omega) ?_; conv => whnf)
                | (refine Case.beqF (by omega) ?_; conv => whnf)
                | (refine Case.strT (by assumption) ?_; conv => whnf)
                | (refine Case.strF (by assumption) ?_; conv => whnf)
                | (refine Case.strF (by simp only [*]; decide) ?_; conv => whnf)
                | (refine hrb.callO ?_; conv => whnf)
                | (refine AsBytes.mk _ rfl ?_; conv => whnf)
                | (refine o1.call ?_; conv => whnf)
                | (refine o2.call ?_; conv => whnf)
                | (refine p1.call ⟨rfl, rfl, rfl⟩ ?_; conv => whnf)
                | (refine p2.call ⟨rfl, rfl, rfl⟩ ?_; conv => whnf)
                | (refine p1.callB ⟨rfl, rfl, rfl⟩ ?_; conv => whnf)
                | (refine p2.callB ⟨rfl, rfl, rfl⟩ ?_; conv => whnf)
                | (refine Owes.mk (by first | (simp only [ByteArray.size_append, ByteArray.size_extract, bszB, List.size_toArray, List.length_cons, List.length_nil, List.length_append, List.length_map]; omega) | (simp only [ByteArray.size_append, bszB, List.size_toArray, List.length_cons, List.length_nil]; done) | fail "x") ?_; conv => whnf)
                | (refine step_kinds 2 ?hk ?_; (case hk => decide +kernel); conv => whnf)
                | (refine step_kinds 3 ?hk ?_; (case hk => decide +kernel); conv => whnf)
                | (refine step_auto 2 ?hk ?_; (case hk => decide +kernel); conv => whnf)
                | (refine step_auto 3 ?hk ?_; (case hk => decide +kernel); conv => whnf)
                | (refine Num.id (by omega) (by omega) ?_; conv => whnf)
                | (refine Case.strI (fun _ => ?_) (fun _ => ?_) <;> conv => whnf)
                | (refine Both.mk ?_ ?_ <;> conv => whnf)
                | (refine Case.dec (fun _ => ?_) (fun _ => ?_) <;> conv => whnf)
                | (refine Case.beqI (fun _ => ?_) (fun _ => ?_) <;> conv => whnf)
                | (refine Case.mk (fun _ => ?_) (fun _ => ?_) <;> conv => whnf)
                | (refine Way.fst ?_; conv => whnf)
            all_goals exact Fin.isB rfl
          · have hc : escC n = n := by unfold escC; rw [if_neg hb]
            rw [hc] at hrb p1 p2 hbl z1
            have hb' : (0 < n ∧ n < 55296) ∨ (57343 < n ∧ n ≤ 1114111) := by omega
            clear hb
            rcases hb' with hb | hb
            all_goals
              repeat' first
                | (refine Case.not ?_; conv => whnf)
                | (refine Case.yes ?_; conv => whnf)
                | (refine Case.no ?_; conv => whnf)
                | (refine Case.isTrue (by assumption) ?_; conv => whnf)
                | (refine Case.isFalse (by assumption) ?_; conv => whnf)
                | (refine Case.decT (by assumption) ?_; conv => whnf)
                | (refine Case.decF (by assumption) ?_; conv => whnf)
                | (refine Case.decT (by omega) ?_; conv => whnf)
                | (refine Case.decF (by omega) ?_; conv => whnf)
                | (refine Case.beqT (by omega) ?_; conv => whnf)
                | (refine Case.beqF (by omega) ?_; conv => whnf)
                | (refine Case.strT (by assumption) ?_; conv => whnf)
                | (refine Case.strF (by assumption) ?_; conv => whnf)
                | (refine Case.strF (by simp only [*]; decide) ?_; conv => whnf)
                | (refine hrb.callO ?_; conv => whnf)
                | (refine AsBytes.mk _ rfl ?_; conv => whnf)
                | (refine o1.call ?_; conv => whnf)
                | (refine o2.call ?_; conv => whnf)
                | (refine p1.call ⟨rfl, rfl, rfl⟩ ?_; conv => whnf)
                | (refine p2.call ⟨rfl, rfl, rfl⟩ ?_; conv => whnf)
                | (refine p1.callB ⟨rfl, rfl, rfl⟩ ?_; conv => whnf)
                | (refine p2.callB ⟨rfl, rfl, rfl⟩ ?_; conv => whnf)
                | (refine Owes.mk (by first | (simp only [ByteArray.size_append, ByteArray.size_extract, bszB, List.size_toArray, List.length_cons, List.length_nil, List.length_append, List.length_map]; omega) | (simp only [ByteArray.size_append, bszB, List.size_toArray, List.length_cons, List.length_nil]; done) | fail "x") ?_; conv => whnf)
                | (refine step_kinds 2 ?hk ?_; (case hk => decide +kernel); conv => whnf)
                | (refine step_kinds 3 ?hk ?_; (case hk => decide +kernel); conv => whnf)
                | (refine step_auto 2 ?hk ?_; (case hk => decide +kernel); conv => whnf)
                | (refine step_auto 3 ?hk ?_; (case hk => decide +kernel); conv => whnf)
                | (refine Num.id (by omega) (by omega) ?_; conv => whnf)
                | (refine Case.strI (fun _ => ?_) (fun _ => ?_) <;> conv => whnf)
                | (refine Both.mk ?_ ?_ <;> conv => whnf)
                | (refine Case.dec (fun _ => ?_) (fun _ => ?_) <;> conv => whnf)
                | (refine Case.beqI (fun _ => ?_) (fun _ => ?_) <;> conv => whnf)
                | (refine Case.mk (fun _ => ?_) (fun _ => ?_) <;> conv => whnf)
                | (refine Way.fst ?_; conv => whnf)
            all_goals exact Fin.isB rfl
end Go.Proofs.YtdenafhfngnlfaaDoor.Aw
