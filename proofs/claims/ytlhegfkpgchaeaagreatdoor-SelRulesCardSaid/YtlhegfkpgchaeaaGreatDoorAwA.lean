/- Abstract values for a walk over Go code: data that no longer turns, values in a function's slots, and what code makes of them. -/
import Derived.Tactics
import Derived.RowKit
namespace Go.Proofs.YtlhegfkpgchaeaaGreatDoor.Aw
open Go
set_option linter.unusedVariables false
inductive F where
 | v (x : Value)
 | sl (es : List (List F))
 deriving Inhabited
inductive D where
 | junk
 | f (x : F)
 | nil
 | agg (cs : List D)
 | tup (ds : List D)
 | own (k t s : Nat) (es : List (List F))
 | optr (k t s : Nat) (es : List (List F)) (i o : Nat)
 | ptr (k o : Nat)
 | ip (cs : List F)
 | fn (g : FuncId) (cap : List D)
 | yl (lb : Nat) (ps : List Nat) (asg bd : Code) (cap : List D)
 deriving Inhabited
abbrev D.int (k : IntKind) (n : Int) : D := .f (.v (.int k n))
abbrev D.bool (b : Bool) : D := .f (.v (.bool b))
abbrev D.str (s : ByteArray) : D := .f (.v (.string s))
abbrev Cells := List D
abbrev Hp := List (Option Cells)
structure TI where
 desc : TypeDesc
 size : Nat
 bytes : Nat
 zero : List Value
 zval : Value
abbrev Tab := List TI
def TI.shut (t : TI) : Bool := match t.desc with
 | .invalid => true
 | _ => false
def TI.isAgg (t : TI) : Bool := match t.desc with
 | .struct _ | .array _ _ => true
 | _ => false
def tiK (T : Tab) (t : Nat) (K : TI → Prop) : Prop := match T[t]? with
 | some ti => bif ti.shut then False else K ti
 | none => False
def EqFit (P : Program) (t : Nat) (ti : TI) : Prop := match ti.desc with
 | .struct fs => fs.all (·.name != "_") = true ∧ P.stoodInHeld t = false ∧ P.eqGuardType P.depth t = false
 | _ => True
def TabOk (P : Program) : Nat → List TI → Prop
 | _, [] => True
 | t, ti :: r => (ti.shut = true ∨ (P.underlying t = some ti.desc ∧ (P.info? t).map (fun i => (i.size, i.bytes, i.zero)) = some (ti.size, ti.bytes, some ti.zval) ∧ ti.zval.cells = ti.zero.toArray ∧ EqFit P t ti)) ∧ TabOk P (t + 1) r
def ofC : Value → D
 | .slice none 0 0 => .nil
 | .agg _ | .tuple _ => .junk
 | x => .f (.v x)
def ofCs : List Value → List D
 | [] => []
 | x :: xs => ofC x :: ofCs xs
def ofV : Value → D
 | .agg cs => .agg (ofCs cs.toList)
 | .slice none 0 0 => .nil
 | .tuple _ => .junk
 | .func (.func g) ⟨[]⟩ ⟨[]⟩ => .fn g []
 | x => .f (.v x)
def ev (E : List D) : Operand → D
 | .tmp t => E.getD t .junk
 | .const v => ofV v
 | .global _ => .junk
 | .func f => .fn f []
def forceV (x : Value) (K : Value → Prop) : Prop := match x with
 | .int k n => K (.int k n)
 | .bool b => K (.bool b)
 | .string s => K (.string s)
 | .pointer a => K (.pointer a)
 | x => K x
def force (d : D) (K : D → Prop) : Prop := match d with
 | .junk => K .junk
 | .f (.v x) => forceV x fun x => K (.f (.v x))
 | .f (.sl es) => K (.f (.sl es))
 | .nil => K .nil
 | .agg cs => K (.agg cs)
 | .tup ds => K (.tup ds)
 | .own k t s es => K (.own k t s es)
 | .optr k t s es i o => K (.optr k t s es i o)
 | .ptr k o => K (.ptr k o)
 | .ip cs => K (.ip cs)
 | .fn g cap => K (.fn g cap)
 | .yl lb ps x y cap => K (.yl lb ps x y cap)
def evK (E : List D) (x : Operand) (K : D → Prop) : Prop := force (ev E x) K
def setK : List D → Nat → D → (List D → Prop) → Prop
 | [], _, _, K => K []
 | _ :: E, 0, d, K => K (d :: E)
 | x :: E, i + 1, d, K => setK E i d (fun E' => K (x :: E'))
def putK (E : List D) (dst : Option Nat) (d : D) (K : List D → Prop) : Prop :=
 match dst with
 | some i => setK E i d K
 | none => K E
def numK (n : Nat) (K : Nat → Prop) : Prop := match n with
 | 0 => K 0 | 1 => K 1 | 2 => K 2 | 3 => K 3 | 4 => K 4 | 5 => K 5 | 6 => K 6 | 7 => K 7 | 8 => K 8 | 9 => K 9 | 10 => K 10 | 11 => K 11 | 12 => K 12
 | n => K n
theorem numK_eq (n : Nat) (K : Nat → Prop) : numK n K = K n := by unfold numK; split <;> rfl
structure Case (b : Bool) (A B : Prop) : Prop where of ::
 out : (b = true → A) ∧ (b = false → B)
structure Num (k : IntKind) (x : Int) (K : Int → Prop) : Prop where of ::
 out : K (k.wrap x)
structure Owes (p : Prop) (K : Prop) : Prop where of ::
 out : p ∧ K
structure Elem {α : Type} (es : List α) (i : Int) (K : α → Prop) : Prop where of ::
 out : ∃ (n : Nat) (e : α), i = n ∧ es[n]? = some e ∧ K e
structure Byte (s : ByteArray) (i : Int) (K : UInt8 → Prop) : Prop where of ::
 out : ∃ (n : Nat) (c : UInt8), i = n ∧ s.data.toList[n]? = some c ∧ K c
structure Part {α : Type} (es : List α) (lo hi : Int) (K : List α → Prop) : Prop where of ::
 out : ∃ (l h : Nat), lo = l ∧ hi = h ∧ l ≤ h ∧ h ≤ es.length ∧ K ((es.take h).drop l)
def okD : D → Bool
 | .junk | .agg _ | .tup _ => false
 | _ => true
def okL : List D → Bool
 | [] => true
 | d :: ds => okD d && okL ds
def cellsK (d : D) (K : List D → Prop) : Prop := match d with
 | .agg cs => bif okL cs then K cs else False
 | d => bif okD d then K [d] else False
def dropL {α : Type} : Nat → List α → List α
 | 0, l => l
 | _ + 1, [] => []
 | n + 1, _ :: l => dropL n l
def takeK {α : Type} : Nat → List α → (List α → Prop) → Prop
 | 0, _, K => K []
 | _ + 1, [], _ => False
 | n + 1, x :: l, K => takeK n l (fun l' => K (x :: l'))
def mapFK : List F → (List D → Prop) → Prop
 | [], K => K []
 | x :: l, K => mapFK l (fun l' => K (.f x :: l'))
def overK {α : Type} : List α → Nat → List α → (List α → Prop) → Prop
 | cs, _, [], K => K cs
 | [], _, _ :: _, _ => False
 | _ :: cs, 0, y :: ys, K => overK cs 0 ys (fun l => K (y :: l))
 | c :: cs, n + 1, ys, K => overK cs n ys (fun l => K (c :: l))
def setHK : Hp → Nat → Option Cells → (Hp → Prop) → Prop
 | [], _, _, K => K []
 | _ :: E, 0, d, K => K (d :: E)
 | x :: E, i + 1, d, K => setHK E i d (fun E' => K (x :: E'))
def pushHK : Hp → Option Cells → (Hp → Prop) → Prop
 | [], d, K => K [d]
 | x :: E, d, K => pushHK E d (fun E' => K (x :: E'))
mutual
def D.kill (k : Nat) : D → D
 | .own j t s es => bif Nat.beq j k then .junk else .own j t s es
 | .optr j t s es i o => bif Nat.beq j k then .junk else .optr j t s es i o
 | .agg cs => .agg (killL k cs)
 | .tup cs => .tup (killL k cs)
 | .fn g cs => .fn g (killL k cs)
 | .yl lb ps x y cs => .yl lb ps x y (killL k cs)
 | d => d
def killL (k : Nat) : List D → List D
 | [] => []
 | d :: ds => D.kill k d :: killL k ds
end
def killH (k : Nat) : Hp → Hp
 | [] => []
 | none :: h => none :: killH k h
 | some cs :: h => some (killL k cs) :: killH k h
mutual
def D.upd (k t s : Nat) (es : List (List F)) : D → D
 | .own j t' s' e => bif Nat.beq j k then (bif Nat.beq t' t && Nat.beq s' s then .own j t' s' es else .junk) else .own j t' s' e
 | .optr j t' s' e i o => bif Nat.beq j k then (bif Nat.beq t' t && Nat.beq s' s then .optr j t' s' es i o else .junk) else .optr j t' s' e i o
 | .agg cs => .agg (updL k t s es cs)
 | .tup cs => .tup (updL k t s es cs)
 | .fn g cs => .fn g (updL k t s es cs)
 | .yl lb ps x y cs => .yl lb ps x y (updL k t s es cs)
 | d => d
def updL (k t s : Nat) (es : List (List F)) : List D → List D
 | [] => []
 | d :: ds => D.upd k t s es d :: updL k t s es ds
end
def updH (k t s : Nat) (es : List (List F)) : Hp → Hp
 | [] => []
 | none :: h => none :: updH k t s es h
 | some cs :: h => some (updL k t s es cs) :: updH k t s es h
def fsK : List D → (List F → Prop) → Prop
 | [], K => K []
 | d :: l, K => match d with
  | .f x => fsK l fun r => K (x :: r)
  | _ => False
abbrev KD := D → List D → Hp → Nat → Prop
inductive X where
 | normal
 | exit (id : Nat)
 | ret
theorem Case.mk {b : Bool} {A B : Prop} (h1 : b = true → A) (h2 : b = false → B) : Case b A B := ⟨⟨h1, h2⟩⟩
theorem Case.yes {A B : Prop} (h : A) : Case true A B := ⟨⟨fun _ => h, fun h => (by cases h)⟩⟩
theorem Case.no {A B : Prop} (h : B) : Case false A B := ⟨⟨fun h => (by cases h), fun _ => h⟩⟩
theorem Case.isTrue {b : Bool} {A B : Prop} (e : b = true) (h : A) : Case b A B := by subst e; exact Case.yes h
theorem Case.isFalse {b : Bool} {A B : Prop} (e : b = false) (h : B) : Case b A B := by subst e; exact Case.no h
theorem Case.open {b : Bool} {A B : Prop} (h : Case b A B) : (b = true ∧ A) ∨ (b = false ∧ B) := by
 cases b
 ·exact .inr ⟨rfl, h.out.2 rfl⟩
 ·exact .inl ⟨rfl, h.out.1 rfl⟩
theorem Num.wrap {k : IntKind} {x : Int} {K : Int → Prop} (h : K (k.wrap x)) : Num k x K := ⟨h⟩
theorem Num.open {k : IntKind} {x : Int} {K : Int → Prop} (h : Num k x K) : K (k.wrap x) := h.out
structure Way (A B : Prop) : Prop where of ::
 out : A ∨ B
theorem Way.fst {A B : Prop} (h : A) : Way A B := ⟨.inl h⟩
theorem Way.open {A B : Prop} (h : Way A B) : A ∨ B := h.out
theorem Owes.mk {p K : Prop} (h : p) (hk : K) : Owes p K := ⟨⟨h, hk⟩⟩
theorem Owes.open {p K : Prop} (h : Owes p K) : p ∧ K := h.out
theorem Elem.mk {α : Type} {es : List α} {i : Int} {K : α → Prop} (n : Nat) (e : α) (h1 : i = n) (h2 : es[n]? = some e) (h3 : K e) : Elem es i K := ⟨⟨n, e, h1, h2, h3⟩⟩
theorem Elem.open {α : Type} {es : List α} {i : Int} {K : α → Prop} (h : Elem es i K) : ∃ (n : Nat) (e : α), i = n ∧ es[n]? = some e ∧ K e := h.out
theorem Byte.mk {s : ByteArray} {i : Int} {K : UInt8 → Prop} (n : Nat) (c : UInt8) (h1 : i = n) (h2 : s.data.toList[n]? = some c) (h3 : K c) : Byte s i K := ⟨⟨n, c, h1, h2, h3⟩⟩
theorem Byte.open {s : ByteArray} {i : Int} {K : UInt8 → Prop} (h : Byte s i K) : ∃ (n : Nat) (c : UInt8), i = n ∧ s.data.toList[n]? = some c ∧ K c := h.out
theorem Part.mk {α : Type} {es : List α} {lo hi : Int} {K : List α → Prop} (l h : Nat) (h1 : lo = l) (h2 : hi = h) (h3 : l ≤ h) (h4 : h ≤ es.length) (h5 : K ((es.take h).drop l)) : Part es lo hi K := ⟨⟨l, h, h1, h2, h3, h4, h5⟩⟩
theorem Part.open {α : Type} {es : List α} {lo hi : Int} {K : List α → Prop} (h : Part es lo hi K) : ∃ (l h : Nat), lo = l ∧ hi = h ∧ l ≤ h ∧ h ≤ es.length ∧ K ((es.take h).drop l) := h.out
def byteRow (b : UInt8) : List F := [.v (.int .u8 b.toNat)]
structure AsBytes (es : List (List F)) (K : ByteArray → Prop) : Prop where of ::
 out : ∃ bs : List UInt8, es = bs.map byteRow ∧ K ⟨bs.toArray⟩
theorem AsBytes.mk {es : List (List F)} {K : ByteArray → Prop} (bs : List UInt8) (h : es = bs.map byteRow) (hk : K ⟨bs.toArray⟩) : AsBytes es K := ⟨⟨bs, h, hk⟩⟩
theorem AsBytes.open {es : List (List F)} {K : ByteArray → Prop} (h : AsBytes es K) : ∃ bs : List UInt8, es = bs.map byteRow ∧ K ⟨bs.toArray⟩ := h.out
end Go.Proofs.YtlhegfkpgchaeaaGreatDoor.Aw
