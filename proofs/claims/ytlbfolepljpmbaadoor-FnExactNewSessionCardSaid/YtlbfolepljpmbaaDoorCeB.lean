/-
  A computed evaluator over the model's code, part B: the evaluator.
-/
import Derived.Test.YtlbfolepljpmbaaDoorCeA
namespace Go.CE
set_option linter.all false
set_option linter.unusedSectionVars false
open Go Go.RowKit
variable [Tab]

/-! ### What the evaluator's answers are made of -/
def chk {R : Type} (b : Bool) (o : Option R) : Option R := match b with | true => o | false => none
def ifB {R : Type} (b : Bool) (x y : Option R) : Option R := match b with | true => x | false => y
/-- Whichever way a test goes of which nothing is known. -/
noncomputable def both {R : Type} (x y : Option R) : Option R := open Classical in if x = y then x else none
def sumE {A B C : Type} (f : A → C) (g : B → C) (z : A ⊕ B) : C := match z with | .inl a => f a | .inr b => g b
@[reducible] def emptyL {A : Type} (l : List A) : Bool := l.isEmpty
/-- Bytes as a text. -/
def s8 (l : List Int) : ByteArray := ⟨(l.map fun n => UInt8.ofNat n.toNat).toArray⟩
/-- A text's bytes. -/
def bs (l : List Nat) : ByteArray := ⟨(l.map fun n => UInt8.ofNat n).toArray⟩
@[reducible] def bnd {A B : Type} (o : Option A) (f : A → Option B) : Option B := o.bind f
/-- Rounds of a loop: 'inl': once more, 'inr': done. -/
def iterN {A B : Type} (f : A → Option (A ⊕ B)) : Nat → A → Option B
  | 0, _ => none
  | n + 1, x => match f x with
    | none => none
    | some (.inl y) => iterN f n y
    | some (.inr r) => some r
noncomputable def iter {A B : Type} (f : A → Option (A ⊕ B)) (x : A) : Option B :=
  open Classical in if h : ∃ n r, iterN f n x = some r then iterN f (Classical.choose h) x else none
def band (k : IntKind) (x y : Int) : Int := k.wrap (BitVec.ofInt k.bits x &&& BitVec.ofInt k.bits y).toNat
def bor (k : IntKind) (x y : Int) : Int := k.wrap (BitVec.ofInt k.bits x ||| BitVec.ofInt k.bits y).toNat
def bxor (k : IntKind) (x y : Int) : Int := k.wrap (BitVec.ofInt k.bits x ^^^ BitVec.ofInt k.bits y).toNat
def bandNot (k : IntKind) (x y : Int) : Int := k.wrap (BitVec.ofInt k.bits x &&& ~~~ BitVec.ofInt k.bits y).toNat
def bshl (k : IntKind) (x y : Int) : Int := k.wrap (x * 2 ^ min y.toNat k.bits)
def bshr (k : IntKind) (x y : Int) : Int := x.fdiv (2 ^ min y.toNat k.bits)
@[reducible] def wrapK (k : IntKind) (x : Int) : Int := k.wrap x
@[reducible] def addI (k : IntKind) (x y : Int) : Int := k.wrap (x + y)
@[reducible] def subI (k : IntKind) (x y : Int) : Int := k.wrap (x - y)
@[reducible] def mulI (k : IntKind) (x y : Int) : Int := k.wrap (x * y)
@[reducible] def divI (k : IntKind) (x y : Int) : Int := k.wrap (x.tdiv y)
@[reducible] def remI (x y : Int) : Int := x.tmod y
@[reducible] def negI (k : IntKind) (x : Int) : Int := k.wrap (0 - x)
@[reducible] def minI (x y : Int) : Int := if y < x then y else x
@[reducible] def maxI (x y : Int) : Int := if y > x then y else x
@[reducible] def eqI (x y : Int) : Bool := x == y
@[reducible] def neI (x y : Int) : Bool := x != y
@[reducible] def ltI (x y : Int) : Bool := decide (x < y)
@[reducible] def leI (x y : Int) : Bool := decide (x ≤ y)
@[reducible] def gtI (x y : Int) : Bool := decide (x > y)
@[reducible] def geI (x y : Int) : Bool := decide (x ≥ y)
@[reducible] def nonneg (x : Int) : Bool := decide (0 ≤ x)
@[reducible] def nonzero (x : Int) : Bool := !decide (x = 0)
@[reducible] def eqB (x y : Bool) : Bool := x == y
@[reducible] def neB (x y : Bool) : Bool := !(x == y)
@[reducible] def notB (x : Bool) : Bool := !x
@[reducible] def eqS (x y : ByteArray) : Bool := decide (x = y)
@[reducible] def neS (x y : ByteArray) : Bool := !decide (x = y)
@[reducible] def catS (x y : ByteArray) : ByteArray := x ++ y
@[reducible] def fitS (x y : ByteArray) : Bool := decide (x.size + y.size ≤ 2 ^ 62)
@[reducible] def lenS (x : ByteArray) : Int := x.size
@[reducible] def lenL {A : Type} (l : List A) : Int := l.length
@[reducible] def catL {A : Type} (l l' : List A) : List A := l ++ l'
@[reducible] def setN {A : Type} (l : List A) (i : Nat) (x : A) : List A := l.set i x
@[reducible] def natI (x : Int) : Nat := x.toNat
@[reducible] def sameLen {A B : Type} (l : List A) (l' : List B) : Bool := decide (l.length = l'.length)
@[reducible] def inL {A : Type} (j : Int) (l : List A) : Bool := decide (0 ≤ j ∧ j < (l.length : Int))
@[reducible] def inS (j : Int) (s : ByteArray) : Bool := decide (0 ≤ j ∧ j < (s.size : Int))
@[reducible] def inCutS (i j : Int) (s : ByteArray) : Bool := decide (0 ≤ i ∧ i ≤ j ∧ j ≤ (s.size : Int))
@[reducible] def inCutL {A : Type} (i j : Int) (l : List A) : Bool := decide (0 ≤ i ∧ i ≤ j ∧ j ≤ (l.length : Int))
def maxList : Nat := 2 ^ 38
@[reducible] def fitL {A : Type} (l : List A) : Bool := decide (l.length ≤ maxList)
@[reducible] def fitL2 {A B : Type} (l : List A) (l' : List B) : Bool := decide (l.length + l'.length ≤ maxList)
@[reducible] def pickB {A : Type} (v : Bool) (x y : A) : A := match v with | true => x | false => y
@[reducible] def getN (t : Ty) (l : List t.den) (i : Nat) : t.den := l.getD i t.dflt
def at_ (t : Ty) (l : List t.den) (i : Int) : t.den := l.getD i.toNat t.dflt
def u8s (s : ByteArray) : List Int := s.data.toList.map fun c => (c.toNat : Int)
def byteAt (s : ByteArray) (i : Int) : Int := (s.data.toList.getD i.toNat 0).toNat
def cutS (s : ByteArray) (i j : Int) : ByteArray := s.extract i.toNat j.toNat
def cutL {A : Type} (l : List A) (i j : Int) : List A := (l.drop i.toNat).take (j.toNat - i.toNat)

/-! ### Types, constants, data out of abstract values -/
structure TI where
  sz : Nat
  bytes : Nat
  zero : Value
  u : TypeDesc
  ety : Option Ty := none
abbrev TTab := TypeId → Option TI

def castT (t t' : Ty) (x : t.den) : Option t'.den := if h : t = t' then some (h ▸ x) else none
def leavesOf : (t : Ty) → t.den → List AL
  | .pr x y, p => leavesOf x p.1 ++ leavesOf y p.2
  | .one t, x => leavesOf t x
  | .i k, x => [.dat (.i k) x]
  | .b, x => [.dat .b x]
  | .s, x => [.dat .s x]
  | .e, x => [.dat .e x]
  | .sl t, x => [.dat (.sl t) x]
  | .f1 a r, x => [.dat (.f1 a r) x]
  | .f2 a c r, x => [.dat (.f2 a c r) x]
def a1Of (t : Ty) (x : t.den) : A1 := if t.agg then .ag (leavesOf t x) else .lf (.dat t x)
def constAL : Value → AL
  | .int k n => .dat (.i k) n
  | .bool x => .dat .b x
  | .string s => .dat .s s
  | .slice none 0 0 => .nils
  | .nilIface => .dat .e true
  | _ => .unk
def constA1 : Value → A1
  | .agg cs => .ag (cs.toList.map constAL)
  | v => .lf (constAL v)
abbrev Tmps := Nat → AV
def opdV (t : Tmps) : Operand → AV
  | .tmp s => t s
  | .const v => .v (constA1 v)
  | _ => .v (.lf .unk)
def opd (t : Tmps) (x : Operand) : A1 := match opdV t x with | .v a => a | .tp _ => .lf .unk

/-- One cell as data of type t; the objects that are read for it. -/
def leafTo (h : AHeap) (t : Ty) : AL → Option (t.den × List Nat)
  | .dat t' x => (castT t' t x).map fun y => (y, [])
  | .nils => match t with
    | .sl _ => some ([], [])
    | _ => none
  | .sl t' id => match h id with
    | some (.arr _ t2 l) => if t' = t2 then (castT (.sl t2) t l).map fun y => (y, [id]) else none
    | _ => none
  | .vw t' id i j => match h id with
    | some (.arr _ t2 l) => if t' = t2 then (castT (.sl t2) t (cutL l i j)).map fun y => (y, [id]) else none
    | _ => none
  | _ => none
def gather (h : AHeap) : (t : Ty) → List AL → Option (t.den × List Nat × List AL)
  | .pr x y, l => match gather h x l with
    | none => none
    | some (a, i1, l1) => match gather h y l1 with
      | none => none
      | some (c, i2, l2) => some ((a, c), i1 ++ i2, l2)
  | .one t, l => gather h t l
  | _, [] => none
  | .i k, a :: r => (leafTo h (.i k) a).map fun p => (p.1, p.2, r)
  | .b, a :: r => (leafTo h .b a).map fun p => (p.1, p.2, r)
  | .s, a :: r => (leafTo h .s a).map fun p => (p.1, p.2, r)
  | .e, a :: r => (leafTo h .e a).map fun p => (p.1, p.2, r)
  | .sl t, a :: r => (leafTo h (.sl t) a).map fun p => (p.1, p.2, r)
  | .f1 x y, a :: r => (leafTo h (.f1 x y) a).map fun p => (p.1, p.2, r)
  | .f2 x y z, a :: r => (leafTo h (.f2 x y z) a).map fun p => (p.1, p.2, r)
def a1To (h : AHeap) (t : Ty) : A1 → Option (t.den × List Nat)
  | .lf a => if t.agg then none else leafTo h t a
  | .ag l => if t.agg then (match gather h t l with | some (x, i, []) => some (x, i) | _ => none) else none

/-! ### Shapes: what is handed over at a call, a loop's head, a join -/
inductive SV where
  | d (t : Ty) | r (id : Nat) | o (t : Ty) (id : Nat) | p (t : Ty) | x
  /-- The next n make up a struct. -/
  | g (n : Nat)
inductive SO where
  | cells (l : List SV) | arr (e : TypeId) (t : Ty)
@[reducible] def HV : List SV → Type
  | [] => Unit
  | .d t :: l => t.den × HV l
  | .p t :: l => t.den × HV l
  | .r _ :: l => HV l
  | .o _ _ :: l => HV l
  | .x :: l => HV l
  | .g _ :: l => HV l
@[reducible] def HO : List SO → Type
  | [] => Unit
  | .cells l :: r => HV l × HO r
  | .arr _ t :: r => List t.den × HO r
structure Shp where
  sv : List SV
  so : List SO
@[reducible] def Shp.den (s : Shp) : Type := HV s.sv × HO s.so

def takeLf : Nat → List A1 → Option (List AL × List A1)
  | 0, as => some ([], as)
  | n + 1, as => match as with
    | .lf a :: as => (takeLf n as).map fun p => (a :: p.1, p.2)
    | _ => none
def grp (n : Nat) (as : List A1) : List A1 := match takeLf n as with
  | some (ls, r) => .ag ls :: r
  | none => []
def leafs : Nat → List SV → Bool
  | 0, _ => true
  | n + 1, l => match l with
    | .d t :: l => !t.agg && leafs n l
    | .p _ :: l => leafs n l
    | .r _ :: l => leafs n l
    | .o _ _ :: l => leafs n l
    | .x :: l => leafs n l
    | _ => false
def packV : (l : List SV) → HV l → List A1
  | [], _ => []
  | .d t :: l, p => a1Of t p.1 :: packV l p.2
  | .p t :: l, p => .lf (.rp t p.1 0) :: packV l p.2
  | .r id :: l, p => .lf (.ref id 0) :: packV l p
  | .o t id :: l, p => .lf (.sl t id) :: packV l p
  | .x :: l, p => .lf .unk :: packV l p
  | .g n :: l, p => grp n (packV l p)
/-- The same of a variable's cells: each of one cell. -/
def packC : (l : List SV) → HV l → List AL
  | [], _ => []
  | .d t :: l, p => .dat t p.1 :: packC l p.2
  | .p t :: l, p => .rp t p.1 0 :: packC l p.2
  | .r id :: l, p => .ref id 0 :: packC l p
  | .o t id :: l, p => .sl t id :: packC l p
  | .x :: l, p => .unk :: packC l p
  | .g _ :: l, p => packC l p
def packO : (l : List SO) → HO l → List AObj
  | [], _ => []
  | .cells l :: r, p => .cells (packC l p.1) :: packO r p.2
  | .arr e t :: r, p => .arr e t p.1 :: packO r p.2

/-- Which object stands for which: 'none': a nil slice's missing array. -/
abbrev Map := List (Nat × Option Nat)
def Map.get (m : Map) (k : Nat) : Option (Option Nat) := match m with
  | [] => none
  | (a, v) :: r => if a = k then some v else Map.get r k
def Map.add (m : Map) (k : Nat) (v : Option Nat) : Option Map := match m.get k with
  | none => some ((k, v) :: m)
  | some v' => if v = v' then some m else none
def asRp (t : Ty) : A1 → Option t.den
  | .lf (.rp t' x 0) => castT t' t x
  | _ => none
def asRef : A1 → Option Nat
  | .lf (.ref a 0) => some a
  | _ => none
def asOwn (t : Ty) : A1 → Option (Option Nat)
  | .lf (.sl t' a) => if t = t' then some (some a) else none
  | .lf .nils => some none
  | _ => none
def unV (h : AHeap) : (l : List SV) → List A1 → Map → Option (HV l × Map × List Nat)
  | [], as, m => match as with
    | [] => some ((), m, [])
    | _ => none
  | .d t :: l, as, m => match as with
    | [] => none
    | a :: as => match a1To h t a with
      | none => none
      | some (x, i) => match unV h l as m with
        | none => none
        | some (y, m', j) => some ((x, y), m', i ++ j)
  | .p t :: l, as, m => match as with
    | [] => none
    | a :: as => match asRp t a with
      | none => none
      | some x => match unV h l as m with
        | none => none
        | some (y, m', j) => some ((x, y), m', j)
  | .r id :: l, as, m => match as with
    | [] => none
    | a :: as => match asRef a with
      | none => none
      | some b => match m.add id (some b) with
        | none => none
        | some m => unV h l as m
  | .o t id :: l, as, m => match as with
    | [] => none
    | a :: as => match asOwn t a with
      | none => none
      | some b => match m.add id b with
        | none => none
        | some m => unV h l as m
  | .x :: l, as, m => match as with
    | [] => none
    | _ :: as => unV h l as m
  | .g n :: l, as, m => match as with
    | .ag ls :: as => if ls.length = n ∧ leafs n l = true then unV h l (ls.map .lf ++ as) m else none
    | _ => none
/-- The objects number k, k + 1, .. of a shape. -/
def unO (h : AHeap) : (k : Nat) → (l : List SO) → Map → Option (HO l × Map × List Nat)
  | _, [], m => some ((), m, [])
  | k, .cells l :: r, m => match m.get k with
    | some (some a) => match h a with
      | some (.cells cs) => match unV h l (cs.map .lf) m with
        | none => none
        | some (x, m, i) => match unO h (k + 1) r m with
          | none => none
          | some (y, m, j) => some ((x, y), m, i ++ j)
      | _ => none
    | _ => none
  | k, .arr e t :: r, m => match m.get k with
    | some (some a) => match h a with
      | some (.arr e' t' l) => if e = e' then (match castT (.sl t') (.sl t) l with
        | none => none
        | some x => match unO h (k + 1) r m with
          | none => none
          | some (y, m, j) => some ((x, y), m, j)) else none
      | _ => none
    | some none => match unO h (k + 1) r m with
      | none => none
      | some (y, m, j) => some (([], y), m, j)
    | _ => none
def Map.ids (m : Map) : List Nat := m.filterMap (·.2)
def nodupB : List Nat → Bool
  | [] => true
  | a :: l => !l.contains a && nodupB l
/-- Data and objects out of abstract values: with the map, and the objects of our own that are read as data. -/
def unpack (s : Shp) (h : AHeap) (as : List A1) (m : Map) : Option (s.den × Map × List Nat) :=
  match unV h s.sv as m with
  | none => none
  | some (x, m, i) => match unO h 0 s.so m with
    | none => none
    | some (y, m, j) => if nodupB m.ids && m.ids.all (fun a => !(i ++ j).contains a) && m.all (fun p => decide (p.1 < s.so.length)) then some ((x, y), m, i ++ j) else none

/-- What is said of a function: what it takes, how many of the objects that it is handed are handed back, what it gives. -/
structure Sig where
  a : Shp
  r : Shp
  fn : a.den → Option r.den
abbrev GTab := FuncId → Option Sig
def Sig.io (s : Sig) : Nat := s.a.so.length

/-! ### Operations -/
structure St where
  t : Tmps
  h : AHeap
  n : Nat
abbrev Chg := List (Nat × Option AObj)
/-- What an operation gives, which objects it looks at, and what it does to them. -/
abbrev K (R : Type) := AV → List Nat → Chg → Option R
def AHeap.put (h : AHeap) (id : Nat) (o : Option AObj) : AHeap := fun i => if i = id then o else h i
def AHeap.puts (h : AHeap) : Chg → AHeap
  | [] => h
  | (id, o) :: r => AHeap.puts (h.put id o) r
def lf {R : Type} (k : K R) (a : AL) : Option R := k (.v (.lf a)) [] []
def fld (u : TypeDesc) (f : Nat) : Option Field := match u with | .struct fs => fs[f]? | _ => none
def isAggU : TypeDesc → Bool
  | .struct _ | .array _ _ => true
  | _ => false
/-- A value out of cells: a part from 'off' on. -/
def partOf (ti : TI) (l : List AL) (off : Nat) : Option A1 :=
  if isAggU ti.u then (if off + ti.sz ≤ l.length then some (.ag ((l.drop off).take ti.sz)) else none) else (l[off]?).map .lf
def A1.leaves : A1 → List AL
  | .lf a => [a]
  | .ag l => l
def AL.known : AL → Bool
  | .unk => false
  | _ => true
def setMany (l : List AL) (off : Nat) (vs : List AL) : List AL := l.take off ++ vs ++ l.drop (off + vs.length)

def evLoad {R : Type} (ti : TI) (h : AHeap) (a : A1) (k : A1 → List Nat → Option R) : Option R := match a with
  | .lf (.ref id off) => match h id with
    | some (.cells l) => match partOf ti l off with | some v => k v [id] | none => none
    | _ => none
  | .lf (.rp t x off) => match partOf ti (leavesOf t x) off with | some v => k v [] | none => none
  | .lf (.elt t id idx off) => match h id with
    | some (.arr _ t' l) => if t = t' then (match partOf ti (leavesOf t' (getN t' l idx)) off with | some v => k v [id] | none => none) else none
    | _ => none
  | _ => none
def evStore {R : Type} (ti : TI) (h : AHeap) (a v : A1) (k : K R) : Option R := match a with
  | .lf (.ref id off) => match h id with
    | some (.cells l) => if v.leaves.length = ti.sz ∧ off + ti.sz ≤ l.length ∧ v.leaves.all AL.known = true then k (.v (.lf .unk)) [id] [(id, some (.cells (setMany l off v.leaves)))] else none
    | _ => none
  | .lf (.elt t id idx 0) => match h id with
    | some (.arr e t' l) => if t = t' ∧ ti.sz = t'.sz then (match a1To h t' v with
      | some (x, []) => k (.v (.lf .unk)) [id] [(id, some (.arr e t' (setN l idx x)))]
      | _ => none) else none
    | _ => none
  | _ => none
def cmpOp (op : BinOp) (x y : Int) : Option Bool := match op with
  | .eql => some (eqI x y) | .neq => some (neI x y) | .lss => some (ltI x y) | .leq => some (leI x y) | .gtr => some (gtI x y) | .geq => some (geI x y)
  | _ => none
def eqDat : (t t' : Ty) → t.den → t'.den → Option Bool
  | .i k, .i k', x, y => if k = k' then some ((show Int from x) == (show Int from y)) else none
  | .b, .b, x, y => some ((show Bool from x) == (show Bool from y))
  | .s, .s, x, y => some (decide ((show ByteArray from x) = (show ByteArray from y)))
  | _, _, _, _ => none
def evBin {R : Type} (u : Option TypeDesc) (yc : Bool) (op : BinOp) (x y : A1) (k : A1 → Option R) : Option R := match x, y with
  | .lf (.dat (.i kx) a), .lf (.dat (.i ky) c) => match op with
    | .shl => chk (nonneg c) (k (.lf (.dat (.i kx) (bshl kx a c))))
    | .shr => chk (nonneg c) (k (.lf (.dat (.i kx) (bshr kx a c))))
    | _ => if kx = ky then (match op with
      | .add => k (.lf (.dat (.i kx) (addI kx a c)))
      | .sub => k (.lf (.dat (.i kx) (subI kx a c)))
      | .mul => k (.lf (.dat (.i kx) (mulI kx a c)))
      | .quo => chk (nonzero c) (k (.lf (.dat (.i kx) (divI kx a c))))
      | .rem => chk (nonzero c) (k (.lf (.dat (.i kx) (remI a c))))
      | .and => k (.lf (.dat (.i kx) (band kx a c)))
      | .or => k (.lf (.dat (.i kx) (bor kx a c)))
      | .xor => k (.lf (.dat (.i kx) (bxor kx a c)))
      | .andNot => k (.lf (.dat (.i kx) (bandNot kx a c)))
      | _ => match cmpOp op a c with | some v => k (.lf (.dat .b v)) | none => none) else none
  | .lf (.dat .b a), .lf (.dat .b c) => match u, op with
    | some .bool, .eql => k (.lf (.dat .b (eqB a c)))
    | some .bool, .neq => k (.lf (.dat .b (neB a c)))
    | _, _ => none
  | .lf (.dat .s a), .lf (.dat .s c) => match op with
    | .add => chk (fitS a c) (k (.lf (.dat .s (catS a c))))
    | .eql => k (.lf (.dat .b (eqS a c)))
    | .neq => k (.lf (.dat .b (neS a c)))
    | _ => none
  | .lf (.dat .e a), .lf (.dat .e true) => match u, yc, op with
    | some (.interface _), true, .eql => k (.lf (.dat .b a))
    | some (.interface _), true, .neq => k (.lf (.dat .b (notB a)))
    | _, _, _ => none
  | .lf (.dat (.sl _) l), .lf .nils => match u, op with
    | some (.slice _), .eql => ifB (emptyL l) (k (.lf .anyb)) (k (.lf (.dat .b false)))
    | some (.slice _), .neq => ifB (emptyL l) (k (.lf .anyb)) (k (.lf (.dat .b true)))
    | _, _ => none
  | _, _ => none
def evUn {R : Type} (op : UnOp) (x : A1) (k : A1 → Option R) : Option R := match op, x with
  | .not, .lf (.dat .b a) => k (.lf (.dat .b (notB a)))
  | .neg, .lf (.dat (.i kx) a) => k (.lf (.dat (.i kx) (negI kx a)))
  | _, _ => none
/-- The elements of a slice, and the object that is read. -/
def listOf (h : AHeap) (t : Ty) : A1 → Option (List t.den × List Nat)
  | .lf a => leafTo h (.sl t) a
  | _ => none
def evAppend {R : Type} (e : TypeId) (t : Ty) (h : AHeap) (n : Nat) (s x : A1) (k : K R) : Option R :=
  match (match x with | .lf (.dat .s str) => (castT (.sl (.i .u8)) (.sl t) (u8s str)).map fun l => (l, []) | _ => listOf h t x) with
  | none => none
  | some (l2, i2) => match s with
    | .lf .nils => chk (fitL l2) (k (.v (.lf (.sl t n))) i2 [(n, some (.arr e t l2))])
    | .lf (.sl t' id) => match h id with
      | some (.arr e2 t2 l) => if t' = t2 ∧ e = e2 then (match castT (.sl t2) (.sl t) l with
        | some l1 => chk (fitL2 l1 l2) (k (.v (.lf (.sl t n))) (id :: i2) [(id, none), (n, some (.arr e t (catL l1 l2)))])
        | none => none) else none
      | _ => none
    | _ => none
def evLen {R : Type} (h : AHeap) (x : A1) (k : Int → List Nat → Option R) : Option R := match x with
  | .lf (.dat (.sl _) l) => k (lenL l) []
  | .lf (.dat .s str) => k (lenS str) []
  | .lf (.sl t id) => match h id with
    | some (.arr _ t' l) => if t = t' then k (lenL l) [id] else none
    | _ => none
  | .lf .nils => k 0 []
  | _ => none
def evIndexAddr {R : Type} (h : AHeap) (x i : A1) (k : AL → List Nat → Option R) : Option R := match x, i with
  | .lf (.dat (.sl t) l), .lf (.dat (.i _) j) => chk (inL j l) (k (.rp t (at_ t l j) 0) [])
  | .lf (.sl t id), .lf (.dat (.i _) j) => match h id with
    | some (.arr _ t' l) => if t = t' then chk (inL j l) (k (.elt t id (natI j) 0) [id]) else none
    | _ => none
  | _, _ => none
def optInt (d : Int) : Option A1 → Option Int
  | none => some d
  | some (.lf (.dat (.i _) j)) => some j
  | _ => none
def evSlice {R : Type} (x : A1) (lo hi : Option A1) (k : AL → Option R) : Option R := match x with
  | .lf (.dat .s str) => match optInt 0 lo, optInt (lenS str) hi with
    | some i, some j => chk (inCutS i j str) (k (.dat .s (cutS str i j)))
    | _, _ => none
  | .lf (.dat (.sl t) l) => match optInt 0 lo, optInt (lenL l) hi with
    | some i, some j => chk (inCutL i j l) (k (.dat (.sl t) (cutL l i j)))
    | _, _ => none
  | _ => none
/-- A part of a slice of ours: up to a place: a slice of ours, in its stead; from a place on: to be read. -/
def evSliceOwn {R : Type} (h : AHeap) (n : Nat) (et : Ty) (id : Nat) (lo hi : Option A1) (k : K R) : Option R := match h id with
  | some (.arr e t2 l) => if et = t2 then (match lo with
    | none => match hi with
      | some (.lf (.dat (.i _) j)) => chk (inCutL 0 j l) (k (.v (.lf (.sl et n))) [id] [(id, none), (n, some (.arr e t2 (cutL l 0 j)))])
      | _ => none
    | some lo => match optInt 0 (some lo), optInt (lenL l) hi with
      | some i, some j => chk (inCutL i j l) (k (.v (.lf (.vw et id i j))) [id] [])
      | _, _ => none) else none
  | _ => none
/-- The type of cells that are all data: for a variable that is never written again. -/
def tyOf : List AL → Option ((t : Ty) × t.den)
  | [] => none
  | [.dat t x] => if t.agg then none else some ⟨t, x⟩
  | .dat t x :: r => if t.agg then none else match tyOf r with
    | some ⟨t', y⟩ => some ⟨.pr t t', (x, y)⟩
    | none => none
  | _ => none
def boxTy : A1 → Option ((t : Ty) × t.den)
  | .lf (.dat t x) => if t.agg then none else some ⟨t, x⟩
  | .ag [.dat t x] => if t.agg then none else some ⟨.one t, x⟩
  | .ag l => tyOf l
  | _ => none
def places (tt : TTab) : List Field → Option (List (Nat × Nat))
  | [] => some []
  | f :: r => match tt f.type, places tt r with
    | some ti, some l => some ((f.offset, ti.sz) :: l)
    | _, _ => none
def fillParts (pl : List (Nat × Nat)) : List AL → List (Nat × A1) → Option (List AL)
  | cs, [] => some cs
  | cs, (f, v) :: r => match pl[f]? with
    | none => none
    | some (off, sz) => if v.leaves.length = sz ∧ off + sz ≤ cs.length ∧ v.leaves.all AL.known = true then fillParts pl (setMany cs off v.leaves) r else none
/-- The elements of a slice's literal, each given, in order. -/
def fillElems (h : AHeap) (t : Ty) : (k : Nat) → List (Nat × A1) → Option (List t.den)
  | _, [] => some []
  | k, (i, v) :: r => if i = k then (match a1To h t v with
    | some (x, []) => (fillElems h t (k + 1) r).map fun l => x :: l
    | _ => none) else none

def renL (ρ : Nat → Nat) : AL → AL
  | .ref id off => .ref (ρ id) off
  | .sl t id => .sl t (ρ id)
  | a => a
def renA (ρ : Nat → Nat) : A1 → A1
  | .lf a => .lf (renL ρ a)
  | .ag l => .ag (l.map (renL ρ))
def renO (ρ : Nat → Nat) : AObj → AObj
  | .cells l => .cells (l.map (renL ρ))
  | .arr e t l => .arr e t l
def flatSV : SV → Bool
  | .d t => t.scal
  | .p _ => false
  | _ => true
def flatSO : SO → Bool
  | .cells l => l.all flatSV
  | .arr _ t => t.scal
def Shp.flat (s : Shp) : Bool := s.sv.all flatSV && s.so.all flatSO
def resAV : List A1 → AV
  | [a] => .v a
  | l => .tp l
/-- The objects that were handed over, as they are behind the call: an array is as long as it was. -/
def lenSame {R : Type} (h : AHeap) (k : Option R) : Chg → Option R
  | [] => k
  | (id, o) :: r => match o with
    | some (.arr e t l) => match h id with
      | some (.arr e' t' l') => if e = e' ∧ t = t' then chk (sameLen l l') (lenSame h k r) else none
      | _ => none
    | some (.cells l) => match h id with
      | some (.cells l') => if l.length = l'.length then lenSame h k r else none
      | _ => none
    | none => none
def zipIds : Nat → (Nat → Nat) → List AObj → Chg
  | _, _, [] => []
  | k, ρ, o :: r => (ρ k, some (renO ρ o)) :: zipIds (k + 1) ρ r
def callMap (m : Map) (io n : Nat) (k : Nat) : Nat := if k < io then (match m.get k with | some (some a) => a | _ => n + k) else n + (k - io)
def evCall {R : Type} (s : Sig) (h : AHeap) (n : Nat) (as : List A1) (k : K R) : Option R :=
  match unpack s.a h as [] with
  | none => none
  | some (xs, m, ds) => if m.all (fun p => p.2.isSome) && (s.r.flat || ds.isEmpty) && decide (s.io ≤ s.r.so.length) then
    bnd (s.fn xs) fun ys =>
      let ρ := callMap m s.io n
      let c := zipIds 0 ρ (packO s.r.so ys.2)
      lenSame h (k (resAV ((packV s.r.sv ys.1).map (renA ρ))) (m.ids ++ ds) c) (c.take s.io) else none
/-- Slices of ours that are to be data from now on. -/
def frzL (h : AHeap) (ids : List Nat) : AL → AL
  | .sl t id => if ids.contains id then (match h id with
    | some (.arr _ t' l) => if t = t' then .dat (.sl t') l else .unk
    | _ => .unk) else .sl t id
  | .vw t id i j => if ids.contains id then (match h id with
    | some (.arr _ t' l) => if t = t' then .dat (.sl t') (cutL l i j) else .unk
    | _ => .unk) else .vw t id i j
  | a => a
def frzA (h : AHeap) (ids : List Nat) : A1 → A1
  | .lf a => .lf (frzL h ids a)
  | .ag l => .ag (l.map (frzL h ids))
def frzV (h : AHeap) (ids : List Nat) : AV → AV
  | .v a => .v (frzA h ids a)
  | .tp l => .tp (l.map (frzA h ids))
def slIds : A1 → List Nat
  | .lf (.sl _ id) => [id]
  | .lf _ => []
  | .ag l => l.filterMap fun | .sl _ id => some id | _ => none
def killAll (ids : List Nat) : Chg := ids.map fun id => (id, none)
/-- What of ours is lent to a function whose answer may lead to it: data from then on. -/
def lentIds (s : Sig) (h : AHeap) (as : List A1) : List Nat := if s.r.flat then [] else match unpack s.a h as [] with
  | some (_, _, ds) => ds
  | none => []
/-- The zero value's cells, as data. -/
def zrd : Ty → List Value → Bool
  | .pr x y, vs => zrd x (vs.take x.sz) && zrd y (vs.drop x.sz)
  | .one t, vs => zrd t vs
  | .i k, vs => match vs with | [.int k' n] => decide (k' = k) && decide (n = 0) | _ => false
  | .b, vs => match vs with | [.bool false] => true | _ => false
  | .s, vs => match vs with | [.string s] => decide (s.data = #[]) | _ => false
  | .e, vs => match vs with | [.nilIface] => true | _ => false
  | .sl _, vs => match vs with | [.slice none 0 0] => true | _ => false
  | _, _ => false
@[reducible] def okMake (l c : Int) : Bool := decide (0 ≤ l ∧ l ≤ c ∧ c ≤ 2 ^ 38)
@[reducible] def zeros (t : Ty) (l : Int) : List t.den := List.replicate l.toNat t.dflt
/-- A function value: its arguments, then what it has caught. -/
def mkClo (s : Sig) (np : Nat) (h : AHeap) (caps : List A1) : Option AL := match s with
  | ⟨⟨sv, []⟩, ⟨[.d r], []⟩, fn⟩ => if r.scal && !r.agg then (match np, sv, fn with
    | 1, .d a :: cs, fn => match unV h cs caps [] with
      | some (c, [], []) => some (.dat (.f1 a r) fun x => (fn ((x, c), ())).map fun y => y.1.1)
      | _ => none
    | 2, .d a :: .d a2 :: cs, fn => match unV h cs caps [] with
      | some (c, [], []) => some (.dat (.f2 a a2 r) fun x x2 => (fn ((x, x2, c), ())).map fun y => y.1.1)
      | _ => none
    | _, _, _ => none) else none
  | _ => none

structure Cfg where
  tt : TTab
  g : GTab
  /-- Temporaries whose box is never written. -/
  fz : List Nat
  /-- How many temporaries; how many objects are handed in and back. -/
  nt : Nat := 0
  io : Nat := 0

def evBuiltin {R : Type} (c : Cfg) (b : Builtin) (argTypes : Array TypeId) (h : AHeap) (n : Nat) (as : List A1) (k : K R) : Option R := match b, as with
  | .len, [x] => if argTypes.size ≠ 1 then none else match (argTypes[0]?).bind c.tt with
    | some ts => match ts.u, x with
      | .string, .lf (.dat .s str) => k (.v (.lf (.dat (.i .i64) (lenS str)))) [] []
      | .slice _, .lf (.dat .s _) => none
      | .slice _, x => evLen h x fun l i => k (.v (.lf (.dat (.i .i64) l))) i []
      | _, _ => none
    | none => none
  | .append, [s, x] => if argTypes.size ≠ 2 then none else match (argTypes[0]?).bind c.tt, (argTypes[1]?).bind c.tt with
    | some ts, some tx => match ts.u, ts.ety, tx.u with
      | .slice el, some t, .slice _ => match c.tt el with
        | some te => if te.sz = t.sz ∧ te.bytes ≤ 256 then evAppend el t h n s x k else none
        | none => none
      | .slice el, some t, .string => match c.tt el with
        | some te => if te.sz = t.sz ∧ te.bytes ≤ 256 then evAppend el t h n s x k else none
        | none => none
      | _, _, _ => none
    | _, _ => none
  | .min, [.lf (.dat (.i kx) x), .lf (.dat (.i ky) y)] => if kx = ky then lf k (.dat (.i kx) (minI x y)) else none
  | .max, [.lf (.dat (.i kx) x), .lf (.dat (.i ky) y)] => if kx = ky then lf k (.dat (.i kx) (maxI x y)) else none
  | _, _ => none

/-- An argument: a function that is named is a function value. -/
def opdC (g : GTab) (h : AHeap) (t : Tmps) (x : Operand) : A1 := match x with
  | .func f => match g f with
    | some sg => match mkClo sg sg.a.sv.length h [] with
      | some a => .lf a
      | none => .lf .unk
    | none => .lf .unk
  | x => opd t x
def evOp {R : Type} (c : Cfg) (o : Oper) (s : St) (k : K R) : Option R := match o.op with
  | .move x | .assign x => k (opdV s.t x) [] []
  | .pick q a b => match opd s.t q with
    | .lf (.dat .b v) => match opd s.t a, opd s.t b with
      | .lf (.dat .b x), .lf (.dat .b y) => lf k (.dat .b (pickB v x y))
      | x, y => ifB v (k (.v x) [] []) (k (.v y) [] [])
    | _ => none
  | .alloc t => match c.tt t with
    | some ti => k (.v (.lf (.ref s.n 0))) [] [(s.n, some (.cells (constA1 ti.zero).leaves))]
    | none => none
  | .box _ x => match (if (o.dst.map fun d => c.fz.contains d) == some true then boxTy (opd s.t x) else none) with
    | some ⟨t, y⟩ => lf k (.rp t y 0)
    | none => if (opd s.t x).leaves.all AL.known then k (.v (.lf (.ref s.n 0))) [] [(s.n, some (.cells (opd s.t x).leaves))] else none
  | .build t ps => match c.tt t with
    | some ti => match ti.u with
      | .struct fs => match places c.tt fs.toList with
        | some pl => match fillParts pl (constA1 ti.zero).leaves (ps.toList.map fun p => (p.1, opd s.t p.2)) with
          | some l => k (.v (.ag l)) [] []
          | none => none
        | none => none
      | _ => none
    | none => none
  | .buildSlice t n ps => match c.tt t with
    | some ti => match ti.u, ti.ety with
      | .slice el, some et => match c.tt el with
        | some te => if te.sz = et.sz ∧ n * te.sz ≤ 2 ^ 20 ∧ ps.size = n ∧ 0 < et.sz then (match (ps.toList.map fun p => slIds (opd s.t p.2)).flatten with
          | [] => (match fillElems s.h et 0 (ps.toList.map fun p => (p.1, opd s.t p.2)) with
            | some l => k (.v (.lf (.sl et s.n))) [] [(s.n, some (.arr el et l))]
            | none => none)
          | i :: is => if (i :: is).all (fun id => (s.h id).isSome) then (match fillElems (s.h.puts (killAll (i :: is))) et 0 (ps.toList.map fun p => (p.1, opd (fun d => frzV s.h (i :: is) (s.t d)) p.2)) with
            | some l => k (.v (.lf (.sl et s.n))) (i :: is) (killAll (i :: is) ++ [(s.n, some (.arr el et l))])
            | none => none) else none) else none
        | none => none
      | _, _ => none
    | none => none
  | .makeSlice t l cp => match c.tt t with
    | some ti => match ti.u, ti.ety with
      | .slice el, some et => match c.tt el, opd s.t l, opd s.t cp with
        | some te, .lf (.dat (.i _) n), .lf (.dat (.i _) m) => if te.sz = et.sz ∧ zrd et te.zero.cells.toList = true ∧ te.bytes ≤ 256 then chk (okMake n m) (k (.v (.lf (.sl et s.n))) [] [(s.n, some (.arr el et (zeros et n)))]) else none
        | _, _, _ => none
      | _, _ => none
    | none => none
  | .load t a => match c.tt t with
    | some ti => evLoad ti s.h (opd s.t a) fun v i => k (.v v) i []
    | none => none
  | .store t a v => match c.tt t with
    | some ti => match opd s.t a with
      | .lf (.elt _ _ _ _) => match slIds (opd s.t v) with
        | [] => evStore ti s.h (opd s.t a) (opd s.t v) k
        | i :: is => if (i :: is).all (fun id => (s.h id).isSome) then
            evStore ti (s.h.puts (killAll (i :: is))) (opd (fun d => frzV s.h (i :: is) (s.t d)) a) (opd (fun d => frzV s.h (i :: is) (s.t d)) v) fun av T ch => k av ((i :: is) ++ T) (killAll (i :: is) ++ ch)
          else none
      | _ => evStore ti s.h (opd s.t a) (opd s.t v) k
    | none => none
  | .nilCheck x => match opd s.t x with
    | .lf (.ref id off) => match s.h id with
      | some (.cells _) => k (.v (.lf (.ref id off))) [id] []
      | _ => none
    | .lf (.rp t y off) => lf k (.rp t y off)
    | _ => none
  | .binOp op t x y _ => evBin ((c.tt t).map (·.u)) (match y with | .const _ => true | _ => false) op (opd s.t x) (opd s.t y) fun v => k (.v v) [] []
  | .unOp op _ x => evUn op (opd s.t x) fun v => k (.v v) [] []
  | .convert src dst x => match c.tt src, c.tt dst with
    | some ts, some td => match ts.u, td.u, opd s.t x with
      | .int _, .int kd, .lf (.dat (.i _) n) => lf k (.dat (.i kd) (wrapK kd n))
      | .string, .string, .lf (.dat .s str) => lf k (.dat .s str)
      | .slice el, .string, x => match c.tt el, listOf s.h (.i .u8) x with
        | some te, some (l, i) => match te.u with
          | .int .u8 => k (.v (.lf (.dat .s (s8 l)))) i []
          | _ => none
        | _, _ => none
      | _, _, _ => none
    | _, _ => none
  | .makeFunc (.func f) first caps => if first.isEmpty then (match c.g f with
    | some sg => match mkClo sg (sg.a.sv.length - caps.size) s.h (caps.toList.map (opd s.t)) with
      | some a => lf k a
      | none => none
    | none => none) else none
  | .slice t x lo hi none => match c.tt t with
    | some ti => match ti.u with
      | .string => match opd s.t x with
        | .lf (.dat .s str) => evSlice (.lf (.dat .s str)) (lo.map (opd s.t)) (hi.map (opd s.t)) fun a => lf k a
        | _ => none
      | .slice el => match c.tt el, opd s.t x with
        | some te, .lf (.dat (.sl et) l) => if te.sz = et.sz then evSlice (.lf (.dat (.sl et) l)) (lo.map (opd s.t)) (hi.map (opd s.t)) fun a => lf k a else none
        | some te, .lf (.sl et id) => if te.sz = et.sz then evSliceOwn s.h s.n et id (lo.map (opd s.t)) (hi.map (opd s.t)) k else none
        | _, _ => none
      | _ => none
    | none => none
  | .fieldAddr t x f => match c.tt t with
    | some ti => match fld ti.u f with
      | some fi => match c.tt fi.type with
        | some tf => if tf.sz = 0 then none else (match opd s.t x with
          | .lf (.ref id off) => match s.h id with
            | some (.cells _) => k (.v (.lf (.ref id (off + fi.offset)))) [id] []
            | _ => none
          | .lf (.rp t y off) => lf k (.rp t y (off + fi.offset))
          | .lf (.elt t id idx off) => match s.h id with
            | some (.arr _ t' _) => if t = t' then k (.v (.lf (.elt t id idx (off + fi.offset)))) [id] [] else none
            | _ => none
          | _ => none)
        | none => none
      | none => none
    | none => none
  | .field t x f => match c.tt t with
    | some ti => match fld ti.u f with
      | some fi => match c.tt fi.type, opd s.t x with
        | some tf, .ag l => match partOf tf l fi.offset with
          | some v => k (.v v) [] []
          | none => none
        | _, _ => none
      | none => none
    | none => none
  | .indexAddr t x i => match c.tt t with
    | some ti => match ti.u with
      | .slice el => match c.tt el with
        | some te => match opd s.t x with
          | .lf (.dat (.sl et) l) => if te.sz = et.sz then evIndexAddr s.h (.lf (.dat (.sl et) l)) (opd s.t i) fun a i => k (.v (.lf a)) i [] else none
          | .lf (.sl et id) => if te.sz = et.sz then evIndexAddr s.h (.lf (.sl et id)) (opd s.t i) fun a i => k (.v (.lf a)) i [] else none
          | _ => none
        | none => none
      | _ => none
    | none => none
  | .index t x i => match c.tt t with
    | some ti => match ti.u, opd s.t x, opd s.t i with
      | .string, .lf (.dat .s str), .lf (.dat (.i _) j) => chk (inS j str) (lf k (.dat (.i .u8) (byteAt str j)))
      | _, _, _ => none
    | none => none
  | .extract x i => match opdV s.t x with
    | .tp l => match l[i]? with
      | some a => k (.v a) [] []
      | none => none
    | _ => none
  | .call ⟨.builtin b, args, tys⟩ => evBuiltin c b tys s.h s.n (args.toList.map (opd s.t)) k
  | .call ⟨.value (.func f), args, _⟩ => match c.g f with
    | some sg => match lentIds sg s.h (args.toList.map (opdC c.g s.h s.t)) with
      | [] => evCall sg s.h s.n (args.toList.map (opdC c.g s.h s.t)) k
      | i :: is => if (i :: is).all (fun id => (s.h id).isSome) then
          evCall sg (s.h.puts (killAll (i :: is))) s.n (args.toList.map (opdC c.g (s.h.puts (killAll (i :: is))) fun d => frzV s.h (i :: is) (s.t d))) fun av T ch => k av ((i :: is) ++ T) (killAll (i :: is) ++ ch)
        else none
    | none => none
  | .call ⟨.value f, args, _⟩ => match opd s.t f, args.toList.map (opd s.t) with
    | .lf (.dat (.f1 a r) g), [x] => if r.scal && !r.agg then (match a1To s.h a x with
      | some (v, i) => bnd (g v) fun y => k (.v (.lf (.dat r y))) i []
      | none => none) else none
    | .lf (.dat (.f2 a a2 r) g), [x, x2] => if r.scal && !r.agg then (match a1To s.h a x, a1To s.h a2 x2 with
      | some (v, i), some (v2, i2) => bnd (g v v2) fun y => k (.v (.lf (.dat r y))) (i ++ i2) []
      | _, _ => none) else none
    | _, _ => none
  | _ => none

/-! ### Regions and code -/
def Tmps.put (t : Tmps) : Option Tmp → AV → Tmps
  | some d, v => fun i => if i = d then v else t i
  | none, _ => t
def dstOf (ops : Array Oper) (j : Nat) : Option Tmp := (ops[j]?).bind (·.dst)
def forceN {R : Type} (n : Nat) (k : Nat → R) : R := match n with
  | 0 => k 0
  | m + 1 => k (m + 1)
/-! Values are worked out before they are kept. -/
def frcAL {R : Type} (a : AL) (k : AL → R) : R := match a with
  | .unk => k .unk
  | .dat t x => k (.dat t x)
  | .nils => k .nils
  | .ref i o => forceN i fun i => forceN o fun o => k (.ref i o)
  | .sl t i => forceN i fun i => k (.sl t i)
  | .elt t i j o => forceN i fun i => forceN o fun o => k (.elt t i j o)
  | .rp t x o => forceN o fun o => k (.rp t x o)
  | .anyb => k .anyb
  | .vw t i a b => forceN i fun i => k (.vw t i a b)
def frcL {R : Type} : List AL → (List AL → R) → R
  | [], k => k []
  | a :: l, k => frcAL a fun a => frcL l fun l => k (a :: l)
def frcA {R : Type} (a : A1) (k : A1 → R) : R := match a with
  | .lf a => frcAL a fun a => k (.lf a)
  | .ag l => frcL l fun l => k (.ag l)
def frcAs {R : Type} : List A1 → (List A1 → R) → R
  | [], k => k []
  | a :: l, k => frcA a fun a => frcAs l fun l => k (a :: l)
def frcV {R : Type} (a : AV) (k : AV → R) : R := match a with
  | .v a => frcA a fun a => k (.v a)
  | .tp l => frcAs l fun l => k (.tp l)
def frcO {R : Type} (o : Option AObj) (k : Option AObj → R) : R := match o with
  | none => k none
  | some (.cells l) => frcL l fun l => k (some (.cells l))
  | some (.arr e t l) => k (some (.arr e t l))
def frcC {R : Type} : Chg → (Chg → R) → R
  | [], k => k []
  | (i, o) :: c, k => forceN i fun i => frcO o fun o => frcC c fun c => k ((i, o) :: c)
theorem forceN_eq {R : Type} (n : Nat) (k : Nat → R) : forceN n k = k n := by cases n <;> rfl
theorem frcAL_eq {R : Type} (a : AL) (k : AL → R) : frcAL a k = k a := by cases a <;> simp [frcAL, forceN_eq]
theorem frcL_eq {R : Type} : ∀ (l : List AL) (k : List AL → R), frcL l k = k l
  | [], _ => rfl
  | a :: l, k => by simp [frcL, frcAL_eq, frcL_eq l]
theorem frcA_eq {R : Type} (a : A1) (k : A1 → R) : frcA a k = k a := by cases a <;> simp [frcA, frcAL_eq, frcL_eq]
theorem frcAs_eq {R : Type} : ∀ (l : List A1) (k : List A1 → R), frcAs l k = k l
  | [], _ => rfl
  | a :: l, k => by simp [frcAs, frcA_eq, frcAs_eq l]
theorem frcV_eq {R : Type} (a : AV) (k : AV → R) : frcV a k = k a := by cases a <;> simp [frcV, frcA_eq, frcAs_eq]
theorem frcO_eq {R : Type} (o : Option AObj) (k : Option AObj → R) : frcO o k = k o := by
  cases o with
  | none => rfl
  | some o => cases o <;> simp [frcO, frcL_eq]
theorem frcC_eq {R : Type} : ∀ (c : Chg) (k : Chg → R), frcC c k = k c
  | [], _ => rfl
  | (i, o) :: c, k => by simp [frcC, forceN_eq, frcO_eq, frcC_eq c]
/-- What was looked at, and what was changed, operation by operation. -/
abbrev Trace := List (List Nat × List Nat)
def after1 (s : St) (o : Oper) (v : AV) (c : Chg) : St := ⟨s.t.put o.dst v, s.h.puts c, s.n + 16⟩
def evOps {R : Type} (c : Cfg) (ops : Array Oper) : List Oper → St → (St → Trace → Option R) → Option R
  | [], s, k => k s []
  | o :: rest, s, k =>
    let run (s : St) : Option R := evOp c o s fun v T ch => frcV v fun v => frcC ch fun ch => forceN (s.n + 16) fun n => if (o.dst.all fun d => decide (d < c.nt)) && ch.all (fun p => decide (p.1 < n) && (p.2.isSome || decide (c.io ≤ p.1))) then evOps c ops rest ⟨Tmps.put s.t o.dst v, s.h.puts ch, n⟩ fun s' tr => k s' ((T, ch.map (·.1)) :: tr) else none
    let skip (s : St) : Option R := evOps c ops rest (after1 s o (.v (.lf .unk)) []) fun s' tr => k s' (([], []) :: tr)
    match o.guard with
    | none => run s
    | some (j, want) => match dstOf ops j with
      | none => none
      | some d => match s.t d with
        | .v (.lf (.dat .b x)) =>
          let s1 := { s with t := s.t.put (some d) (.v (.lf (.dat .b true))) }
          let s0 := { s with t := s.t.put (some d) (.v (.lf (.dat .b false))) }
          ifB x (if want then run s1 else skip s1) (if want then skip s0 else run s0)
        | _ => none
/-- Of two operations that may come in either order, neither writes what the other names, neither changes an object that the other looks at or changes. -/
def apartOk (ops : Array Oper) (x y : Oper) (tx ty : List Nat × List Nat) : Bool :=
  x.apart ops y && tx.2.all (fun a => !ty.1.contains a && !ty.2.contains a) && ty.2.all (fun a => !tx.1.contains a)
/-- Which operations must come before this one, as bits. -/
def preOf (ms : List Nat) (o : Oper) : Nat := o.after.toList.foldl (fun s e => if Region.binds .any e then s ||| 2 ^ e.on ||| ms.getD e.on 0 else s) 0
def drawGo (ops : Array Oper) : (j : Nat) → List Oper → Trace → (ms : List Nat) → (acc : List (Nat × Oper × (List Nat × List Nat))) → Bool
  | _, [], tr, _, _ => match tr with | [] => true | _ => false
  | j, o :: l, tr, ms, acc => match tr with
    | [] => false
    | t :: tr => forceN (preOf ms o) fun v => o.after.toList.all (fun e => !Region.binds .any e || decide (e.on < j)) && acc.all (fun p => v.testBit p.1 || apartOk ops p.2.1 o p.2.2 t) && drawGo ops (j + 1) l tr (ms ++ [v]) ((j, o, t) :: acc)
def drawOk (ops : Array Oper) (tr : Trace) : Bool := drawGo ops 0 ops.toList tr [] []

/-- A shape with its places among the temporaries. -/
structure LShp where
  at_ : List Tmp
  s : Shp
def putAll (t : Tmps) : List Tmp → List A1 → Tmps
  | d :: ds, a :: as => putAll (t.put (some d) (.v a)) ds as
  | _, _ => t
def enumO : Nat → List AObj → AHeap
  | _, [] => fun _ => none
  | k, o :: r => fun i => if i = k then some o else enumO (k + 1) r i
def noTmps : Tmps := fun _ => .v (.lf .unk)
def packS (l : LShp) (x : l.s.den) : St := ⟨putAll noTmps l.at_ (packV l.s.sv x.1), enumO 0 (packO l.s.so x.2), l.s.so.length⟩
def slotA1 (t : Tmps) (d : Tmp) : A1 := match t d with | .v a => a | .tp _ => .lf .unk
/-- The objects that came in keep their numbers. -/
def ioSame (io : Nat) (m : Map) : Bool := (List.range io).all fun k => match m.get k with | some (some a) => decide (a = k) | _ => false
def unpackS (c : Cfg) (l : LShp) (s : St) : Option l.s.den := match unpack l.s s.h (l.at_.map (slotA1 s.t)) [] with
  | none => none
  | some (x, m, _) => if ioSame c.io m && l.at_.all (fun d => decide (d < c.nt)) then some x else none

/-- What is added to the code by hand: the shape at a loop's head, and joins. -/
inductive Ann where
  | no
  | seq (a b : Ann)
  | cond (a b : Ann)
  | sub (a : Ann)
  | loop (s : LShp) (a : Ann)
  | join (s : LShp) (a : Ann)
  /-- Slices of ours in these places are data from now on. -/
  | frz (ds : List Tmp)
def Ann.fst : Ann → Ann | .seq a _ => a | .cond a _ => a | _ => .no
def Ann.snd : Ann → Ann | .seq _ b => b | .cond _ b => b | _ => .no
def Ann.inner : Ann → Ann | .sub a => a | _ => .no

def joined {R : Type} (l : LShp) (o : Option (l.s.den ⊕ R)) (k : St → Option R) : Option R := bnd o fun z => sumE (fun y => k (packS l y)) (fun r => some r) z
def toInl {Y R : Type} (o : Option Y) : Option (Y ⊕ R) := o.map .inl
def toInr {Y R : Type} (o : Option R) : Option (Y ⊕ R) := o.map .inr

def avIds : AV → List Nat
  | .v a => slIds a
  | .tp _ => []
def frzS (c : Cfg) (ds : List Tmp) (s : St) : Option St :=
  let ids := (ds.map fun d => avIds (s.t d)).flatten
  if ids.all (fun id => (s.h id).isSome && decide (c.io ≤ id)) then some ⟨fun d => frzV s.h ids (s.t d), s.h.puts (killAll ids), s.n⟩ else none
/-- The code, from a state on: 'kn' behind it, 'ke' where it leaves a block, 'kr' where it returns. -/
noncomputable def ev (c : Cfg) : Code → Ann → {R : Type} → St → (kn : St → Option R) → (ke : Nat → St → Option R) → (kr : St → Option R) → Option R
  | .skip, _, _, s, kn, _, _ => kn s
  | .region _ ops draw, .join l _, _, s, kn, _, _ => joined l (evOps c ops ops.toList s fun s' tr => if !draw || drawOk ops tr then toInl (unpackS c l s') else none) kn
  | .region _ ops draw, .frz ds, _, s, kn, _, _ => match frzS c ds s with
    | some s => evOps c ops ops.toList s fun s' tr => if !draw || drawOk ops tr then kn s' else none
    | none => none
  | .region _ ops draw, _, _, s, kn, _, _ => evOps c ops ops.toList s fun s' tr => if !draw || drawOk ops tr then kn s' else none
  | .seq a b, .join l ann, _, s, kn, ke, kr =>
    joined l (ev c a ann.fst s (fun s' => ev c b ann.snd s' (fun s'' => toInl (unpackS c l s'')) (fun i s'' => toInr (ke i s'')) (fun s'' => toInr (kr s''))) (fun i s'' => toInr (ke i s'')) (fun s'' => toInr (kr s''))) kn
  | .seq a b, ann, _, s, kn, ke, kr => ev c a ann.fst s (fun s' => ev c b ann.snd s' kn ke kr) ke kr
  | .cond q x y, .join l ann, _, s, kn, ke, kr => match opd s.t q with
    | .lf (.dat .b v) => joined l (ifB v (ev c x ann.fst s (fun s'' => toInl (unpackS c l s'')) (fun i s'' => toInr (ke i s'')) (fun s'' => toInr (kr s''))) (ev c y ann.snd s (fun s'' => toInl (unpackS c l s'')) (fun i s'' => toInr (ke i s'')) (fun s'' => toInr (kr s'')))) kn
    | _ => none
  | .cond q x y, ann, _, s, kn, ke, kr => match opd s.t q with
    | .lf (.dat .b v) => ifB v (ev c x ann.fst s kn ke kr) (ev c y ann.snd s kn ke kr)
    | .lf .anyb => both (ev c x ann.fst s kn ke kr) (ev c y ann.snd s kn ke kr)
    | _ => none
  | .block id body, .join l ann, _, s, kn, ke, kr =>
    joined l (ev c body ann s (fun s'' => toInl (unpackS c l s'')) (fun i s'' => if i = id then toInl (unpackS c l s'') else toInr (ke i s'')) (fun s'' => toInr (kr s''))) kn
  | .block id body, ann, _, s, kn, ke, kr => ev c body ann.inner s kn (fun i s'' => if i = id then kn s'' else ke i s'') kr
  | .loop body, .loop l ann, _, s, _, ke, kr => match unpackS c l s with
    | none => none
    | some x => iter (fun y => ev c body ann (packS l y) (fun s'' => toInl (unpackS c l s'')) (fun i s'' => toInr (ke i s'')) (fun s'' => toInr (kr s''))) x
  | .exit id, _, _, s, _, ke, _ => ke id s
  | .ret, _, _, s, _, _, kr => kr s
  | .scope body, ann, _, s, kn, ke, kr => ev c body ann.inner s kn ke kr
  | _, _, _, _, _, _, _ => none

def resA1 {R : Type} (c : Cfg) (s : St) : List ResultVar → (List A1 → Option R) → Option R
  | [], k => k []
  | .tmp d :: r, k => resA1 c s r fun l => k (slotA1 s.t d :: l)
  | .cell a t :: r, k => match c.tt t, slotA1 s.t a with
    | some ti, .lf (.ref id off) => match s.h id with
      | some (.cells l) => match partOf ti l off with
        | some v => resA1 c s r fun l => k (v :: l)
        | none => none
      | _ => none
    | _, _ => none
def ioMap : Nat → Map
  | 0 => []
  | n + 1 => ioMap n ++ [(n, some n)]
def startT (as : List A1) : Tmps := fun i => match as[i]? with | some a => .v a | none => .v (.lf .unk)
/-- A function's whole answer. -/
noncomputable def evFn (c : Cfg) (fn : Func) (ann : Ann) (a r : Shp) (x : a.den) : Option r.den :=
  match fn.body with
  | none => none
  | some code => if (packV a.sv x.1).length ≤ fn.ntmps then
    let c := { c with nt := fn.ntmps, io := a.so.length }
    let done (s : St) : Option r.den := resA1 c s fn.results.toList fun l => (unpack r s.h l (ioMap a.so.length)).map fun p => p.1
    ev c code ann ⟨startT (packV a.sv x.1), enumO 0 (packO a.so x.2), a.so.length⟩ done (fun _ _ => none) done else none
end Go.CE
