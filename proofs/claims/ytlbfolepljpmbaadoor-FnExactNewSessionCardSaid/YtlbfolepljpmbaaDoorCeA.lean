/-
  A computed evaluator over the model's code, part A: types of data, what it is for a value of the model to read as such data, abstract values and an abstract heap.
-/
import Derived.Below
import Derived.Orders
import Derived.Laws.Slices
namespace Go.CE
set_option linter.all false
set_option linter.unusedSectionVars false
open Go Go.RowKit

/-- The kinds of data: whole numbers, bools, strings, a nil test, slices, pairs of fields (structs, flat), a struct of one field, functions of one or two arguments. -/
inductive Ty where
  | i (k : IntKind) | b | s | e | sl (t : Ty) | pr (x y : Ty) | one (t : Ty) | f1 (a r : Ty) | f2 (a c r : Ty)
  deriving DecidableEq, Inhabited

@[reducible] def Ty.den : Ty → Type
  | .i _ => Int
  | .b => Bool
  | .s => ByteArray
  | .e => Bool
  | .sl t => List t.den
  | .pr x y => x.den × y.den
  | .one t => t.den
  | .f1 a r => a.den → Option r.den
  | .f2 a c r => a.den → c.den → Option r.den

def Ty.dflt : (t : Ty) → t.den
  | .i _ => (0 : Int)
  | .b => false
  | .s => ⟨#[]⟩
  | .e => true
  | .sl _ => []
  | .pr x y => (x.dflt, y.dflt)
  | .one t => t.dflt
  | .f1 _ _ => fun _ => none
  | .f2 _ _ _ => fun _ _ => none

/-- How many cells. -/
def Ty.sz : Ty → Nat
  | .pr x y => x.sz + y.sz
  | .one t => t.sz
  | _ => 1

def Ty.agg : Ty → Bool
  | .pr _ _ | .one _ => true
  | _ => false

/-- No memory behind it. -/
def Ty.scal : Ty → Bool
  | .i _ | .b | .s | .e => true
  | .pr x y => x.scal && y.scal
  | .one t => t.scal
  | _ => false

def Ext (F : Nat → Prop) (w w' : World) : Prop := w.heap.size ≤ w'.heap.size ∧ ∀ b, F b → w'.heap[b]? = w.heap[b]?
/-- Package-level variables that hold what they were laid with: their blocks, and what is said of a world. -/
class Tab where
  blocks : List Nat
  ok : World → Prop
  keep : ∀ w w' : World, (∀ b ∈ blocks, w'.heap[b]? = w.heap[b]?) → ok w → ok w'
variable [Tab]
def Held (F : Nat → Prop) (w : World) : Prop := (∀ b ∈ Tab.blocks, F b) ∧ Tab.ok w
def Closed (F : Nat → Prop) (w : World) : Prop := (∀ b, F b → b < w.heap.size) ∧ Held F w
def Enters (P : Program) (f : FuncId) : Prop := ∃ fn c, P.funcs[f]? = some fn ∧ fn.body = some c ∧ (fn.name == "runtime.NumGoroutine") = false
def cellsAt (w : World) (b o : Nat) (cs : List Value) : Prop := ∀ j (h : j < cs.length), w.cell? ⟨b, o + j, none⟩ = some cs[j]
def asVal (t : Ty) (vs : List Value) : Value := if t.agg then .agg vs.toArray else vs.headD undef

/-- The elements one behind the other. -/
def RdAll {A : Type} (R : A → List Value → Prop) : List A → List Value → Prop
  | [], vs => vs = []
  | x :: l, vs => ∃ a r, vs = a ++ r ∧ R x a ∧ RdAll R l r
theorem RdAll.mono {A : Type} {R R' : A → List Value → Prop} (h : ∀ x vs, R x vs → R' x vs) : ∀ {l : List A} {vs : List Value}, RdAll R l vs → RdAll R' l vs
  | [], _, r => r
  | _ :: _, _, ⟨a, r, e, h1, h2⟩ => ⟨a, r, e, h _ _ h1, h2.mono h⟩
theorem RdAll.append {A : Type} {R : A → List Value → Prop} : ∀ {l l' : List A} {vs vs' : List Value}, RdAll R l vs → RdAll R l' vs' → RdAll R (l ++ l') (vs ++ vs')
  | [], _, _, _, r, r' => by cases r; exact r'
  | _ :: _, _, _, _, ⟨a, r, e, h1, h2⟩, r' => ⟨a, r ++ _, by rw [e, List.append_assoc], h1, h2.append r'⟩
theorem RdAll.length {A : Type} {R : A → List Value → Prop} {n : Nat} (h : ∀ x vs, R x vs → vs.length = n) : ∀ {l : List A} {vs : List Value}, RdAll R l vs → vs.length = l.length * n
  | [], _, r => by cases r; simp
  | _ :: l, _, ⟨a, r, e, h1, h2⟩ => by rw [e, List.length_append, h _ _ h1, h2.length h, List.length_cons, Nat.add_mul, Nat.one_mul, Nat.add_comm]
theorem RdAll.get {A : Type} {R : A → List Value → Prop} {n : Nat} (h : ∀ x vs, R x vs → vs.length = n) : ∀ {l : List A} {vs : List Value}, RdAll R l vs → ∀ i (hi : i < l.length), R l[i] ((vs.drop (i * n)).take n)
  | x :: l, _, ⟨a, r, e, h1, h2⟩, 0, _ => by
    subst e; have := h _ _ h1; subst this; simpa using h1
  | x :: l, _, ⟨a, r, e, h1, h2⟩, i + 1, hi => by
    subst e; have ha := h _ _ h1
    have := h2.get h i (by simpa using hi)
    rw [List.getElem_cons_succ, Nat.add_mul, Nat.one_mul, Nat.add_comm, ← ha, ← List.drop_drop, List.drop_left, ha]; exact this
theorem RdAll.set {A : Type} {R : A → List Value → Prop} {n : Nat} (h : ∀ x vs, R x vs → vs.length = n) {y : A} {ys : List Value} (hy : R y ys) : ∀ {l : List A} {vs : List Value}, RdAll R l vs → ∀ i, i < l.length →
    RdAll R (l.set i y) (vs.take (i * n) ++ ys ++ vs.drop (i * n + n))
  | x :: l, _, ⟨a, r, e, h1, h2⟩, 0, _ => by
    subst e; have := h _ _ h1
    refine ⟨ys, r, ?_, hy, h2⟩
    simp [← this]
  | x :: l, _, ⟨a, r, e, h1, h2⟩, i + 1, hi => by
    subst e; have ha := h _ _ h1
    have := h2.set h hy i (by simpa using hi)
    refine ⟨a, _, ?_, h1, this⟩
    rw [Nat.add_mul, Nat.one_mul, Nat.add_comm (i * n) n, Nat.add_assoc, ← ha, List.take_length_add_append, ← List.drop_drop, List.drop_left, List.append_assoc, List.append_assoc]
    simp [List.append_assoc, Nat.add_comm]

/-- The cells' values 'vs' read as x; what they lead to lies in blocks of F. -/
def rd (P : Program) : (t : Ty) → (F : Nat → Prop) → (w : World) → (x : t.den) → (vs : List Value) → Prop
  | .i k, _, _, x, vs => vs = [.int k x]
  | .b, _, _, x, vs => vs = [.bool x]
  | .s, _, _, x, vs => vs = [.string x]
  | .e, _, _, x, vs => (x = true ∧ vs = [.nilIface]) ∨ (x = false ∧ ∃ t v, vs = [.iface t v])
  | .sl t, F, w, l, vs => ∃ ad cap, vs = [.slice ad l.length cap] ∧ l.length ≤ cap ∧
      (l = [] ∨ ∃ b o cs, ad = some ⟨b, o, none⟩ ∧ F b ∧ RdAll (rd P t F w) l cs ∧ cellsAt w b o cs)
  | .pr x y, F, w, p, vs => ∃ l1 l2, vs = l1 ++ l2 ∧ rd P x F w p.1 l1 ∧ rd P y F w p.2 l2
  | .one t, F, w, x, vs => rd P t F w x vs
  | .f1 a r, F, w, g, vs => ∃ f cap, vs = [.func (.func f) #[] cap] ∧ Enters P f ∧ ∀ (w' : World) (F' : Nat → Prop), Ext F w w' → (∀ b, F b → F' b) → Closed F' w' →
      ∀ x vx y, rd P a F' w' x vx → g x = some y → Calls P f (#[asVal a vx] ++ cap) w' fun e w'' => ∃ v, e = .returned v ∧ rd P r F' w'' y [v] ∧ Below w'.heap.size w' w''
  | .f2 a c r, F, w, g, vs => ∃ f cap, vs = [.func (.func f) #[] cap] ∧ Enters P f ∧ ∀ (w' : World) (F' : Nat → Prop), Ext F w w' → (∀ b, F b → F' b) → Closed F' w' →
      ∀ x vx x2 vx2 y, rd P a F' w' x vx → rd P c F' w' x2 vx2 → g x x2 = some y →
        Calls P f (#[asVal a vx, asVal c vx2] ++ cap) w' fun e w'' => ∃ v, e = .returned v ∧ rd P r F' w'' y [v] ∧ Below w'.heap.size w' w''

theorem Ext.refl (F : Nat → Prop) (w : World) : Ext F w w := ⟨Nat.le_refl _, fun _ _ => rfl⟩
theorem Ext.trans {F F' : Nat → Prop} {a b c : World} (h : Ext F a b) (hF : ∀ k, F k → F' k) (k : Ext F' b c) : Ext F a c :=
  ⟨Nat.le_trans h.1 k.1, fun i hi => (k.2 i (hF i hi)).trans (h.2 i hi)⟩
theorem Ext.of_below {F : Nat → Prop} {w w' : World} (hc : Closed F w) (h : Below w.heap.size w w') : Ext F w w' := ⟨h.size, fun b hb => h.block b (hc.1 b hb)⟩
theorem Closed.next {F F' : Nat → Prop} {w w' : World} (hc : Closed F w) (he : Ext F w w') (hF : ∀ b, F b → F' b) (hs : ∀ b, F' b → b < w'.heap.size) : Closed F' w' :=
  ⟨hs, fun b hb => hF _ (hc.2.1 b hb), Tab.keep w w' (fun b hb => he.2 b (hc.2.1 b hb)) hc.2.2⟩
theorem Closed.plus' {F F' : Nat → Prop} {w : World} (hc : Closed F w) (hF : ∀ b, F b → F' b) (hs : ∀ b, F' b → b < w.heap.size) : Closed F' w := hc.next (Ext.refl _ _) hF hs
theorem cellsAt.ext {w w' : World} {b o : Nat} {cs : List Value} (hb : w'.heap[b]? = w.heap[b]?) (h : cellsAt w b o cs) : cellsAt w' b o cs :=
  fun j hj => by rw [World.cell?_of_block (w := w) (w' := w') (a := ⟨b, o + j, none⟩) hb]; exact h j hj

theorem rd_len {P : Program} : ∀ {t : Ty} {F : Nat → Prop} {w : World} {x : t.den} {vs : List Value}, rd P t F w x vs → vs.length = t.sz
  | .i _, _, _, _, _, h => by simp only [rd] at h; subst h; rfl
  | .b, _, _, _, _, h => by simp only [rd] at h; subst h; rfl
  | .s, _, _, _, _, h => by simp only [rd] at h; subst h; rfl
  | .e, _, _, _, _, h => by simp only [rd] at h; rcases h with ⟨_, rfl⟩ | ⟨_, _, _, rfl⟩ <;> rfl
  | .sl _, _, _, _, _, h => by simp only [rd] at h; obtain ⟨_, _, rfl, _⟩ := h; rfl
  | .pr x y, _, _, _, _, h => by
    simp only [rd] at h; obtain ⟨l1, l2, rfl, h1, h2⟩ := h
    simp [Ty.sz, rd_len h1, rd_len h2]
  | .one t, _, _, _, _, h => by simp only [rd] at h; exact rd_len (t := t) h
  | .f1 _ _, _, _, _, _, h => by simp only [rd] at h; obtain ⟨_, _, rfl, _⟩ := h; rfl
  | .f2 _ _ _, _, _, _, _, h => by simp only [rd] at h; obtain ⟨_, _, rfl, _⟩ := h; rfl

theorem rd_mono {P : Program} : ∀ {t : Ty} {F F' : Nat → Prop} {w w' : World} {x : t.den} {vs : List Value}, rd P t F w x vs → Ext F w w' → (∀ b, F b → F' b) → rd P t F' w' x vs
  | .i _, _, _, _, _, _, _, h, _, _ => by simpa only [rd] using h
  | .b, _, _, _, _, _, _, h, _, _ => by simpa only [rd] using h
  | .s, _, _, _, _, _, _, h, _, _ => by simpa only [rd] using h
  | .e, _, _, _, _, _, _, h, _, _ => by simpa only [rd] using h
  | .sl t, F, F', w, w', l, vs, h, he, hF => by
    simp only [rd] at h ⊢
    obtain ⟨ad, cap, hv, hcap, hi⟩ := h
    refine ⟨ad, cap, hv, hcap, hi.imp id ?_⟩
    rintro ⟨b, o, cs, ha, hb, hr, hc⟩
    exact ⟨b, o, cs, ha, hF _ hb, hr.mono fun _ _ r => rd_mono r he hF, hc.ext (he.2 _ hb)⟩
  | .pr x y, _, _, _, _, _, _, h, he, hF => by
    simp only [rd] at h ⊢; obtain ⟨l1, l2, e, h1, h2⟩ := h
    exact ⟨l1, l2, e, rd_mono h1 he hF, rd_mono h2 he hF⟩
  | .one t, _, _, _, _, _, _, h, he, hF => by simp only [rd] at h ⊢; exact rd_mono (t := t) h he hF
  | .f1 _ _, _, _, _, _, _, _, h, he, hF => by
    simp only [rd] at h ⊢; obtain ⟨f, cap, e, hE, h⟩ := h
    exact ⟨f, cap, e, hE, fun w'' F'' h1 h2 h3 => h w'' F'' (he.trans hF h1) (fun b hb => h2 b (hF b hb)) h3⟩
  | .f2 _ _ _, _, _, _, _, _, _, h, he, hF => by
    simp only [rd] at h ⊢; obtain ⟨f, cap, e, hE, h⟩ := h
    exact ⟨f, cap, e, hE, fun w'' F'' h1 h2 h3 => h w'' F'' (he.trans hF h1) (fun b hb => h2 b (hF b hb)) h3⟩

theorem rd_scal {P : Program} : ∀ {t : Ty} {F F' : Nat → Prop} {w w' : World} {x : t.den} {vs : List Value}, t.scal = true → rd P t F w x vs → rd P t F' w' x vs
  | .i _, _, _, _, _, _, _, _, h => by simpa only [rd] using h
  | .b, _, _, _, _, _, _, _, h => by simpa only [rd] using h
  | .s, _, _, _, _, _, _, _, h => by simpa only [rd] using h
  | .e, _, _, _, _, _, _, _, h => by simpa only [rd] using h
  | .pr x y, _, _, _, _, _, _, hs, h => by
    simp only [Ty.scal, Bool.and_eq_true] at hs
    simp only [rd] at h ⊢; obtain ⟨l1, l2, e, h1, h2⟩ := h
    exact ⟨l1, l2, e, rd_scal hs.1 h1, rd_scal hs.2 h2⟩
  | .one t, _, _, _, _, _, _, hs, h => by simp only [rd] at h ⊢; exact rd_scal (t := t) hs h

/-- An abstract value of one cell. -/
inductive AL where
  | unk
  | dat (t : Ty) (x : t.den)
  | nils
  | ref (id off : Nat)
  | sl (t : Ty) (id : Nat)
  | elt (t : Ty) (id idx off : Nat)
  | rp (t : Ty) (x : t.den) (off : Nat)
  /-- A bool, of which nothing is known. -/
  | anyb
  /-- A part of a slice of ours, to be read. -/
  | vw (t : Ty) (id : Nat) (i j : Int)
/-- An abstract value: of one cell, or a struct. -/
inductive A1 where
  | lf (a : AL)
  | ag (l : List AL)
/-- What a temporary holds. -/
inductive AV where
  | v (a : A1)
  | tp (l : List A1)
/-- An object of our own: a variable's cells, or the array of a slice. -/
inductive AObj where
  | cells (l : List AL)
  | arr (e : TypeId) (t : Ty) (l : List t.den)

abbrev AHeap := Nat → Option AObj
/-- In which block an object lies; 'none': a nil slice's missing array. -/
abbrev Mu := Nat → Option Nat

def CapOk (w : World) (b n : Nat) : Prop := ∃ vs e, w.heap[b]? = some (.cells vs e (0, 0)) ∧ vs.size = n

/-- What an abstract value says of a value of the model. 'M': the objects that may be named. -/
def alRel (P : Program) (F M : Nat → Prop) (μ : Mu) (h : AHeap) (w : World) : AL → Value → Prop
  | .unk, _ => True
  | .dat t x, v => rd P t F w x [v]
  | .nils, v => v = .slice none 0 0
  | .ref id off, v => M id ∧ v.oneCell' = true ∧ ∀ o, h id = some o → ∃ b, μ id = some b ∧ v = .pointer (some ⟨b, off, none⟩)
  | .sl t id, v => M id ∧ v.oneCell' = true ∧ ∀ e l, h id = some (.arr e t l) → (μ id = none ∧ l = [] ∧ v = .slice none 0 0) ∨
      ∃ b cap, μ id = some b ∧ v = .slice (some ⟨b, 0, none⟩) l.length cap ∧ l.length ≤ cap ∧ cap ≤ maxLen ∧ CapOk w b (cap * t.sz)
  | .elt t id idx off, v => M id ∧ v.oneCell' = true ∧ ∀ e l, h id = some (.arr e t l) → idx < l.length ∧ ∃ b, μ id = some b ∧ v = .pointer (some ⟨b, idx * t.sz + off, none⟩)
  | .rp t x off, v => ∃ b o cs, v = .pointer (some ⟨b, o + off, none⟩) ∧ F b ∧ rd P t F w x cs ∧ cellsAt w b o cs
  | .anyb, v => ∃ b, v = .bool b
  | .vw t id i j, v => M id ∧ v.oneCell' = true ∧ ∀ e l, h id = some (.arr e t l) → 0 ≤ i ∧ i ≤ j ∧ j ≤ (l.length : Int) ∧ ∃ ad cap, v = sliced ad i.toNat j.toNat cap t.sz ∧
      ((μ id = none ∧ l = [] ∧ ad = none ∧ cap = 0) ∨ ∃ b, μ id = some b ∧ ad = some ⟨b, 0, none⟩ ∧ l.length ≤ cap ∧ cap ≤ maxLen ∧ CapOk w b (cap * t.sz))
def alsRel (P : Program) (F M : Nat → Prop) (μ : Mu) (h : AHeap) (w : World) : List AL → List Value → Prop
  | [], vs => vs = []
  | a :: l, vs => ∃ v r, vs = v :: r ∧ alRel P F M μ h w a v ∧ alsRel P F M μ h w l r
def a1Rel (P : Program) (F M : Nat → Prop) (μ : Mu) (h : AHeap) (w : World) : A1 → Value → Prop
  | .lf a, v => alRel P F M μ h w a v
  | .ag l, v => ∃ cs : Array Value, v = .agg cs ∧ alsRel P F M μ h w l cs.toList
def a1sRel (P : Program) (F M : Nat → Prop) (μ : Mu) (h : AHeap) (w : World) : List A1 → List Value → Prop
  | [], vs => vs = []
  | a :: l, vs => ∃ v r, vs = v :: r ∧ a1Rel P F M μ h w a v ∧ a1sRel P F M μ h w l r
def avRel (P : Program) (F M : Nat → Prop) (μ : Mu) (h : AHeap) (w : World) : AV → Value → Prop
  | .v a, v => a1Rel P F M μ h w a v
  | .tp l, v => ∃ vs : Array Value, v = .tuple vs ∧ a1sRel P F M μ h w l vs.toList
def objRel (P : Program) (F M : Nat → Prop) (μ : Mu) (h : AHeap) (w : World) (id : Nat) : AObj → Prop
  | .cells l => ∃ b vs e, μ id = some b ∧ w.heap[b]? = some (.cells vs e (0, 0)) ∧ alsRel P F M μ h w l vs.toList
  | .arr e t l => (μ id = none ∧ l = []) ∨ ∃ b cur cs, μ id = some b ∧ w.heap[b]? = some (.cells cur e (0, 0)) ∧ RdAll (rd P t F w) l cs ∧ cur.toList.take (l.length * t.sz) = cs
/-- What the abstract heap says of the world: each object in a block of its own, none of them among F, all of them ours to write. -/
structure HRel (P : Program) (Own F M : Nat → Prop) (μ : Mu) (h : AHeap) (w : World) : Prop where
  closed : Closed F w
  mem : ∀ id o, h id = some o → M id
  obj : ∀ id o, h id = some o → objRel P F M μ h w id o
  own : ∀ id o b, h id = some o → μ id = some b → b < w.heap.size ∧ Own b ∧ ¬ F b
  inj : ∀ id id' o o' b, h id = some o → h id' = some o' → μ id = some b → μ id' = some b → id = id'

def AObj.alike : AObj → AObj → Prop
  | .cells _, .cells _ => True
  | .arr e t l, .arr e' t' l' => e = e' ∧ t = t' ∧ l.length = l'.length
  | _, _ => False
theorem AObj.alike_refl : ∀ o : AObj, o.alike o
  | .cells _ => trivial
  | .arr _ _ _ => ⟨rfl, rfl, rfl⟩

/-- From one state of memory to a later one: what was frozen stays; an object that lives on is like what it was, where it was; blocks don't shrink. -/
structure Later (F F' M M' : Nat → Prop) (μ μ' : Mu) (h h' : AHeap) (w w' : World) : Prop where
  ext : Ext F w w'
  sub : ∀ b, F b → F' b
  mem : ∀ id, M id → M' id
  live : ∀ id o', M id → h' id = some o' → ∃ o, h id = some o ∧ o.alike o' ∧ μ' id = μ id
  cap : ∀ b n, CapOk w b n → CapOk w' b n

theorem alRel_later {P : Program} {F F' M M' : Nat → Prop} {μ μ' : Mu} {h h' : AHeap} {w w' : World} (k : Later F F' M M' μ μ' h h' w w') :
    ∀ {a : AL} {v : Value}, alRel P F M μ h w a v → alRel P F' M' μ' h' w' a v
  | .unk, _, _ => trivial
  | .dat _ _, _, r => rd_mono r k.ext k.sub
  | .nils, _, r => r
  | .ref id off, _, ⟨hm, h1, r⟩ => ⟨k.mem _ hm, h1, fun o' ho' => by
    obtain ⟨o, ho, _, hμ⟩ := k.live id o' hm ho'
    rw [hμ]; exact r o ho⟩
  | .sl t id, _, ⟨hm, h1, r⟩ => ⟨k.mem _ hm, h1, fun e' l' hl' => by
    obtain ⟨o, ho, hal, hμ⟩ := k.live id _ hm hl'
    cases o with
    | cells _ => exact hal.elim
    | arr e2 t2 l =>
      obtain ⟨rfl, rfl, hlen⟩ := hal
      rw [hμ, ← hlen]
      rcases r _ l ho with ⟨h1, h2, h3⟩ | ⟨b, cap, h1, h2, h3, h4, h5⟩
      · refine .inl ⟨h1, ?_, h3⟩
        subst h2; exact List.eq_nil_of_length_eq_zero (by simpa using hlen.symm)
      · exact .inr ⟨b, cap, h1, h2, h3, h4, k.cap _ _ h5⟩⟩
  | .elt t id idx off, _, ⟨hm, h1, r⟩ => ⟨k.mem _ hm, h1, fun e' l' hl' => by
    obtain ⟨o, ho, hal, hμ⟩ := k.live id _ hm hl'
    cases o with
    | cells _ => exact hal.elim
    | arr e2 t2 l =>
      obtain ⟨rfl, rfl, hlen⟩ := hal
      rw [hμ, ← hlen]; exact r _ l ho⟩
  | .rp _ _ _, _, ⟨b, o, cs, h1, h2, h3, h4⟩ => ⟨b, o, cs, h1, k.sub _ h2, rd_mono h3 k.ext k.sub, h4.ext (k.ext.2 _ h2)⟩
  | .anyb, _, r => r
  | .vw t id i j, _, ⟨hm, h1, r⟩ => ⟨k.mem _ hm, h1, fun e' l' hl' => by
    obtain ⟨o, ho, hal, hμ⟩ := k.live id _ hm hl'
    cases o with
    | cells _ => exact hal.elim
    | arr e2 t2 l =>
      obtain ⟨rfl, rfl, hlen⟩ := hal
      rw [hμ, ← hlen]
      obtain ⟨h2, h3, h4, ad, cap, h5, h6⟩ := r _ l ho
      refine ⟨h2, h3, h4, ad, cap, h5, ?_⟩
      rcases h6 with ⟨g1, g2, g3⟩ | ⟨b, g1, g2, g3, g4, g5⟩
      · refine .inl ⟨g1, ?_, g3⟩
        subst g2; exact List.eq_nil_of_length_eq_zero (by simpa using hlen.symm)
      · exact .inr ⟨b, g1, g2, g3, g4, k.cap _ _ g5⟩⟩
theorem alsRel_later {P : Program} {F F' M M' : Nat → Prop} {μ μ' : Mu} {h h' : AHeap} {w w' : World} (k : Later F F' M M' μ μ' h h' w w') :
    ∀ {l : List AL} {vs : List Value}, alsRel P F M μ h w l vs → alsRel P F' M' μ' h' w' l vs
  | [], _, r => r
  | _ :: _, _, ⟨v, r, e, h1, h2⟩ => ⟨v, r, e, alRel_later k h1, alsRel_later k h2⟩
theorem a1Rel_later {P : Program} {F F' M M' : Nat → Prop} {μ μ' : Mu} {h h' : AHeap} {w w' : World} (k : Later F F' M M' μ μ' h h' w w') :
    ∀ {a : A1} {v : Value}, a1Rel P F M μ h w a v → a1Rel P F' M' μ' h' w' a v
  | .lf _, _, r => alRel_later k r
  | .ag _, _, ⟨cs, e, r⟩ => ⟨cs, e, alsRel_later k r⟩
theorem a1sRel_later {P : Program} {F F' M M' : Nat → Prop} {μ μ' : Mu} {h h' : AHeap} {w w' : World} (k : Later F F' M M' μ μ' h h' w w') :
    ∀ {l : List A1} {vs : List Value}, a1sRel P F M μ h w l vs → a1sRel P F' M' μ' h' w' l vs
  | [], _, r => r
  | _ :: _, _, ⟨v, r, e, h1, h2⟩ => ⟨v, r, e, a1Rel_later k h1, a1sRel_later k h2⟩
theorem avRel_later {P : Program} {F F' M M' : Nat → Prop} {μ μ' : Mu} {h h' : AHeap} {w w' : World} (k : Later F F' M M' μ μ' h h' w w') :
    ∀ {a : AV} {v : Value}, avRel P F M μ h w a v → avRel P F' M' μ' h' w' a v
  | .v _, _, r => a1Rel_later k r
  | .tp _, _, ⟨vs, e, r⟩ => ⟨vs, e, a1sRel_later k r⟩
/-- An object whose block has not turned. -/
theorem objRel_later {P : Program} {F F' M M' : Nat → Prop} {μ μ' : Mu} {h h' : AHeap} {w w' : World} (k : Later F F' M M' μ μ' h h' w w') {id : Nat} (hμ : μ' id = μ id)
    (hb : ∀ b, μ id = some b → w'.heap[b]? = w.heap[b]?) : ∀ {o : AObj}, objRel P F M μ h w id o → objRel P F' M' μ' h' w' id o
  | .cells _, ⟨b, vs, e, h1, h2, h3⟩ => ⟨b, vs, e, hμ.trans h1, (hb _ h1).trans h2, alsRel_later k h3⟩
  | .arr _ _ _, .inl ⟨h1, h2⟩ => .inl ⟨hμ.trans h1, h2⟩
  | .arr _ _ _, .inr ⟨b, cur, cs, h1, h2, h3, h4⟩ => .inr ⟨b, cur, cs, hμ.trans h1, (hb _ h1).trans h2, h3.mono fun _ _ r => rd_mono r k.ext k.sub, h4⟩
end Go.CE
