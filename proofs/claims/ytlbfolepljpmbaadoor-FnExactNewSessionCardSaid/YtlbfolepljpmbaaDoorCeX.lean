/-
  A computed evaluator over the model's code, part X: the table of types of a program.
-/
import Derived.Test.YtlbfolepljpmbaaDoorCeW
namespace Go.CE
set_option linter.all false
set_option linter.unusedSectionVars false
open Go Go.RowKit
variable [Tab]

mutual
def tyOfT (P : Program) : Nat → TypeId → Option Ty
  | 0, _ => none
  | n + 1, t => match P.underlying t with
    | some (.int k) => some (.i k)
    | some .bool => some .b
    | some .string => some .s
    | some (.interface _) => some .e
    | some (.slice e) => (tyOfT P n e).map .sl
    | some (.struct fs) => match fs.toList with
      | [f] => (tyOfT P n f.type).map .one
      | l => tyOfF P n l
    | _ => none
def tyOfF (P : Program) : Nat → List Field → Option Ty
  | 0, _ => none
  | n + 1, l => match l with
    | [] => none
    | [f] => tyOfT P n f.type
    | f :: r => match tyOfT P n f.type, tyOfF P n r with
      | some a, some b => some (.pr a b)
      | _, _ => none
end
/-- A struct of one field within a struct of more: its last. -/
def ttOf (P : Program) : TTab := fun t => match P.underlying t, P.info? t with
  | some u, some i => match i.zero with
    | some z => if z.cells.size = i.size ∧ (isAggU u = false → i.size = 1) then some ⟨i.size, i.bytes, z, u, match u with | .slice e => tyOfT P 9 e | _ => none⟩ else none
    | none => none
  | _, _ => none
theorem ttOf_ok (P : Program) : TOk P (ttOf P) := by
  intro t ti h
  unfold ttOf at h
  split at h
  · rename_i u i hu hi
    split at h
    · rename_i z hz
      split at h
      · rename_i hc
        injection h with h; subst h
        exact ⟨hu, ⟨i, hi, rfl, rfl, hz⟩, hc.1, hc.2⟩
      · cases h
    · cases h
  · cases h

theorem gok_nil (P : Program) : GOk P (fun _ => none) := fun _ _ h => by cases h
@[reducible] def gadd (f : FuncId) (sg : Sig) (g : GTab) : GTab := fun i => if i = f then some sg else g i
theorem gok_add {P : Program} {f : FuncId} {sg : Sig} {g : GTab} (h : Sound P f sg) (hg : GOk P g) : GOk P (gadd f sg g) := fun i s hs => by
  unfold gadd at hs
  split at hs
  · rename_i e; subst e; injection hs with hs; subst hs; exact h
  · exact hg i s hs
@[reducible] def cfg (P : Program) (g : GTab) (fz : List Nat) : Cfg := ⟨ttOf P, g, fz, 0, 0⟩
/-- A function's contract: what the evaluator says of it is what 'F' says. -/
theorem fnSound {P : Program} (hm : P.follows .mixedOrders = true) {f : FuncId} {fn : Func} {code : Code} (hf : P.funcs[f]? = some fn) (hb : fn.body = some code) (hname : (fn.name == "runtime.NumGoroutine") = false)
    {g : GTab} (hG : GOk P g) {fz : List Nat} {ann : Ann} {a r : Shp} {F : a.den → Option r.den} (h : ∀ x, evFn (cfg P g fz) fn ann a r x = F x) : Sound P f ⟨a, r, F⟩ :=
  sound_of (c := cfg P g fz) (ttOf_ok P) hG hm hf hb hname (ann := ann) fun x y e => (h x).trans e
theorem fnSound0 {P : Program} (hm : P.follows .mixedOrders = true) {f : FuncId} {fn : Func} {code : Code} (hf : P.funcs[f]? = some fn) (hb : fn.body = some code) (hname : (fn.name == "runtime.NumGoroutine") = false)
    {g : GTab} (hG : GOk P g) (fz : List Nat) (ann : Ann) (a r : Shp) : Sound P f ⟨a, r, evFn (cfg P g fz) fn ann a r⟩ :=
  fnSound hm hf hb hname hG (fz := fz) (ann := ann) fun _ => rfl
theorem fnSound1 {P : Program} (hm : P.follows .mixedOrders = true) {f : FuncId} {fn : Func} {code : Code} (hf : P.funcs[f]? = some fn) (hb : fn.body = some code) (hname : (fn.name == "runtime.NumGoroutine") = false)
    {g : GTab} (hG : GOk P g) (fz : List Nat) (ann : Ann) {a r : Shp} {F : a.den → Option r.den} (h : evFn (cfg P g fz) fn ann a r = F) : Sound P f ⟨a, r, F⟩ :=
  fnSound hm hf hb hname hG (fz := fz) (ann := ann) fun x => congrFun h x
/-- The same of a function that says less. -/
theorem Sound.weak {P : Program} {f : FuncId} {a r : Shp} {F F' : a.den → Option r.den} (h : Sound P f ⟨a, r, F⟩) (hw : ∀ x y, F' x = some y → F x = some y) : Sound P f ⟨a, r, F'⟩ :=
  ⟨h.1, fun w G μ xs ys vals e => h.2 w G μ xs ys vals (hw _ _ e)⟩
end Go.CE
