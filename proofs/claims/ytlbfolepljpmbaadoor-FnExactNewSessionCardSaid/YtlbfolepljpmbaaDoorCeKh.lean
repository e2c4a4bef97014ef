/-
  Normal forms under the kernel: what a bounded twin tells of its function.
-/
import Derived.Test.YtlbfolepljpmbaaDoorCeHn
import Derived.Test.YtlbfolepljpmbaaDoorCeZa
namespace Go.CE
set_option linter.all false
def Le {A : Type} (a b : Option A) : Prop := ∀ r, a = some r → b = some r
theorem Le.refl {A : Type} (a : Option A) : Le a a := fun _ h => h
def iterK {A B : Type} (n : Nat) (f : A → Option (A ⊕ B)) (x : A) : Option B := iterN f n x
theorem iterN_le {A B : Type} {f g : A → Option (A ⊕ B)} (h : ∀ x, Le (f x) (g x)) : ∀ (n : Nat) (x : A), Le (iterN f n x) (iterN g n x)
  | 0, _, _, e => by simp [iterN] at e
  | n + 1, x, r, e => by
    simp only [iterN] at e ⊢
    split at e
    · cases e
    · rename_i y hy; rw [h x _ hy]; exact iterN_le h n y r e
    · rename_i y hy; rw [h x _ hy]; exact e
theorem iter_le {A B : Type} {f g : A → Option (A ⊕ B)} (h : ∀ x, Le (f x) (g x)) {n : Nat} {x : A} : Le (iterK n f x) (iter g x) := fun r e => Go.CL.iter_of (iterN_le h n x r e)
theorem bnd_le {A B : Type} {a b : Option A} {f g : A → Option B} (h : Le a b) (k : ∀ x, Le (f x) (g x)) : Le (bnd a f) (bnd b g) := fun r e => by
  cases ha : a with
  | none => rw [ha] at e; cases e
  | some x => rw [ha] at e; rw [h x ha]; exact k x r e
theorem ifB_le {A : Type} {c : Bool} {a b a' b' : Option A} (h : Le a a') (k : Le b b') : Le (ifB c a b) (ifB c a' b') := fun r e => by
  cases c with
  | false => exact k r e
  | true => exact h r e
theorem chk_le {A : Type} {c : Bool} {a a' : Option A} (h : Le a a') : Le (chk c a) (chk c a') := fun r e => by
  cases c with
  | false => cases e
  | true => exact h r e
theorem toInr_le {A B : Type} {a a' : Option B} (h : Le a a') : Le (toInr (Y := A) a) (toInr (Y := A) a') := fun r e => by
  cases ha : a with
  | none => rw [ha] at e; cases e
  | some x => rw [ha] at e; rw [h x ha]; exact e
/-- Decimal digits, for the kernel. -/
def digs : Nat → Nat → List UInt8
  | 0, _ => []
  | k + 1, u => if u < 10 then [UInt8.ofNat (48 + u)] else digs k (u / 10) ++ [UInt8.ofNat (48 + u % 10)]
theorem digs_eq : ∀ (k u : Nat), u < k → digs k u = Lib.decDigits u
  | 0, _, h => by omega
  | k + 1, u, h => by
    rw [digs, Lib.decDigits]
    split
    · rfl
    · rw [digs_eq k (u / 10) (by omega)]
def K.strconv_Itoa (_ : Nat) (n : Int) : Option ((ByteArray × Unit) × Unit) := if 0 ≤ n ∧ n < 100 then some ((⟨(digs 100 n.toNat).toArray⟩, ()), ()) else none
theorem K.strconv_Itoa.le (m : Nat) (n : Int) : Le (K.strconv_Itoa m n) (N.strconv_Itoa n) := fun r e => by
  unfold K.strconv_Itoa at e
  unfold N.strconv_Itoa
  split at e
  · rename_i h
    rw [if_pos h]
    rw [digs_eq 100 _ (by omega)] at e
    exact e
  · cases e
def K.strconv_Atoi (_ : Nat) (s : ByteArray) : Option ((Int × Bool × Unit) × Unit) :=
  if s.size ≤ 18 then match Lib.atoi s.data.toList with | some n => some ((n, true, ()), ()) | none => none else none
theorem K.strconv_Atoi.le (m : Nat) (s : ByteArray) : Le (K.strconv_Atoi m s) (N.strconv_Atoi s) := Le.refl _
def K.strings_Index (_ : Nat) (s sep : ByteArray) : Option ((Int × Unit) × Unit) := match sep.data.toList with | [c] => some ((Lib.indexByte s.data.toList c, ()), ()) | _ => none
theorem K.strings_Index.le (m : Nat) (s sep : ByteArray) : Le (K.strings_Index m s sep) (N.strings_Index s sep) := Le.refl _
def K.i_stringslite_Index (m : Nat) (s sep : ByteArray) : Option ((Int × Unit) × Unit) := K.strings_Index m s sep
theorem K.i_stringslite_Index.le (m : Nat) (s sep : ByteArray) : Le (K.i_stringslite_Index m s sep) (N.i_stringslite_Index s sep) := Le.refl _
def K.strings_Count (_ : Nat) (s sep : ByteArray) : Option ((Int × Unit) × Unit) := match sep.data.toList with | [c] => some ((Lib.countByte s.data.toList c, ()), ()) | _ => none
theorem K.strings_Count.le (m : Nat) (s sep : ByteArray) : Le (K.strings_Count m s sep) (N.strings_Count s sep) := Le.refl _
end Go.CE
