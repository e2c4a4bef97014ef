/-
  Plain laws, part b: whole numbers and bits.
-/
import Derived.Test.YtholdngdcinbcaaCeZa
namespace Go.CL
set_option linter.all false
open Go Go.CE

theorem wrap_i64 {x : Int} (h0 : -9223372036854775808 ≤ x) (h1 : x ≤ 9223372036854775807) : IntKind.i64.wrap x = x := by
  unfold IntKind.wrap; simp [IntKind.bits, IntKind.signed]; omega
theorem wrap_u64 {x : Int} (h0 : 0 ≤ x) (h1 : x < 18446744073709551616) : IntKind.u64.wrap x = x := by
  unfold IntKind.wrap; simp [IntKind.bits, IntKind.signed]; omega
theorem wrap_u8 {x : Int} (h0 : 0 ≤ x) (h1 : x < 256) : IntKind.u8.wrap x = x := by
  unfold IntKind.wrap; simp [IntKind.bits, IntKind.signed]; omega
theorem addI_eq {x y : Int} (h0 : -9223372036854775808 ≤ x + y) (h1 : x + y ≤ 9223372036854775807) : addI .i64 x y = x + y := wrap_i64 h0 h1
theorem subI_eq {x y : Int} (h0 : -9223372036854775808 ≤ x - y) (h1 : x - y ≤ 9223372036854775807) : subI .i64 x y = x - y := wrap_i64 h0 h1
theorem mulI_eq {x y : Int} (h0 : -9223372036854775808 ≤ x * y) (h1 : x * y ≤ 9223372036854775807) : mulI .i64 x y = x * y := wrap_i64 h0 h1
theorem wrapK_i64 {x : Int} (h0 : -9223372036854775808 ≤ x) (h1 : x ≤ 9223372036854775807) : wrapK .i64 x = x := wrap_i64 h0 h1
theorem wrapK_u64 {x : Int} (h0 : 0 ≤ x) (h1 : x < 18446744073709551616) : wrapK .u64 x = x := wrap_u64 h0 h1
theorem ofInt_toNat {a : Nat} (h : a < 9223372036854775808) : (BitVec.ofInt 64 (a : Int)).toNat = a := by
  rw [BitVec.toNat_ofInt]; simp; omega
theorem band_nat {a b : Nat} (ha : a < 9223372036854775808) (hb : b < 9223372036854775808) : band .i64 (a : Int) (b : Int) = ((a &&& b : Nat) : Int) := by
  unfold band
  have e : (BitVec.ofInt IntKind.i64.bits (a : Int) &&& BitVec.ofInt IntKind.i64.bits (b : Int)).toNat = a &&& b := by
    show (BitVec.ofInt 64 (a : Int) &&& BitVec.ofInt 64 (b : Int)).toNat = a &&& b
    rw [BitVec.toNat_and, ofInt_toNat ha, ofInt_toNat hb]
  rw [e]
  have := Nat.and_le_left (n := a) (m := b)
  exact wrap_i64 (by omega) (by omega)
theorem or_lt {a b n : Nat} (ha : a < 2 ^ n) (hb : b < 2 ^ n) : a ||| b < 2 ^ n := Nat.or_lt_two_pow ha hb
theorem bor_nat {a b : Nat} (ha : a < 9223372036854775808) (hb : b < 9223372036854775808) : bor .i64 (a : Int) (b : Int) = ((a ||| b : Nat) : Int) := by
  unfold bor
  have e : (BitVec.ofInt IntKind.i64.bits (a : Int) ||| BitVec.ofInt IntKind.i64.bits (b : Int)).toNat = a ||| b := by
    show (BitVec.ofInt 64 (a : Int) ||| BitVec.ofInt 64 (b : Int)).toNat = a ||| b
    rw [BitVec.toNat_or, ofInt_toNat ha, ofInt_toNat hb]
  rw [e]
  have : a ||| b < 9223372036854775808 := Nat.or_lt_two_pow (n := 63) ha hb
  exact wrap_i64 (by omega) (by omega)
theorem bxor_nat {a b : Nat} (ha : a < 9223372036854775808) (hb : b < 9223372036854775808) : bxor .i64 (a : Int) (b : Int) = ((a ^^^ b : Nat) : Int) := by
  unfold bxor
  have e : (BitVec.ofInt IntKind.i64.bits (a : Int) ^^^ BitVec.ofInt IntKind.i64.bits (b : Int)).toNat = a ^^^ b := by
    show (BitVec.ofInt 64 (a : Int) ^^^ BitVec.ofInt 64 (b : Int)).toNat = a ^^^ b
    rw [BitVec.toNat_xor, ofInt_toNat ha, ofInt_toNat hb]
  rw [e]
  have : a ^^^ b < 9223372036854775808 := Nat.xor_lt_two_pow (n := 63) ha hb
  exact wrap_i64 (by omega) (by omega)
/-- The elements of one set that are not in another one. -/
def sdiff (a b : Nat) : Nat := a ^^^ (a &&& b)
theorem testBit_sdiff (a b i : Nat) : (sdiff a b).testBit i = (a.testBit i && !b.testBit i) := by
  unfold sdiff; rw [Nat.testBit_xor, Nat.testBit_and]; cases a.testBit i <;> cases b.testBit i <;> rfl
theorem bandNot_nat {a b : Nat} (ha : a < 9223372036854775808) (hb : b < 9223372036854775808) : bandNot .i64 (a : Int) (b : Int) = ((sdiff a b : Nat) : Int) := by
  unfold bandNot
  have e : (BitVec.ofInt IntKind.i64.bits (a : Int) &&& ~~~ BitVec.ofInt IntKind.i64.bits (b : Int)).toNat = sdiff a b := by
    show (BitVec.ofInt 64 (a : Int) &&& ~~~ BitVec.ofInt 64 (b : Int)).toNat = sdiff a b
    apply Nat.eq_of_testBit_eq
    intro i
    rw [BitVec.testBit_toNat, BitVec.getLsbD_and, BitVec.getLsbD_not, testBit_sdiff, ← BitVec.testBit_toNat, ← BitVec.testBit_toNat, ofInt_toNat ha, ofInt_toNat hb]
    by_cases hi : i < 64
    · simp [hi]
    · have : a.testBit i = false := Nat.testBit_lt_two_pow (Nat.lt_of_lt_of_le ha (show 2 ^ 63 ≤ 2 ^ i from Nat.pow_le_pow_right (by omega) (by omega)))
      simp [hi, this]
  rw [e]
  have : sdiff a b < 9223372036854775808 := Nat.xor_lt_two_pow (n := 63) ha (Nat.lt_of_le_of_lt Nat.and_le_left ha)
  exact wrap_i64 (by omega) (by omega)
theorem bshl_nat {a b : Nat} (hb : b < 64) (h : a * 2 ^ b < 9223372036854775808) : bshl .i64 (a : Int) (b : Int) = ((a * 2 ^ b : Nat) : Int) := by
  unfold bshl
  have e : min (b : Int).toNat IntKind.i64.bits = b := by
    show min (b : Int).toNat 64 = b
    simp; omega
  rw [e]
  have e2 : (a : Int) * 2 ^ b = ((a * 2 ^ b : Nat) : Int) := by push_cast; rfl
  rw [e2]; exact wrap_i64 (by omega) (by omega)
theorem bshr_nat {a b : Nat} (hb : b < 64) : bshr .i64 (a : Int) (b : Int) = ((a / 2 ^ b : Nat) : Int) := by
  unfold bshr
  have e : min (b : Int).toNat IntKind.i64.bits = b := by
    show min (b : Int).toNat 64 = b
    simp; omega
  rw [e]
  rw [show (2 : Int) ^ b = ((2 ^ b : Nat) : Int) by push_cast; rfl]
  exact Int.ofNat_fdiv a (2 ^ b) |>.symm
theorem one_shl {b : Nat} (hb : b < 63) : bshl .i64 1 (b : Int) = ((2 ^ b : Nat) : Int) := by
  have h : 2 ^ b < 9223372036854775808 := Nat.pow_lt_pow_right (a := 2) (m := b) (n := 63) (by omega) hb
  have := bshl_nat (a := 1) (b := b) (by omega) (by omega)
  simpa using this
theorem pow_le8 {n : Nat} (h : n ≤ 8) : 2 ^ n ≤ 256 := show 2 ^ n ≤ 2 ^ 8 from Nat.pow_le_pow_right (by omega) h
theorem pow_lt63 {n : Nat} (h : n < 63) : 2 ^ n < 9223372036854775808 := Nat.pow_lt_pow_right (a := 2) (m := n) (n := 63) (by omega) h
/-! ### Lists -/
theorem at_nat {t : Ty} (l : List t.den) (i : Nat) : at_ t l (i : Int) = l.getD i t.dflt := rfl
theorem at_i (l : List Int) (i : Nat) : at_ (.i .i64) l (i : Int) = l.getD i 0 := rfl
theorem at_ss (l : List (List Int)) (i : Nat) : at_ (.sl (.i .i64)) l (i : Int) = l.getD i [] := rfl
/-- Whole numbers that are not negative. -/
def zs (l : List Nat) : List Int := l.map fun n : Nat => (n : Int)
@[simp] theorem zs_length (l : List Nat) : (zs l).length = l.length := by simp [zs]
@[simp] theorem zs_nil : zs [] = [] := rfl
theorem zs_cons (a : Nat) (l : List Nat) : zs (a :: l) = (a : Int) :: zs l := rfl
theorem zs_append (l l' : List Nat) : zs (l ++ l') = zs l ++ zs l' := by simp [zs]
theorem zs_getD (l : List Nat) (i : Nat) : (zs l).getD i 0 = ((l.getD i 0 : Nat) : Int) := by
  simp only [zs, List.getD_eq_getElem?_getD, List.getElem?_map]; cases l[i]? <;> simp
theorem at_zs (l : List Nat) (i : Nat) : at_ (.i .i64) (zs l) (i : Int) = ((l.getD i 0 : Nat) : Int) := zs_getD l i
theorem of_nonneg : ∀ {l : List Int}, (∀ x ∈ l, 0 ≤ x) → ∃ m, l = zs m
  | [], _ => ⟨[], rfl⟩
  | x :: l, h => by
    obtain ⟨m, rfl⟩ := of_nonneg (l := l) fun y hy => h y (by simp [hy])
    have hx := h x (by simp)
    exact ⟨x.toNat :: m, by rw [zs_cons, Int.toNat_of_nonneg hx]⟩
theorem zs_inj : ∀ {l m : List Nat}, zs l = zs m → l = m
  | [], [], _ => rfl
  | [], _ :: _, h => by simp [zs] at h
  | _ :: _, [], h => by simp [zs] at h
  | a :: l, b :: m, h => by
    rw [zs_cons, zs_cons] at h
    injection h with h1 h2
    rw [zs_inj h2]; congr 1; exact Int.ofNat.inj h1
@[simp] theorem lenL_eq {A : Type} (l : List A) : lenL l = (l.length : Int) := rfl
@[simp] theorem lenS_eq (s : ByteArray) : lenS s = (s.size : Int) := rfl
theorem getD_lt' {A : Type} {l : List A} {i : Nat} {d : A} (h : i < l.length) : l.getD i d = l[i] := by simp [h]
theorem getD_ge {A : Type} {l : List A} {i : Nat} {d : A} (h : l.length ≤ i) : l.getD i d = d := by simp [h]
theorem getD_mem {A : Type} {l : List A} {i : Nat} {d : A} (h : i < l.length) : l.getD i d ∈ l := by rw [getD_lt' h]; exact List.getElem_mem h
/-- What the evaluator's words come to, all in one. -/
theorem E :
    (∀ {R : Type} (b : Bool) (x y : Option R), ifB b x y = if b = true then x else y) ∧ (∀ {R : Type} (b : Bool) (x : Option R), chk b x = if b = true then x else none) ∧
    (∀ {A B : Type} (x : A) (f : A → Option B), bnd (some x) f = f x) ∧ (∀ {R : Type} (x : Option R), both x x = x) ∧ (∀ {Y R : Type} (x : R), toInr (Y := Y) (some x) = some (.inr x)) ∧
    (∀ {Y R : Type} (x : Y), toInl (R := R) (some x) = some (.inl x)) ∧ (∀ {A B C : Type} (f : A → C) (g : B → C) (x : A), sumE f g (.inl x) = f x) ∧ (∀ {A B C : Type} (f : A → C) (g : B → C) (x : B), sumE f g (.inr x) = g x) ∧
    (∀ x y : Int, (ltI x y = true) ↔ x < y) ∧ (∀ x y : Int, (leI x y = true) ↔ x ≤ y) ∧ (∀ x y : Int, (gtI x y = true) ↔ y < x) ∧ (∀ x y : Int, (geI x y = true) ↔ y ≤ x) ∧ (∀ x y : Int, (eqI x y = true) ↔ x = y) ∧ (∀ x y : Int, (neI x y = true) ↔ x ≠ y) ∧
    (∀ x : Int, (nonneg x = true) ↔ 0 ≤ x) ∧ (∀ x : Int, (nonzero x = true) ↔ x ≠ 0) ∧ (∀ x y : Bool, (eqB x y = true) ↔ x = y) ∧ (∀ x y : Bool, (neB x y = true) ↔ x ≠ y) ∧ (∀ x : Bool, (notB x = true) ↔ x = false) ∧
    (∀ x y : ByteArray, (eqS x y = true) ↔ x = y) ∧ (∀ x y : ByteArray, (neS x y = true) ↔ x ≠ y) ∧ (∀ {A : Type} (j : Int) (l : List A), (inL j l = true) ↔ 0 ≤ j ∧ j < (l.length : Int)) ∧
    (∀ (j : Int) (s : ByteArray), (inS j s = true) ↔ 0 ≤ j ∧ j < (s.size : Int)) ∧ (∀ (i j : Int) (s : ByteArray), (inCutS i j s = true) ↔ 0 ≤ i ∧ i ≤ j ∧ j ≤ (s.size : Int)) ∧ (∀ {A : Type} (i j : Int) (l : List A), (inCutL i j l = true) ↔ 0 ≤ i ∧ i ≤ j ∧ j ≤ (l.length : Int)) ∧
    (∀ {A : Type} (l : List A), (fitL l = true) ↔ l.length ≤ 274877906944) ∧ (∀ {A B : Type} (l : List A) (l' : List B), (fitL2 l l' = true) ↔ l.length + l'.length ≤ 274877906944) ∧ (∀ x y : ByteArray, (fitS x y = true) ↔ x.size + y.size ≤ 4611686018427387904) ∧
    (∀ {A B : Type} (l : List A) (l' : List B), (sameLen l l' = true) ↔ l.length = l'.length) ∧ (∀ {A : Type} (l : List A), (emptyL l = true) ↔ l = []) ∧ (∀ l c : Int, (okMake l c = true) ↔ 0 ≤ l ∧ l ≤ c ∧ c ≤ 274877906944) ∧
    (∀ {A : Type} (l : List A), lenL l = (l.length : Int)) ∧ (∀ s : ByteArray, lenS s = (s.size : Int)) ∧ (∀ {A : Type} (l l' : List A), catL l l' = l ++ l') ∧ (∀ {A : Type} (l : List A) (i : Nat) (x : A), setN l i x = l.set i x) ∧
    (∀ i : Nat, natI (i : Int) = i) ∧ (natI 0 = 0) ∧ (natI 1 = 1) ∧ (∀ (k : IntKind) (l : List Int) (i : Nat), at_ (.i k) l (i : Int) = l.getD i 0) ∧ (∀ (k : IntKind) (l : List Int), at_ (.i k) l 0 = l.getD 0 0) ∧ (∀ (k : IntKind) (l : List Int), at_ (.i k) l 1 = l.getD 1 0) ∧
    (∀ (t : Ty) (l : List (List t.den)) (i : Nat), at_ (.sl t) l (i : Int) = l.getD i []) ∧ (∀ (t : Ty) (l : List (List t.den)), at_ (.sl t) l 0 = l.getD 0 []) ∧
    (∀ (l : List ByteArray) (i : Nat), at_ .s l (i : Int) = l.getD i ⟨#[]⟩) ∧ (∀ (l : List ByteArray), at_ .s l 0 = l.getD 0 ⟨#[]⟩) ∧ (∀ (l : List ByteArray), at_ .s l 1 = l.getD 1 ⟨#[]⟩) ∧
    (∀ (x y : Ty) (l : List (x.den × y.den)) (i : Nat), at_ (.pr x y) l (i : Int) = l.getD i (x.dflt, y.dflt)) ∧ (∀ (x y : Ty) (l : List (x.den × y.den)), at_ (.pr x y) l 0 = l.getD 0 (x.dflt, y.dflt)) ∧
    (∀ (k : IntKind) (l : List Int) (i : Nat), getN (.i k) l i = l.getD i 0) ∧ (∀ (t : Ty) (l : List (List t.den)) (i : Nat), getN (.sl t) l i = l.getD i []) ∧ (∀ (x y : Ty) (l : List (x.den × y.den)) (i : Nat), getN (.pr x y) l i = l.getD i (x.dflt, y.dflt)) ∧
    (∀ (l : List ByteArray) (i : Nat), getN .s l i = l.getD i ⟨#[]⟩) ∧ (∀ k : IntKind, (Ty.i k).dflt = (0 : Int)) ∧ (∀ x y : Int, minI x y = min x y) ∧ (∀ x y : Int, maxI x y = max x y) ∧ (∀ x y : ByteArray, catS x y = x ++ y) ∧
    (∀ (k : IntKind) (l : Nat), zeros (.i k) (l : Int) = List.replicate l 0) ∧ (∀ (t : Ty) (l : Nat), zeros (.sl t) (l : Int) = List.replicate l []) := by
  refine ⟨ifB_eq, chk_eq, bnd_some, both_self, toInr_some, toInl_some', sumE_inl, sumE_inr, ltI_iff, leI_iff, gtI_iff, geI_iff, eqI_iff, neI_iff, nonneg_iff, nonzero_iff, eqB_iff, neB_iff, notB_iff, eqS_iff, neS_iff, inL_iff, inS_iff, inCutS_iff, inCutL_iff,
    fitL_iff, fitL2_iff, fitS_iff, sameLen_iff, emptyL_iff, okMake_iff, fun _ => rfl, fun _ => rfl, fun _ _ => rfl, fun _ _ _ => rfl, fun _ => rfl, rfl, rfl, fun _ _ _ => rfl, fun _ _ => rfl, fun _ _ => rfl, fun _ _ _ => rfl, fun _ _ => rfl, fun _ _ => rfl, fun _ => rfl, fun _ => rfl, fun _ _ _ _ => rfl, fun _ _ _ => rfl,
    fun _ _ _ => rfl, fun _ _ _ => rfl, fun _ _ _ _ => rfl, fun _ _ => rfl, fun _ => rfl, fun x y => ?_, fun x y => ?_, fun _ _ => rfl, fun _ _ => rfl, fun _ _ => rfl⟩
  · unfold minI; split <;> omega
  · unfold maxI; split <;> omega
end Go.CL
