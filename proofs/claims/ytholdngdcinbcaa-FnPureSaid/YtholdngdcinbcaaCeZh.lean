/-
  Plain laws, part h: counting, columns, parts of contexts.
-/
import Derived.Test.YtholdngdcinbcaaCeZg
namespace Go.CL
set_option linter.all false
open Go Go.CE
set_option linter.unusedSimpArgs false
set_option linter.unusedVariables false
set_option maxRecDepth 100000

theorem band_one {s e : Nat} (he : e < 64) (hs : s < 9223372036854775808) : band .i64 (bshr .i64 (s : Int) (e : Int)) 1 = (((s.testBit e).toNat : Nat) : Int) := by
  have h := bit_eq he hs
  rw [bshr_nat he] at h ⊢
  have hd : s / 2 ^ e < 9223372036854775808 := Nat.lt_of_le_of_lt (Nat.div_le_self _ _) hs
  have hb := band_nat (a := s / 2 ^ e) (b := 1) hd (by omega)
  rw [show ((1 : Nat) : Int) = 1 from rfl] at hb
  rw [hb, Nat.and_one_is_mod] at h ⊢
  cases ht : s.testBit e with
  | true => rw [ht, eqI_iff] at h; rw [h]; rfl
  | false =>
    rw [ht] at h
    have : ¬ (((s / 2 ^ e % 2 : Nat) : Int) = 1) := fun e => by rw [(eqI_iff _ _).2 e] at h; cases h
    have h2 : s / 2 ^ e % 2 < 2 := Nat.mod_lt _ (by omega)
    have h3 : s / 2 ^ e % 2 = 0 := by omega
    rw [h3]; rfl
/-- One more element, by a bit. -/
theorem mkSet_bit {n x e : Nat} {p : Nat → Bool} (hn : n < 62) (he : e < 64) (hx : x < 9223372036854775808) (h : p n = x.testBit e) :
    bor .i64 ((mkSet n p : Nat) : Int) (bshl .i64 (band .i64 (bshr .i64 (x : Int) (e : Int)) 1) (n : Int)) = ((mkSet (n + 1) p : Nat) : Int) := by
  rw [band_one he hx]
  have h1 := mkSet_lt n p
  have h2 := pow_lt63 (n := n) (by omega)
  cases ht : x.testBit e with
  | true =>
    rw [ht] at h
    exact mkSet_or hn h
  | false =>
    rw [ht] at h
    rw [mkSet_skip h]
    have := bshl_nat (a := 0) (b := n) (by omega) (by omega)
    rw [show ((false.toNat : Nat) : Int) = ((0 : Nat) : Int) from rfl, this, Nat.zero_mul, bor_nat (by omega) (by omega), Nat.or_zero]

/-! ### Counting -/
theorem onesCount64 : ∀ s : Fin 256, N.bits_OnesCount64 ((s.1 : Nat) : Int) = some (((((elems s.1).length : Nat) : Int), ()), ()) := by decide +kernel
theorem bits_OnesCount_eq {s : Nat} (hs : s < 256) : N.bits_OnesCount (s : Int) = some (((((elems s).length : Nat) : Int), ()), ()) := by
  unfold N.bits_OnesCount; rw [onesCount64 ⟨s, hs⟩]; rfl
def countB (s : Int) : Int := if isSetB 8 s = true then (((elems s.toNat).length : Nat) : Int) else 0
theorem countB_nat {s : Nat} (hs : s < 256) : countB (s : Int) = (((elems s).length : Nat) : Int) := by
  unfold countB; rw [if_pos (by rw [isAny_nat]; simpa using hs)]; rfl
theorem impl_CountOf_eq (s : Int) : N.impl_CountOf s = some ((countB s, ()), ()) := by
  unfold N.impl_CountOf countB
  simp only [E, impl_isAnySet_eq]
  by_cases h : isSetB 8 s = true
  · obtain ⟨t, rfl, ht⟩ := isAny_true h
    rw [if_neg (by simp [h]), if_pos h, wrapK_u64 (by omega) (by omega), bits_OnesCount_eq ht]; rfl
  · rw [if_pos (by simpa using h), if_neg h]
theorem spec_count : ∀ s : Fin 256, iterN (fun (y : (Int × Int × Unit) × Unit) => N.spec_CountOf.l0 y.1.1 y.1.2.1) 9 ((((s.1 : Nat) : Int), 0, ()), ()) = some (((((elems s.1).length : Nat) : Int), ()), ()) := by decide +kernel
theorem spec_CountOf_eq (s : Int) : N.spec_CountOf s = some ((countB s, ()), ()) := by
  unfold N.spec_CountOf countB
  simp only [E, spec_IsSet_eq]
  by_cases h : isSetB 8 s = true
  · obtain ⟨t, rfl, ht⟩ := isAny_true h
    rw [if_neg (by simp [h]), if_pos h]
    exact iter_of (spec_count ⟨t, ht⟩)
  · rw [if_pos (by simpa using h), if_neg h]
def fullB (n : Int) : Int := if 0 ≤ n ∧ n ≤ 8 then 2 ^ n.toNat - 1 else 0
theorem full_cast (n : Nat) : (2 : Int) ^ n - 1 = ((2 ^ n - 1 : Nat) : Int) := by
  have := Nat.two_pow_pos n
  have e2 : (2 : Int) ^ n = ((2 ^ n : Nat) : Int) := by push_cast; rfl
  rw [e2]; omega
theorem fullB_nat {n : Nat} (h : n ≤ 8) : fullB (n : Int) = ((2 ^ n - 1 : Nat) : Int) := by
  unfold fullB; rw [if_pos (by omega)]; exact full_cast n
theorem shl_full {m : Nat} (h8 : m ≤ 8) : subI .i64 (bshl .i64 1 (m : Int)) 1 = ((2 ^ m - 1 : Nat) : Int) := by
  have hp := pow_le8 h8
  have := Nat.two_pow_pos m
  rw [one_shl (by omega)]
  generalize 2 ^ m = p at *
  rw [subI_eq (by omega) (by omega)]; omega
theorem spec_FullSet_eq (n : Int) : N.spec_FullSet n = some ((fullB n, ()), ()) := by
  unfold N.spec_FullSet
  simp only [E, spec_l1In_eq, decide_eq_false_iff_not]
  by_cases h : 0 ≤ n ∧ n ≤ 8
  · obtain ⟨m, rfl⟩ := Int.eq_ofNat_of_zero_le h.1
    rw [if_neg (by omega), wrapK_u64 (by omega) (by omega), if_pos (by omega), shl_full (by omega), fullB_nat (by omega)]
  · rw [if_pos h]; unfold fullB; rw [if_neg h]
theorem impl_FullSet_eq (n : Int) : N.impl_FullSet n = some ((fullB n, ()), ()) := by
  unfold N.impl_FullSet
  simp only [E, impl_within_eq, decide_eq_false_iff_not]
  by_cases h : 0 ≤ n ∧ n ≤ 8
  · obtain ⟨m, rfl⟩ := Int.eq_ofNat_of_zero_le h.1
    rw [if_neg (by omega), if_pos (by omega), shl_full (by omega), fullB_nat (by omega)]
  · rw [if_pos h]; unfold fullB; rw [if_neg h]

/-! ### Columns -/
/-- The objects that have an attribute. -/
def col (R : List Nat) (m : Nat) : Nat := mkSet R.length fun g => (R.getD g 0).testBit m
theorem col_lt (R : List Nat) (m : Nat) : col R m < 2 ^ R.length := mkSet_lt _ _
theorem spec_l3Column_eq {R : List Nat} (hl : R.length ≤ 8) (hR : ∀ g, R.getD g 0 < 256) (n : Int) {m : Nat} (hm : m < 64) : N.spec_l3Column (n, zs R) (m : Int) = some ((((col R m : Nat) : Int), ()), ()) := by
  unfold N.spec_l3Column
  refine iter_to (fun i => (((m : Int), ((n, zs R) : C), ((mkSet i (fun g => (R.getD g 0).testBit m) : Nat) : Int), (i : Int), ()), ())) R.length (fun i hi => ?_) ?_
  · have := hR i
    simp only [E, N.spec_l3Column.l0, zs_length, zs_getD, spec_l2Has_eq hm (show R.getD i 0 < 9223372036854775808 by omega)]
    rw [if_pos (by omega), if_pos (by omega), wrapK_u64 (by omega) (by omega), addI_eq (by omega) (by omega)]
    cases hb : (R.getD i 0).testBit m with
    | true => rw [if_pos rfl, if_pos (by omega), mkSet_or (p := fun g => (R.getD g 0).testBit m) (by omega) hb]; rfl
    | false => rw [if_neg (by simp), mkSet_skip (p := fun g => (R.getD g 0).testBit m) hb]; rfl
  · simp only [E, N.spec_l3Column.l0, zs_length]
    rw [if_neg (by omega)]; rfl
theorem Ctx.get256 {n : Nat} {R : List Nat} (h : Ctx n R) (i : Nat) : R.getD i 0 < 256 := by have := h.get64 i; omega
theorem impl_isAttribute_eq (c : C) (m : Int) (hl : c.2.length < 1000000000000) (hc : -1000000 < c.1) : N.impl_isAttribute c m = some ((ctxB c && decide (0 ≤ m ∧ m < c.1), ()), ()) := by
  unfold N.impl_isAttribute
  simp only [E, impl_IsContext_eq _ hl, impl_within_eq]
  by_cases h : ctxB c = true
  · obtain ⟨n, R, rfl, hx⟩ := ctxB_true h
    have := hx.n6
    rw [if_pos h, subI_eq (by simp only; omega) (by simp only; omega), h]
    congr 3
    simp only [Bool.true_and, decide_eq_decide]; omega
  · rw [if_neg h]; simp [h]
theorem impl_ColumnOf_eq {n : Nat} {R : List Nat} (h : Ctx n R) {m : Nat} (hm : m < n) : N.impl_ColumnOf ((n : Int), zs R) (m : Int) = some ((((col R m : Nat) : Int), ()), ()) := by
  have hn := h.n6; have hl := h.len
  unfold N.impl_ColumnOf
  rw [impl_isAttribute_eq _ _ (by rw [zs_length]; omega) (by simp only; omega)]
  simp only [E, ctxB_nat h, zs_length]
  rw [if_neg (by simp; omega)]
  refine iter_to (fun i => (((m : Int), ((mkSet i (fun g => (R.getD g 0).testBit m) : Nat) : Int), zs R, ((R.length : Nat) : Int), (i : Int), ()), ())) R.length (fun i hi => ?_) ?_
  · have := h.get256 i
    simp only [E, N.impl_ColumnOf.l0, zs_length, zs_getD]
    rw [if_pos (by omega), if_pos (by omega), if_pos (by omega), if_pos (by omega), mkSet_bit (p := fun g => (R.getD g 0).testBit m) (by omega) (by omega) (by omega) rfl, addI_eq (by omega) (by omega)]; rfl
  · simp only [E, N.impl_ColumnOf.l0]
    rw [if_neg (by omega)]; rfl
def cols (n : Nat) (R : List Nat) : List Nat := (List.range n).map (col R)
theorem cols_length (n : Nat) (R : List Nat) : (cols n R).length = n := by simp [cols]
theorem cols_getD {n : Nat} {R : List Nat} {m : Nat} (h : m < n) : (cols n R).getD m 0 = col R m := by rw [getD_lt' (by rw [cols_length]; exact h)]; simp [cols]
theorem impl_columns_eq {n : Nat} {R : List Nat} (h : Ctx n R) : N.impl_columns ((n : Int), zs R) = some ((), zs (cols n R), ()) := by
  have hn := h.n6
  unfold N.impl_columns
  refine iter_to (fun i => ((((n : Int), zs R), (n : Int), (i : Int), ()), zs (cols i R), ())) n (fun i hi => ?_) ?_
  · simp only [E, N.impl_columns.l0, impl_ColumnOf_eq h hi, zs_length, cols_length]
    rw [if_pos (by omega), if_pos (by simp; omega), addI_eq (by omega) (by omega)]
    have : cols (i + 1) R = cols i R ++ [col R i] := by simp [cols, List.range_succ]
    rw [this, zs_append]; rfl
  · simp only [E, N.impl_columns.l0]
    rw [if_neg (by omega)]
end Go.CL
