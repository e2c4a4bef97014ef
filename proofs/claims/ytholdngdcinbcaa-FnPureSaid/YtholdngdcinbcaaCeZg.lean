/-
  Plain laws, part g: sets by their elements; contexts.
-/
import Derived.Test.YtholdngdcinbcaaCeZf
namespace Go.CL
set_option linter.all false
open Go Go.CE
set_option linter.unusedSimpArgs false
set_option linter.unusedVariables false

/-- The set of the numbers below n that are accepted. -/
def mkSet : Nat → (Nat → Bool) → Nat
  | 0, _ => 0
  | n + 1, p => mkSet n p ||| (if p n then 2 ^ n else 0)
theorem mkSet_lt (n : Nat) (p : Nat → Bool) : mkSet n p < 2 ^ n := by
  induction n with
  | zero => simp [mkSet]
  | succ n ih =>
    have h1 : 2 ^ n < 2 ^ (n + 1) := Nat.pow_lt_pow_right (by omega) (by omega)
    refine Nat.or_lt_two_pow (by omega) ?_
    split <;> omega
theorem testBit_pow (n i : Nat) : (2 ^ n).testBit i = decide (n = i) := by rw [Nat.testBit_two_pow]
theorem mkSet_testBit (n : Nat) (p : Nat → Bool) (i : Nat) : (mkSet n p).testBit i = (decide (i < n) && p i) := by
  induction n with
  | zero => simp [mkSet]
  | succ n ih =>
    rw [mkSet, Nat.testBit_or, ih]
    by_cases h1 : i = n
    · subst h1; cases p i <;> simp
    · have h2 : decide (i < n + 1) = decide (i < n) := by rw [decide_eq_decide]; omega
      have h3 : decide (n = i) = false := by simpa using fun e => h1 e.symm
      rw [h2]; split
      · rw [testBit_pow, h3, Bool.or_false]
      · simp
theorem mkSet_congr {n : Nat} {p q : Nat → Bool} (h : ∀ i, i < n → p i = q i) : mkSet n p = mkSet n q := by
  apply Nat.eq_of_testBit_eq; intro i
  rw [mkSet_testBit, mkSet_testBit]
  by_cases hi : i < n
  · rw [h i hi]
  · simp [hi]
theorem testBit_ge {s n i : Nat} (hs : s < 2 ^ n) (hi : n ≤ i) : s.testBit i = false := Nat.testBit_lt_two_pow (Nat.lt_of_lt_of_le hs (Nat.pow_le_pow_right (by omega) hi))
theorem set_ext {n a b : Nat} (ha : a < 2 ^ n) (hb : b < 2 ^ n) (h : ∀ i, i < n → a.testBit i = b.testBit i) : a = b := by
  apply Nat.eq_of_testBit_eq; intro i
  by_cases hi : i < n
  · exact h i hi
  · rw [testBit_ge ha (by omega), testBit_ge hb (by omega)]
theorem mkSet_self {s n : Nat} (hs : s < 2 ^ n) : mkSet n s.testBit = s := set_ext (mkSet_lt _ _) hs fun i hi => by rw [mkSet_testBit]; simp [hi]
theorem mkSet_small {n : Nat} (h : n ≤ 8) (p : Nat → Bool) : mkSet n p < 256 := Nat.lt_of_lt_of_le (mkSet_lt n p) (pow_le8 h)
/-- One more element. -/
theorem mkSet_or {n : Nat} {p : Nat → Bool} (hn : n < 62) (h : p n = true) : bor .i64 ((mkSet n p : Nat) : Int) (bshl .i64 1 (n : Int)) = ((mkSet (n + 1) p : Nat) : Int) := by
  have h1 := mkSet_lt n p
  have h2 := pow_lt63 (n := n) (by omega)
  rw [one_shl (by omega), bor_nat (by omega) h2, mkSet, if_pos h]
theorem mkSet_skip {n : Nat} {p : Nat → Bool} (h : p n = false) : mkSet (n + 1) p = mkSet n p := by rw [mkSet, h]; simp
/-- All of n elements. -/
theorem full_lt (n : Nat) : 2 ^ n - 1 < 2 ^ n := by have := Nat.two_pow_pos n; omega
theorem full_testBit (n i : Nat) : (2 ^ n - 1).testBit i = decide (i < n) := Nat.testBit_two_pow_sub_one n i

/-! ### Contexts -/
abbrev C := Int × List Int
def ctxB (c : C) : Bool := decide (0 ≤ c.1 ∧ c.1 ≤ 6) && decide (c.2.length ≤ 8) && c.2.all (isSetB c.1)
structure Ctx (n : Nat) (R : List Nat) : Prop where
  n6 : n ≤ 6
  len : R.length ≤ 8
  row : ∀ r ∈ R, r < 2 ^ n
theorem Ctx.get {n : Nat} {R : List Nat} (h : Ctx n R) (i : Nat) : R.getD i 0 < 2 ^ n := by
  by_cases hi : i < R.length
  · exact h.row _ (getD_mem hi)
  · rw [getD_ge (by omega)]; exact Nat.two_pow_pos n
theorem Ctx.get64 {n : Nat} {R : List Nat} (h : Ctx n R) (i : Nat) : R.getD i 0 < 64 := Nat.lt_of_lt_of_le (h.get i) (show 2 ^ n ≤ 2 ^ 6 from Nat.pow_le_pow_right (by omega) h.n6)
theorem ctxB_true {c : C} (h : ctxB c = true) : ∃ (n : Nat) (R : List Nat), c = ((n : Int), zs R) ∧ Ctx n R := by
  unfold ctxB at h
  simp only [Bool.and_eq_true, decide_eq_true_eq, List.all_eq_true] at h
  obtain ⟨⟨⟨h1, h2⟩, h3⟩, h4⟩ := h
  obtain ⟨a, l⟩ := c
  obtain ⟨n, rfl⟩ := Int.eq_ofNat_of_zero_le h1
  obtain ⟨R, rfl⟩ := of_nonneg (l := l) fun x hx => by obtain ⟨m, t, _, rfl, _⟩ := isSetB_true (h4 x hx); omega
  refine ⟨n, R, rfl, by simp at h2; omega, by simpa using h3, fun r hr => ?_⟩
  have := h4 (r : Int) (List.mem_map.2 ⟨r, hr, rfl⟩)
  rw [show ((n : Int), zs R).1 = (n : Int) from rfl, isSetB_nat, decide_eq_true_eq] at this
  exact this.2
theorem ctxB_nat {n : Nat} {R : List Nat} (h : Ctx n R) : ctxB ((n : Int), zs R) = true := by
  unfold ctxB
  simp only [Bool.and_eq_true, decide_eq_true_eq, List.all_eq_true, zs_length]
  refine ⟨⟨⟨by omega, by have := h.n6; omega⟩, h.len⟩, fun x hx => ?_⟩
  obtain ⟨r, hr, rfl⟩ := List.mem_map.1 hx
  rw [isSetB_nat, decide_eq_true_eq]; exact ⟨by have := h.n6; omega, h.row r hr⟩
theorem spec_IsContext_eq (c : C) (hl : c.2.length < 1000000000000) : N.spec_IsContext c = some ((ctxB c, ()), ()) := by
  unfold N.spec_IsContext
  refine (iter_all (fun k => ((((c.1, c.2) : C), (k : Int), ()), ())) c.2.length (fun k => isSetB c.1 (c.2.getD k 0)) (fun b => ((b && decide (0 ≤ c.1 ∧ c.1 ≤ 6) && decide (c.2.length ≤ 8), ()), ())) (fun k hk hp => ?_) (fun k hk hp => ?_) ?_).trans ?_
  · simp only [E, N.spec_IsContext.l0, spec_IsSet_eq]
    rw [if_pos (by omega), if_pos (by omega), hp, if_neg (by simp), addI_eq (by omega) (by omega)]; rfl
  · simp only [E, N.spec_IsContext.l0, spec_IsSet_eq]
    rw [if_pos (by omega), if_pos (by omega), if_pos hp]; rfl
  · simp only [E, N.spec_IsContext.l0, spec_l1In_eq, decide_eq_true_eq]
    rw [if_neg (by omega)]
    by_cases h : 0 ≤ c.1 ∧ c.1 ≤ 6
    · rw [if_pos h]; simp [h, leI]; omega
    · rw [if_neg h]; simp [h]
  · rw [range_all_get (p := isSetB c.1)]
    congr 3
    unfold ctxB
    cases c.2.all (isSetB c.1) <;> simp
theorem impl_IsContext_eq (c : C) (hl : c.2.length < 1000000000000) : N.impl_IsContext c = some ((ctxB c, ()), ()) := by
  unfold N.impl_IsContext ctxB
  simp only [E, impl_within_eq, decide_eq_true_eq]
  by_cases h : 0 ≤ c.1 ∧ c.1 ≤ 6
  · rw [if_pos h]
    by_cases h2 : c.2.length ≤ 8
    · rw [if_pos (by omega), containsFunc_Sint_int c.2 _ (fun r => !isSetB c.1 r) (fun r _ => by unfold N.impl_IsContext_c1; simp [impl_IsSet_eq, notB]) hl]
      simp only [E, notB, any_not_all, h, h2, and_self, decide_true, Bool.true_and]
    · rw [if_neg (by omega)]; simp [h2]
  · rw [if_neg h]; simp [h]
theorem impl_areAttributes_eq (c : C) (s : Int) (hl : c.2.length < 1000000000000) : N.impl_areAttributes c s = some ((ctxB c && isSetB c.1 s, ()), ()) := by
  unfold N.impl_areAttributes
  simp only [E, impl_IsContext_eq _ hl, impl_IsSet_eq]
  split <;> simp_all
theorem impl_areObjects_eq (c : C) (s : Int) (hl : c.2.length < 1000000000000) : N.impl_areObjects c s = some ((ctxB c && isSetB c.2.length s, ()), ()) := by
  unfold N.impl_areObjects
  simp only [E, impl_IsContext_eq _ hl, impl_IsSet_eq]
  split <;> simp_all
/-- What 'InsertRow' says. -/
def insertRow (c : C) (row : Int) : C × Bool := if ctxB c && isSetB c.1 row && decide (c.2.length < 8) then ((c.1, c.2 ++ [row]), true) else ((0, []), false)
theorem spec_l3Copy_eq (c : C) (hl : c.2.length < 100000000000) : N.spec_l3Copy c = some ((c.1, ()), c.2, ()) := by
  unfold N.spec_l3Copy; simp only [E, List.nil_append, List.length_nil]; rw [if_pos (by omega)]
theorem spec_InsertRow_eq (c : C) (row : Int) (hl : c.2.length < 100000000000) : N.spec_InsertRow c row = some (((insertRow c row).1.1, (insertRow c row).2, ()), (insertRow c row).1.2, ()) := by
  unfold N.spec_InsertRow insertRow
  simp only [E, spec_IsContext_eq _ (show c.2.length < 1000000000000 by omega), spec_IsSet_eq]
  by_cases h1 : ctxB c = true
  · rw [if_neg (by simp [h1])]
    by_cases h2 : isSetB c.1 row = true
    · rw [if_neg (by simp [h2])]
      by_cases h3 : c.2.length < 8
      · rw [if_neg (by omega), spec_l3Copy_eq _ hl]
        simp only [E]
        rw [if_pos (by simp; omega)]
        simp [h1, h2, h3]
      · rw [if_pos (by omega)]; simp [h3]
    · rw [if_pos (by simpa using h2)]; simp [h2]
  · rw [if_pos (by simpa using h1)]; simp [h1]
theorem impl_InsertRow_eq (c : C) (row : Int) (hl : c.2.length < 100000000000) : N.impl_InsertRow c row = some (((insertRow c row).1.1, (insertRow c row).2, ()), (insertRow c row).1.2, ()) := by
  unfold N.impl_InsertRow insertRow
  simp only [E, impl_areAttributes_eq _ _ (show c.2.length < 1000000000000 by omega)]
  by_cases h1 : (ctxB c && isSetB c.1 row) = true
  · rw [if_neg (by simp [h1])]
    have h8 : c.2.length ≤ 8 := by
      simp only [ctxB, Bool.and_eq_true, decide_eq_true_eq] at h1; exact h1.1.1.2
    by_cases h3 : c.2.length < 8
    · rw [if_neg (by omega), clone_Sint _ (by omega)]
      simp only [E]
      rw [if_pos (by simp; omega)]
      simp [h1, h3]
    · rw [if_pos (by omega)]; simp [h3]
  · rw [if_pos (by simpa using h1)]; simp [h1]
end Go.CL
