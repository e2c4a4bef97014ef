/-
  Plain laws, part c: sets and points.
-/
import Derived.Test.YtholdngdcinbcaaCeZb
import Derived.Test.YtholdngdcinbcaaCeNr1
namespace Go.CL
set_option linter.all false
open Go Go.CE
set_option linter.unusedSimpArgs false
set_option linter.unusedVariables false

/-! ### Sets -/
def isSetB (n s : Int) : Bool := decide (0 ≤ n ∧ n ≤ 8 ∧ 0 ≤ s ∧ s < 2 ^ n.toNat)
theorem spec_l1In_eq (x lo hi : Int) : N.spec_l1In x lo hi = some ((decide (lo ≤ x ∧ x ≤ hi), ()), ()) := by
  unfold N.spec_l1In; by_cases h : lo ≤ x <;> simp [h, leI]
theorem impl_within_eq (x lo hi : Int) : N.impl_within x lo hi = some ((decide (lo ≤ x ∧ x ≤ hi), ()), ()) := by
  unfold N.impl_within; by_cases h : lo ≤ x <;> simp [h, leI]
theorem spec_IsSet_eq (n s : Int) : N.spec_IsSet n s = some ((isSetB n s, ()), ()) := by
  unfold N.spec_IsSet isSetB
  simp only [spec_l1In_eq, bnd_some, ifB_eq, chk_eq, decide_eq_true_eq]
  by_cases h : 0 ≤ n ∧ n ≤ 8
  · obtain ⟨m, rfl⟩ := Int.eq_ofNat_of_zero_le h.1
    have h8 : m ≤ 8 := by omega
    have hp := pow_le8 h8
    have e : ((m : Int)).toNat = m := by simp
    have e2 : (2 : Int) ^ m = ((2 ^ m : Nat) : Int) := by push_cast; rfl
    rw [e, e2]
    rw [if_pos h, wrapK_u64 (by omega) (by omega), if_pos (by simp), one_shl (by omega)]
    generalize 2 ^ m = p at *
    rw [subI_eq (by omega) (by omega)]
    congr 3
    rw [decide_eq_decide]; omega
  · rw [if_neg h]; congr 3; simp; omega
theorem impl_IsSet_eq (n s : Int) : N.impl_IsSet n s = some ((isSetB n s, ()), ()) := by
  unfold N.impl_IsSet isSetB
  simp only [impl_within_eq, bnd_some, ifB_eq, chk_eq, decide_eq_true_eq]
  by_cases h : 0 ≤ n ∧ n ≤ 8
  · obtain ⟨m, rfl⟩ := Int.eq_ofNat_of_zero_le h.1
    have h8 : m ≤ 8 := by omega
    have hp := pow_le8 h8
    have e : ((m : Int)).toNat = m := by simp
    have e2 : (2 : Int) ^ m = ((2 ^ m : Nat) : Int) := by push_cast; rfl
    rw [e, e2]
    rw [if_pos h, if_pos (by simp), one_shl (by omega)]
    generalize 2 ^ m = p at *
    rw [subI_eq (by omega) (by omega)]
    congr 3
    rw [decide_eq_decide]; omega
  · rw [if_neg h]; congr 3; simp; omega
theorem isSetB_nat {n s : Nat} : isSetB (n : Int) (s : Int) = decide (n ≤ 8 ∧ s < 2 ^ n) := by
  unfold isSetB
  rw [decide_eq_decide]
  have e2 : (2 : Int) ^ ((n : Int)).toNat = ((2 ^ n : Nat) : Int) := by simp
  rw [e2]
  generalize 2 ^ n = p
  omega
theorem isSetB_true {n s : Int} (h : isSetB n s = true) : ∃ m t : Nat, n = m ∧ s = t ∧ m ≤ 8 ∧ t < 2 ^ m := by
  have h' := h
  unfold isSetB at h'
  simp only [decide_eq_true_eq] at h'
  obtain ⟨m, rfl⟩ := Int.eq_ofNat_of_zero_le h'.1
  obtain ⟨t, rfl⟩ := Int.eq_ofNat_of_zero_le h'.2.2.1
  refine ⟨m, t, rfl, rfl, ?_⟩
  have := (isSetB_nat (n := m) (s := t)).symm.trans h
  simpa using this
theorem impl_isAnySet_eq (s : Int) : N.impl_isAnySet s = some ((isSetB 8 s, ()), ()) := by
  unfold N.impl_isAnySet; simp [impl_IsSet_eq]
theorem isAny_nat {s : Nat} : isSetB 8 (s : Int) = decide (s < 256) := by
  have := isSetB_nat (n := 8) (s := s)
  simpa using this
theorem isAny_true {s : Int} (h : isSetB 8 s = true) : ∃ t : Nat, s = t ∧ t < 256 := by
  obtain ⟨m, t, h1, rfl, _, h3⟩ := isSetB_true h
  have : m = 8 := by omega
  subst this; exact ⟨t, rfl, h3⟩
theorem bit_eq {s e : Nat} (he : e < 64) (hs : s < 9223372036854775808) : eqI (band .i64 (bshr .i64 (s : Int) (e : Int)) 1) 1 = s.testBit e := by
  rw [bshr_nat he]
  have hd : s / 2 ^ e < 9223372036854775808 := Nat.lt_of_le_of_lt (Nat.div_le_self _ _) hs
  have := band_nat (a := s / 2 ^ e) (b := 1) hd (by omega)
  rw [show ((1 : Nat) : Int) = 1 from rfl] at this
  rw [this, Bool.eq_iff_iff, eqI_iff, Nat.testBit_eq_decide_div_mod_eq, decide_eq_true_eq, Nat.and_one_is_mod]
  omega
theorem spec_l2Has_eq {s e : Nat} (he : e < 64) (hs : s < 9223372036854775808) : N.spec_l2Has (s : Int) (e : Int) = some ((s.testBit e, ()), ()) := by
  unfold N.spec_l2Has
  rw [wrapK_u64 (by omega) (by omega), chk_eq, if_pos (by simp), bit_eq he hs]
/-- Is it a set with that element? -/
def hasB (s e : Int) : Bool := isSetB 8 s && decide (0 ≤ e ∧ e ≤ 7) && s.toNat.testBit e.toNat
theorem hasB_nat {s e : Nat} (hs : s < 256) : hasB (s : Int) (e : Int) = s.testBit e := by
  unfold hasB
  rw [isAny_nat]
  by_cases he : e ≤ 7
  · simp [hs]; intro; omega
  · have : s.testBit e = false := Nat.testBit_lt_two_pow (Nat.lt_of_lt_of_le hs (show 2 ^ 8 ≤ 2 ^ e from Nat.pow_le_pow_right (by omega) (by omega)))
    simp [this]
theorem impl_HasElement_eq (s e : Int) : N.impl_HasElement s e = some ((hasB s e, ()), ()) := by
  unfold N.impl_HasElement hasB
  simp only [impl_isAnySet_eq, impl_within_eq, bnd_some, ifB_eq, chk_eq, decide_eq_true_eq]
  by_cases h : isSetB 8 s = true
  · rw [if_pos h]
    obtain ⟨t, rfl, ht⟩ := isAny_true h
    by_cases h2 : 0 ≤ e ∧ e ≤ 7
    · obtain ⟨i, rfl⟩ := Int.eq_ofNat_of_zero_le h2.1
      rw [if_pos h2, if_pos (by simp), bit_eq (by omega) (by omega)]
      simp [h]; intro; omega
    · rw [if_neg h2]; simp [h]; omega
  · rw [if_neg h]; simp at h; simp [h]
/-- The elements of a set. -/
def elems (s : Nat) : List Nat := (List.range 8).filter fun e => s.testBit e
theorem elems_range (s m : Nat) : (List.range (m + 1)).filter (fun e => s.testBit e) = (List.range m).filter (fun e => s.testBit e) ++ if s.testBit m then [m] else [] := by
  rw [List.range_succ, List.filter_append]; simp [List.filter_cons]
theorem impl_ElementsOf_eq {s : Nat} (hs : s < 256) : N.impl_ElementsOf (s : Int) = some ((), zs (elems s), ()) := by
  unfold N.impl_ElementsOf
  refine iter_to (fun i => (((s : Int), (i : Int), ()), zs ((List.range i).filter fun e => s.testBit e), ())) 8 (fun i hi => ?_) ?_
  · simp only [N.impl_ElementsOf.l0, impl_HasElement_eq, bnd_some, hasB_nat hs, ifB_eq, chk_eq]
    rw [if_pos (by simp; omega), addI_eq (by omega) (by omega), elems_range]
    have hlen : ((List.range i).filter fun e => s.testBit e).length ≤ i := by simpa using List.length_filter_le (fun e => s.testBit e) (List.range i)
    by_cases h : s.testBit i = true
    · rw [if_pos h, if_pos (by simp [maxList_eq]; omega), if_pos h, zs_append]; rfl
    · rw [if_neg h, if_neg h, List.append_nil]; rfl
  · simp [N.impl_ElementsOf.l0, elems]
end Go.CL
