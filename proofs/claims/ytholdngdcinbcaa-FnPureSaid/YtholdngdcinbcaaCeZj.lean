/-
  Plain laws, part j: contexts without some objects and attributes; clarifying.
-/
import Derived.Test.YtholdngdcinbcaaCeZi
namespace Go.CL
set_option linter.all false
open Go Go.CE
set_option linter.unusedSimpArgs false
set_option linter.unusedVariables false

theorem sdiff_full {n a : Nat} (ha : a < 2 ^ n) : 2 ^ n - 1 - a = sdiff (2 ^ n - 1) a := by
  apply Nat.eq_of_testBit_eq; intro i
  rw [testBit_sdiff, full_testBit, show 2 ^ n - 1 - a = 2 ^ n - (a + 1) by omega, Nat.testBit_two_pow_sub_succ ha]
theorem sdiff_le (a b : Nat) (n : Nat) (h : a < 2 ^ n) : sdiff a b < 2 ^ n := by
  unfold sdiff; exact Nat.xor_lt_two_pow h (Nat.lt_of_le_of_lt Nat.and_le_left h)
theorem sdiff_zero (a : Nat) : sdiff a 0 = a := by simp [sdiff]
/-- The rows whose objects are not in a set. -/
def keepRows (R : List Nat) (o : Nat) : List Nat := ((List.range R.length).filter fun i => !o.testBit i).map fun i => R.getD i 0
def withoutN (n : Nat) (R : List Nat) (o a : Nat) : Nat × List Nat := ((elems (sdiff (2 ^ n - 1) a)).length, (keepRows R o).map fun r => packN r (sdiff (2 ^ n - 1) a))
theorem keepRows_zero (R : List Nat) : keepRows R 0 = R := by
  unfold keepRows
  rw [List.filter_eq_self.2 (by simp)]
  apply List.ext_getElem (by simp)
  intro i h1 h2
  simp at h1
  simp [h1]
theorem keepRows_len (R : List Nat) (o : Nat) : (keepRows R o).length ≤ R.length := by
  unfold keepRows; rw [List.length_map]; simpa using List.length_filter_le (fun i => !o.testBit i) (List.range R.length)
theorem keepRows_mem {R : List Nat} {o r : Nat} (h : r ∈ keepRows R o) : r ∈ R := by
  unfold keepRows at h
  obtain ⟨i, hi, rfl⟩ := List.mem_map.1 h
  exact getD_mem (List.mem_range.1 (List.mem_filter.1 hi).1)
theorem elems_full {n : Nat} (h : n ≤ 8) : elems (2 ^ n - 1) = List.range n := by
  have h1 := full_lt n
  rw [← elems_upto h h1]
  apply List.filter_eq_self.2
  intro i hi
  rw [full_testBit]; simpa using hi
theorem packN_full {n s : Nat} (h : n ≤ 8) (hs : s < 2 ^ n) : packN s (2 ^ n - 1) = s := by
  unfold packN
  rw [elems_full h, List.length_range]
  rw [mkSet_congr (q := s.testBit) fun i hi => by rw [getD_lt' (by simpa using hi)]; simp]
  exact mkSet_self hs
theorem elems_sub_len {s n : Nat} (hn : n ≤ 8) (h : s < 2 ^ n) : (elems s).length ≤ n := by
  rw [← elems_upto hn h]; simpa using List.length_filter_le (fun e => s.testBit e) (List.range n)
theorem withoutN_ctx {n : Nat} {R : List Nat} (h : Ctx n R) (o a : Nat) : Ctx (withoutN n R o a).1 (withoutN n R o a).2 := by
  have hn := h.n6
  refine ⟨Nat.le_trans (elems_sub_len (by omega) (sdiff_le _ _ _ (full_lt n))) hn, ?_, fun r hr => ?_⟩
  · show ((keepRows R o).map _).length ≤ 8
    rw [List.length_map]; exact Nat.le_trans (keepRows_len R o) h.len
  · obtain ⟨x, hx, rfl⟩ := List.mem_map.1 hr
    exact packN_lt _ _
theorem keepRows_step (R : List Nat) (o k : Nat) : ((List.range (k + 1)).filter fun i => !o.testBit i) = ((List.range k).filter fun i => !o.testBit i) ++ if o.testBit k then [] else [k] := by
  rw [List.range_succ, List.filter_append]; cases h : o.testBit k <;> simp [h]
theorem impl_without_eq {n : Nat} {R : List Nat} (h : Ctx n R) {o a : Nat} (ho : o < 256) (ha : a < 256) :
    N.impl_without ((n : Int), zs R) (o : Int) (a : Int) = some (((((withoutN n R o a).1 : Nat) : Int), ()), zs (withoutN n R o a).2, ()) := by
  have hn := h.n6; have hl := h.len
  have hf := full_lt n
  have hp := pow_le8 (n := n) (by omega)
  have hk : sdiff (2 ^ n - 1) a < 2 ^ n := sdiff_le _ _ _ hf
  unfold N.impl_without
  simp only [E, impl_FullSet_eq, fullB_nat (show n ≤ 8 by omega), bandNot_nat (show 2 ^ n - 1 < 9223372036854775808 by omega) (show a < 9223372036854775808 by omega), impl_CountOf_eq, countB_nat (show sdiff (2 ^ n - 1) a < 256 by omega), zs_length]
  refine iter_to (fun k => (((o : Int), ((sdiff (2 ^ n - 1) a : Nat) : Int), zs R, ((R.length : Nat) : Int), (k : Int), ()), (0, ()), [], ((((elems (sdiff (2 ^ n - 1) a)).length : Nat) : Int), ()), zs ((((List.range k).filter fun i => !o.testBit i).map fun i => R.getD i 0).map fun r => packN r (sdiff (2 ^ n - 1) a)), ())) R.length (fun k hk' => ?_) ?_
  · have hr := h.get256 k
    have hlen : ((((List.range k).filter fun i => !o.testBit i).map fun i => R.getD i 0).map fun r => packN r (sdiff (2 ^ n - 1) a)).length ≤ k := by
      rw [List.length_map, List.length_map]; simpa using List.length_filter_le (fun i => !o.testBit i) (List.range k)
    simp only [E, N.impl_without.l0, zs_length, zs_getD, impl_HasElement_eq, hasB_nat ho]
    rw [if_pos (by omega), if_pos (by omega), keepRows_step R, addI_eq (by omega) (by omega)]
    cases hb : o.testBit k with
    | true => rw [if_neg (by simp)]; simp only [if_true, List.append_nil]; rfl
    | false =>
      rw [if_pos rfl, impl_renumbered_eq hr (by omega)]
      simp only [E, zs_length]
      rw [if_pos (by simp only [List.length_cons, List.length_nil]; omega), if_neg (by simp), List.map_append, List.map_append, zs_append]; rfl
  · simp only [E, N.impl_without.l0]
    rw [if_neg (by omega)]; rfl
theorem isSetB_8 {n s : Nat} (h : isSetB (n : Int) (s : Int) = true) : n ≤ 8 ∧ s < 2 ^ n := by rw [isSetB_nat] at h; simpa using h
/-- What 'DropObjects' and 'DropAttributes' say. -/
def dropObjects (c : C) (o : Int) : C × Bool := if ctxB c && isSetB c.2.length o then (((withoutN c.1.toNat (c.2.map Int.toNat) o.toNat 0).1, zs (withoutN c.1.toNat (c.2.map Int.toNat) o.toNat 0).2), true) else ((0, []), false)
def dropAttributes (c : C) (a : Int) : C × Bool := if ctxB c && isSetB c.1 a then (((withoutN c.1.toNat (c.2.map Int.toNat) 0 a.toNat).1, zs (withoutN c.1.toNat (c.2.map Int.toNat) 0 a.toNat).2), true) else ((0, []), false)
theorem zs_toNat : ∀ R : List Nat, (zs R).map Int.toNat = R
  | [] => rfl
  | x :: R => by rw [zs_cons, List.map_cons, zs_toNat R]; rfl
theorem impl_DropObjects_eq (c : C) (o : Int) (hl : c.2.length < 100000000000) : N.impl_DropObjects c o = some (((dropObjects c o).1.1, (dropObjects c o).2, ()), (dropObjects c o).1.2, ()) := by
  unfold N.impl_DropObjects dropObjects
  simp only [E, impl_areObjects_eq _ _ (show c.2.length < 1000000000000 by omega)]
  by_cases h : (ctxB c && isSetB c.2.length o) = true
  · rw [if_neg (by simp [h]), if_pos h]
    simp only [Bool.and_eq_true] at h
    obtain ⟨n, R, rfl, hx⟩ := ctxB_true h.1
    obtain ⟨m, t, hm, rfl, h8, ht⟩ := isSetB_true h.2
    simp only [zs_length] at hm
    obtain rfl : R.length = m := by omega
    have : t < 256 := Nat.lt_of_lt_of_le ht (pow_le8 h8)
    have e := impl_without_eq hx this (show 0 < 256 by omega)
    rw [show ((0 : Nat) : Int) = 0 from rfl] at e
    rw [e]; simp [zs_toNat]
  · rw [if_pos (by simpa using h), if_neg h]
theorem spec_DropAttributes_eq (c : C) (a : Int) (hl : c.2.length < 100000000000) : N.spec_DropAttributes c a = some (((dropAttributes c a).1.1, (dropAttributes c a).2, ()), (dropAttributes c a).1.2, ()) := by
  unfold N.spec_DropAttributes dropAttributes
  simp only [E, spec_IsContext_eq _ (show c.2.length < 1000000000000 by omega), spec_IsSet_eq]
  by_cases h1 : ctxB c = true
  · rw [if_neg (by simp [h1])]
    by_cases h2 : isSetB c.1 a = true
    · rw [if_neg (by simp [h2]), if_pos (by simp [h1, h2])]
      obtain ⟨n, R, rfl, hx⟩ := ctxB_true h1
      obtain ⟨m, t, hm, rfl, h8, ht⟩ := isSetB_true h2
      simp only at hm
      obtain rfl : n = m := by omega
      have hn := hx.n6; have hlR := hx.len
      have hp := pow_le8 (n := n) (by omega)
      have hf := full_lt n
      have hk : sdiff (2 ^ n - 1) t < 2 ^ n := sdiff_le _ _ _ hf
      simp only [spec_FullSet_eq, fullB_nat (show n ≤ 8 by omega), E]
      have es : subI .i64 ((2 ^ n - 1 : Nat) : Int) (t : Int) = ((sdiff (2 ^ n - 1) t : Nat) : Int) := by
        rw [← sdiff_full ht]
        generalize 2 ^ n = p at *
        rw [subI_eq (by omega) (by omega)]; omega
      rw [es]
      simp only [spec_CountOf_eq, countB_nat (show sdiff (2 ^ n - 1) t < 256 by omega), E]
      simp only [zs_toNat, Int.toNat_natCast, withoutN, keepRows_zero]
      refine iter_to (fun k => ((((n : Int), zs R), ((sdiff (2 ^ n - 1) t : Nat) : Int), (k : Int), ()), (0, ()), [], ((((elems (sdiff (2 ^ n - 1) t)).length : Nat) : Int), ()), zs ((R.take k).map fun r => packN r (sdiff (2 ^ n - 1) t)), ())) R.length (fun k hk' => ?_) ?_
      · have hr := hx.get256 k
        simp only [E, N.spec_DropAttributes.l0, zs_length, zs_getD, spec_l7Pack_eq hr (show sdiff (2 ^ n - 1) t < 256 by omega), List.length_map, List.length_take]
        rw [if_pos (by omega), if_pos (by omega), if_pos (by simp only [List.length_cons, List.length_nil]; omega), addI_eq (by omega) (by omega), ← take_snoc R k 0 hk', List.map_append, zs_append]; rfl
      · simp only [E, N.spec_DropAttributes.l0, zs_length]
        rw [if_neg (by omega), List.take_length]
    · rw [if_pos (by simpa using h2), if_neg (by simp [h2])]
  · rw [if_pos (by simpa using h1), if_neg (by simp [h1])]
end Go.CL
