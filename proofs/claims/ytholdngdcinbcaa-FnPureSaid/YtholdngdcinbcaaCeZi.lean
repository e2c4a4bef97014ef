/-
  Plain laws, part i: parts of contexts, clarifying.
-/
import Derived.Test.YtholdngdcinbcaaCeZh
namespace Go.CL
set_option linter.all false
open Go Go.CE
set_option linter.unusedSimpArgs false
set_option linter.unusedVariables false

theorem index_Sint (l : List Int) (x : Int) (hl : l.length < 1000000000000) : N.slices_Index_Sint_int l x = some ((idxZ (fun y => decide (x = y)) l 0, ()), ()) := by
  unfold N.slices_Index_Sint_int
  have := iter_find (f := fun (y : (List Int × Int × Int × Int × Unit) × Unit) => N.slices_Index_Sint_int.l0 y.1.1 y.1.2.1 y.1.2.2.1 y.1.2.2.2.1) (fun i => ((l, x, (l.length : Int), (i : Int), ()), ())) l.length (fun i => decide (x = l.getD i 0))
    (fun o => (((match o with | some i => (i : Int) | none => -1), ()), ())) (fun i hi hp => ?_) (fun i hi hp => ?_) ?_
  · exact this
  · simp only [decide_eq_false_iff_not] at hp
    simp only [E, N.slices_Index_Sint_int.l0]
    rw [if_pos (by omega), if_pos (by omega), if_neg hp, addI_eq (by omega) (by omega)]; rfl
  · simp only [decide_eq_true_eq] at hp
    simp only [E, N.slices_Index_Sint_int.l0]
    rw [if_pos (by omega), if_pos (by omega), if_pos hp]
  · simp only [E, N.slices_Index_Sint_int.l0]
    rw [if_neg (by omega)]
theorem contains_Sint (l : List Int) (x : Int) (hl : l.length < 1000000000000) : N.slices_Contains_Sint_int l x = some ((l.contains x, ()), ()) := by
  unfold N.slices_Contains_Sint_int
  rw [index_Sint l x hl, bnd_some]
  have := idxZ_nonneg (fun y => decide (x = y)) l 0
  simp only [geI]
  rw [show decide (idxZ (fun y => decide (x = y)) l 0 ≥ 0) = decide (0 ≤ idxZ (fun y => decide (x = y)) l 0) from rfl, this]
  congr 3
  rw [Bool.eq_iff_iff]
  simp
theorem zs_contains (l : List Nat) (x : Nat) : (zs l).contains (x : Int) = l.contains x := by
  rw [Bool.eq_iff_iff]; simp only [zs, List.contains_iff_mem, List.mem_map]
  constructor
  · rintro ⟨a, ha, e⟩; obtain rfl : a = x := by omega
    exact ha
  · exact fun h => ⟨x, h, rfl⟩
theorem zs_take (l : List Nat) (k : Nat) : (zs l).take k = zs (l.take k) := by simp [zs]
theorem cutL_zero {A : Type} (l : List A) (k : Nat) : cutL l 0 (k : Int) = l.take k := by simp [cutL]
/-- The set of the places of what was met before. -/
def repd (R : List Nat) : Nat := mkSet R.length fun i => (R.take i).contains (R.getD i 0)
theorem impl_repeated_eq {R : List Nat} (hl : R.length ≤ 8) : N.impl_repeated (zs R) = some ((((repd R : Nat) : Int), ()), ()) := by
  unfold N.impl_repeated
  simp only [E, zs_length]
  refine iter_to (fun i => ((zs R, ((mkSet i (fun i => (R.take i).contains (R.getD i 0)) : Nat) : Int), zs R, ((R.length : Nat) : Int), (i : Int), ()), ())) R.length (fun i hi => ?_) ?_
  · simp only [E, N.impl_repeated.l0, zs_length, zs_getD, cutL_zero, zs_take]
    rw [if_pos (by omega), if_pos (by omega), if_pos (by omega), contains_Sint _ _ (by rw [zs_length, List.length_take]; omega)]
    simp only [E, zs_contains]
    rw [addI_eq (by omega) (by omega)]
    cases hb : (R.take i).contains (R.getD i 0) with
    | true => rw [if_pos rfl, if_pos (by omega), mkSet_or (p := fun i => (R.take i).contains (R.getD i 0)) (by omega) hb]; rfl
    | false => rw [if_neg (by simp), mkSet_skip (p := fun i => (R.take i).contains (R.getD i 0)) hb]; rfl
  · simp only [E, N.impl_repeated.l0]
    rw [if_neg (by omega)]; rfl
/-- The part of a set that lies in another one, its elements numbered anew. -/
def packN (s keep : Nat) : Nat := mkSet (elems keep).length fun k => s.testBit ((elems keep).getD k 0)
theorem packN_lt (s keep : Nat) : packN s keep < 2 ^ (elems keep).length := mkSet_lt _ _
theorem elems_lt8 (s : Nat) : ∀ g ∈ elems s, g < 8 := fun g hg => List.mem_range.1 (List.mem_filter.1 hg).1
theorem elems_getD_lt8 (s k : Nat) : (elems s).getD k 0 < 8 := by
  by_cases h : k < (elems s).length
  · exact elems_lt8 s _ (getD_mem h)
  · rw [getD_ge (by omega)]; omega
theorem impl_renumbered_eq {s keep : Nat} (hs : s < 256) (hk : keep < 256) : N.impl_renumbered (s : Int) (keep : Int) = some ((((packN s keep : Nat) : Int), ()), ()) := by
  have hlen := elems_len keep
  unfold N.impl_renumbered
  simp only [impl_ElementsOf_eq hk, E, zs_length]
  refine iter_to (fun i => (((s : Int), ((mkSet i (fun k => s.testBit ((elems keep).getD k 0)) : Nat) : Int), zs (elems keep), (((elems keep).length : Nat) : Int), (i : Int), ()), ())) (elems keep).length (fun i hi => ?_) ?_
  · have he := elems_getD_lt8 keep i
    simp only [E, N.impl_renumbered.l0, zs_length, zs_getD]
    rw [if_pos (by omega), if_pos (by omega), if_pos (by omega), if_pos (by omega), mkSet_bit (p := fun k => s.testBit ((elems keep).getD k 0)) (by omega) (by omega) (by omega) rfl, addI_eq (by omega) (by omega)]; rfl
  · simp only [E, N.impl_renumbered.l0]
    rw [if_neg (by omega)]; rfl
theorem elems_place : ∀ (keep : Fin 256) (i : Fin 8), keep.1.testBit i.1 = true → (elems keep.1).getD ((List.range i.1).filter fun e => keep.1.testBit e).length 0 = i.1 := by decide +kernel
theorem spec_l7Pack_eq {s keep : Nat} (hs : s < 256) (hk : keep < 256) : N.spec_l7Pack (s : Int) (keep : Int) = some ((((packN s keep : Nat) : Int), ()), ()) := by
  have hlen := elems_len keep
  unfold N.spec_l7Pack
  let cnt : Nat → Nat := fun i => ((List.range i).filter fun e => keep.testBit e).length
  have hget : ∀ i, i < 8 → keep.testBit i = true → (elems keep).getD (cnt i) 0 = i := fun i hi hb => elems_place ⟨keep, hk⟩ ⟨i, hi⟩ hb
  refine iter_to (fun i => (((s : Int), (keep : Int), ((mkSet (cnt i) (fun k => s.testBit ((elems keep).getD k 0)) : Nat) : Int), ((cnt i : Nat) : Int), (i : Int), ()), ())) 8 (fun i hi => ?_) ?_
  · have hc : cnt i ≤ i := by simpa [cnt] using List.length_filter_le (fun e => keep.testBit e) (List.range i)
    have hc1 : cnt (i + 1) = cnt i + if keep.testBit i then 1 else 0 := by
      simp only [cnt, elems_range, List.length_append]; split <;> rfl
    simp only [E, N.spec_l7Pack.l0, spec_l2Has_eq (show i < 64 by omega) (show keep < 9223372036854775808 by omega)]
    rw [if_pos (by omega)]
    cases hb : keep.testBit i with
    | false =>
      rw [if_neg (by simp), hc1, hb, addI_eq (by omega) (by omega)]; rfl
    | true =>
      rw [if_pos rfl, spec_l2Has_eq (show i < 64 by omega) (show s < 9223372036854775808 by omega)]
      have hg := hget i hi hb
      rw [hc1, hb]
      simp only [E, if_true]
      rw [addI_eq (by omega) (by omega), addI_eq (by omega) (by omega), wrapK_u64 (by omega) (by omega)]
      cases hb2 : s.testBit i with
      | true => rw [if_pos rfl, if_pos (by omega), mkSet_or (p := fun k => s.testBit ((elems keep).getD k 0)) (by omega) (by rw [hg]; exact hb2)]; rfl
      | false => rw [if_neg (by simp), mkSet_skip (p := fun k => s.testBit ((elems keep).getD k 0)) (by rw [hg]; exact hb2)]; rfl
  · simp only [E, N.spec_l7Pack.l0]
    rw [if_neg (by omega)]; rfl
end Go.CL
