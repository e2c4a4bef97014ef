/-
  Plain laws, part f: the program's hull, and fitting points.
-/
import Derived.Test.YtholdngdcinbcaaCeZe
namespace Go.CL
set_option linter.all false
open Go Go.CE
set_option linter.unusedSimpArgs false
set_option linter.unusedVariables false

theorem clone_Sint (l : List Int) (h : l.length ≤ 274877906944) : N.slices_Clone_Sint_int l = some ((), l, ()) := by
  unfold N.slices_Clone_Sint_int
  simp only [E, List.nil_append, List.length_nil, Nat.zero_add]
  rw [if_pos h]
  split
  · rename_i e; subst e; simp
  · rfl
theorem zip_step (f : Int → Int → Int) (l r : List Int) (w i : Nat) (hl : l.length = w) (hr : r.length = w) (hi : i < w) :
    ((List.zipWith f l r).take i ++ l.drop i).set i (f (((List.zipWith f l r).take i ++ l.drop i).getD i 0) (r.getD i 0)) = (List.zipWith f l r).take (i + 1) ++ l.drop (i + 1) := by
  have hz : (List.zipWith f l r).length = w := by rw [List.length_zipWith]; omega
  have ht : ((List.zipWith f l r).take i).length = i := by rw [List.length_take]; omega
  have e1 : l.drop i = l[i] :: l.drop (i + 1) := List.drop_eq_getElem_cons (by omega)
  have e2 : ((List.zipWith f l r).take i ++ l.drop i).getD i 0 = l[i] := by
    have hl2 : ((List.zipWith f l r).take i ++ l.drop i).length = w := by rw [List.length_append, ht, List.length_drop]; omega
    rw [getD_lt' (by omega), List.getElem_append_right (by omega)]
    simp only [ht, Nat.sub_self, List.getElem_drop, Nat.add_zero]
  rw [e2, e1, List.set_append_right _ _ (by omega), ht, Nat.sub_self, List.set_cons_zero]
  rw [List.take_succ_eq_append_getElem (by omega), List.append_assoc]
  congr 1
  rw [List.getElem_zipWith, getD_lt' (by omega)]; rfl
theorem impl_hull_row (a : List (List Int)) (list : List Int) (n t : Int) (row : List Int) (w : Nat) (hw : w ≤ 3) (hrow : row.length = w) (o1 o2 lo hi : List Int) (hlo : lo.length = w) (hhi : hi.length = w) (ht0 : 0 ≤ t) (ht : t < 100) :
    iter (fun (y : ((List (List Int)) × (List Int) × Int × Int × (List Int) × Int × Int × Unit) × Unit × (List Int) × (List Int) × Unit × (List Int) × (List Int) × Unit) => N.impl_HullOf.l1 y.1.1 y.1.2.1 y.1.2.2.1 y.1.2.2.2.1 y.1.2.2.2.2.1 y.1.2.2.2.2.2.1 y.1.2.2.2.2.2.2.1 y.2.2.1 y.2.2.2.1 y.2.2.2.2.2.1 y.2.2.2.2.2.2.1)
      ((a, list, n, t, row, (row.length : Int), 0, ()), (), o1, o2, (), lo, hi, ()) = some (.inl ((a, list, n, t + 1, ()), (), o1, o2, (), List.zipWith min lo row, List.zipWith max hi row, ())) := by
  refine (iter_to (fun i => ((a, list, n, t, row, (row.length : Int), (i : Int), ()), (), o1, o2, (), (List.zipWith min lo row).take i ++ lo.drop i, (List.zipWith max hi row).take i ++ hi.drop i, ())) w (fun i hi' => ?_) ?_)
  · have hz : ((List.zipWith min lo row).take i ++ lo.drop i).length = w := by rw [List.length_append, List.length_take, List.length_drop, List.length_zipWith]; omega
    have hz2 : ((List.zipWith max hi row).take i ++ hi.drop i).length = w := by rw [List.length_append, List.length_take, List.length_drop, List.length_zipWith]; omega
    simp only [E, getN, N.impl_HullOf.l1, hz, hz2]
    repeat rw [if_pos (by omega)]
    rw [addI_eq (by omega) (by omega), zip_step min lo row w i hlo hrow hi', zip_step max hi row w i hhi hrow hi']
    rfl
  · have hz : (List.zipWith min lo row).length = w := by rw [List.length_zipWith]; omega
    have hz2 : (List.zipWith max hi row).length = w := by rw [List.length_zipWith]; omega
    simp only [E, N.impl_HullOf.l1]
    rw [if_neg (by omega), addI_eq (by omega) (by omega), List.take_of_length_le (by omega), List.take_of_length_le (by omega), List.drop_of_length_le (by omega), List.drop_of_length_le (by omega), List.append_nil, List.append_nil]
theorem zipWith_self {f : Int → Int → Int} (hf : ∀ x, f x x = x) : ∀ l : List Int, List.zipWith f l l = l
  | [] => rfl
  | x :: l => by rw [List.zipWith_cons_cons, hf, zipWith_self hf l]
theorem elems_ne {s : Nat} (hs : s < 256) (h0 : s ≠ 0) : elems s ≠ [] := by
  intro h
  obtain ⟨i, hi⟩ := Nat.exists_testBit_of_ne_zero h0
  have h8 : i < 8 := by
    apply Nat.lt_of_not_le; intro hge
    have := Nat.testBit_lt_two_pow (x := s) (i := i) (Nat.lt_of_lt_of_le hs (show 2 ^ 8 ≤ 2 ^ i from Nat.pow_le_pow_right (by omega) hge))
    rw [this] at hi; cases hi
  have : i ∈ elems s := List.mem_filter.2 ⟨List.mem_range.2 h8, hi⟩
  rw [h] at this; cases this
theorem elems_lt {s n : Nat} (hs : s < 2 ^ n) : ∀ g ∈ elems s, g < n := fun g hg => by
  have hb := (List.mem_filter.1 hg).2
  apply Nat.lt_of_not_le; intro hge
  have := Nat.testBit_lt_two_pow (x := s) (i := g) (Nat.lt_of_lt_of_le hs (Nat.pow_le_pow_right (by omega) hge))
  rw [this] at hb; cases hb
theorem elems_len (s : Nat) : (elems s).length ≤ 8 := by simpa [elems] using List.length_filter_le (fun e => s.testBit e) (List.range 8)
/-- What 'HullOf' says. -/
def hullOf (a : List (List Int)) (s : Int) : List Int × List Int × Bool :=
  if arePts a = true ∧ s ≠ 0 ∧ isSetB a.length s = true then (hullL min a (elems s.toNat), hullL max a (elems s.toNat), true) else ([], [], false)
theorem impl_HullOf_eq (a : List (List Int)) (s : Int) (ha : a.length < 1000000000000) (hr : ∀ r ∈ a, r.length < 1000000000000) :
    N.impl_HullOf a s = some (((hullOf a s).2.2, ()), (hullOf a s).1, (hullOf a s).2.1, ()) := by
  unfold N.impl_HullOf hullOf
  simp only [E, impl_ArePoints_eq a ha hr, impl_IsSet_eq]
  by_cases h1 : arePts a = true
  · rw [if_neg (by simp [h1])]
    by_cases h2 : s = 0
    · rw [if_pos h2, if_neg (by simp [h2])]
    · rw [if_neg h2]
      by_cases h3 : isSetB a.length s = true
      · rw [if_neg (by simp [h3]), if_pos ⟨h1, h2, h3⟩]
        obtain ⟨m, t, hm, rfl, h8, ht⟩ := isSetB_true h3
        obtain rfl : a.length = m := by omega
        obtain ⟨_, _, hw, hrow⟩ := arePts_row h1
        have ht8 : t < 256 := Nat.lt_of_lt_of_le ht (pow_le8 h8)
        have ht0 : t ≠ 0 := by omega
        have hne := elems_ne ht8 ht0
        obtain ⟨g0, gs, hgs⟩ : ∃ g gs, elems t = g :: gs := by
          cases h : elems t with
          | nil => exact (hne h).elim
          | cons g gs => exact ⟨g, gs, rfl⟩
        have hlt := elems_lt ht
        have hlen := elems_len t
        have hg0 : g0 < a.length := hlt g0 (by rw [hgs]; simp)
        have hfirst : (zs (elems t)).getD 0 0 = (g0 : Int) := by rw [hgs]; rfl
        have hpos : 0 < (elems t).length := by rw [hgs]; simp
        simp only [impl_ElementsOf_eq ht8, E, getN, hfirst, zs_length]
        rw [if_pos (by omega), if_pos (by omega), clone_Sint _ (by have := hrow g0 hg0; omega)]
        simp only [E]
        rw [if_pos (by omega), if_pos (by omega)]
        have hlenrow : ∀ g ∈ elems t, (a.getD g []).length = (a.getD 0 []).length := fun g hg => hrow g (hlt g hg)
        have htake : ∀ k, ∀ g ∈ (elems t).take k, (a.getD g []).length = (a.getD 0 []).length := fun k g hg => hlenrow g (List.mem_of_mem_take hg)
        have hnet : ∀ k, 0 < k → (elems t).take k ≠ [] := fun k hk => by rw [hgs]; cases k <;> simp at *
        have e0 : (a.getD g0 []) = hullL min a ((elems t).take (max 1 0)) ∧ (a.getD g0 []) = hullL max a ((elems t).take (max 1 0)) := by rw [hgs]; exact ⟨rfl, rfl⟩
        have := iter_to (f := fun (y : ((List (List Int)) × (List Int) × Int × Int × Unit) × Unit × (List Int) × (List Int) × Unit × (List Int) × (List Int) × Unit) => N.impl_HullOf.l0 y.1.1 y.1.2.1 y.1.2.2.1 y.1.2.2.2.1 y.2.2.1 y.2.2.2.1 y.2.2.2.2.2.1 y.2.2.2.2.2.2.1)
          (fun k => ((a, zs (elems t), ((elems t).length : Int), (k : Int), ()), (), [], [], (), hullL min a ((elems t).take (max 1 k)), hullL max a ((elems t).take (max 1 k)), ())) (elems t).length (r := ((true, ()), hullL min a (elems t), hullL max a (elems t), ())) (fun k hk => ?_) ?_
        · simp only [← e0.1, ← e0.2] at this; exact this
        · have hg : (elems t).getD k 0 < a.length := hlt _ (getD_mem hk)
          simp only [E, N.impl_HullOf.l0, zs_length, zs_getD]
          rw [if_pos (by omega), if_pos (by omega), if_pos (by omega)]
          have hl1 := hullL_length min a _ _ (hnet (max 1 k) (by omega)) (htake _)
          have hl2 := hullL_length max a _ _ (hnet (max 1 k) (by omega)) (htake _)
          rw [impl_hull_row a _ _ _ _ (a.getD 0 []).length hw (hrow _ hg) _ _ _ _ hl1 hl2 (by omega) (by omega)]
          by_cases hk0 : k = 0
          · subst hk0
            have hgk : (elems t).getD 0 0 = g0 := by rw [hgs]; rfl
            have e1 : (elems t).take (max 1 0) = [g0] := by rw [hgs]; rfl
            have e2 : (elems t).take (max 1 (0 + 1)) = [g0] := by rw [hgs]; rfl
            rw [e1, e2, hgk]
            simp only [hullL, List.foldl_nil]
            rw [zipWith_self (fun x => Int.min_self x), zipWith_self (fun x => Int.max_self x)]; rfl
          · rw [show max 1 k = k by omega, show max 1 (k + 1) = k + 1 by omega, ← take_snoc (elems t) k 0 hk, hullL_snoc _ _ _ _ (hnet k (by omega)), hullL_snoc _ _ _ _ (hnet k (by omega))]; rfl
        · simp only [E, N.impl_HullOf.l0]
          rw [if_neg (by omega), show max 1 (elems t).length = (elems t).length by omega, List.take_length]
      · rw [if_pos (by simpa using h3), if_neg (fun h => h3 h.2.2)]
  · rw [if_pos (by simpa using h1), if_neg (fun h => h1 h.1)]
theorem spec_HullOf_eq (a : List (List Int)) (s : Int) (ha : a.length < 1000000000000) (hr : ∀ r ∈ a, r.length < 1000000000000) :
    N.spec_HullOf a s = some (((hullOf a s).2.2, ()), (hullOf a s).1, (hullOf a s).2.1, ()) := by
  unfold N.spec_HullOf hullOf
  simp only [E, spec_ArePoints_eq a ha hr, spec_IsSet_eq]
  by_cases h1 : arePts a = true
  · rw [if_neg (by simp [h1])]
    by_cases h2 : s = 0
    · rw [if_pos h2, if_neg (by simp [h2])]
    · rw [if_neg h2]
      by_cases h3 : isSetB a.length s = true
      · rw [if_neg (by simp [h3]), if_pos ⟨h1, h2, h3⟩]
        obtain ⟨m, t, hm, rfl, h8, ht⟩ := isSetB_true h3
        obtain rfl : a.length = m := by omega
        rw [spec_l24Hull_eq h1 ht]; rfl
      · rw [if_pos (by simpa using h3), if_neg (fun h => h3 h.2.2)]
  · rw [if_pos (by simpa using h1), if_neg (fun h => h1 h.1)]
end Go.CL
