/-
  Plain laws, part d: points and their hulls.
-/
import Derived.Test.YtholdngdcinbcaaCeZc
namespace Go.CL
set_option linter.all false
open Go Go.CE
set_option linter.unusedSimpArgs false
set_option linter.unusedVariables false

/-! ### Looking for elements -/
/-- Where the first one is; -1: nowhere. -/
def idxZ {A : Type} (p : A → Bool) (l : List A) (d : A) : Int := match (List.range l.length).find? fun i => p (l.getD i d) with | some i => (i : Int) | none => -1
theorem idxZ_nonneg {A : Type} (p : A → Bool) (l : List A) (d : A) : decide (0 ≤ idxZ p l d) = l.any p := by
  rw [← range_any_get l d, Bool.eq_iff_iff, decide_eq_true_eq]
  unfold idxZ
  cases h : (List.range l.length).find? fun i => p (l.getD i d) with
  | none =>
    rw [List.find?_eq_none] at h
    simp only [List.any_eq_true]
    constructor
    · intro h2; omega
    · rintro ⟨i, hi, hp⟩; exact absurd hp (h i hi)
  | some i =>
    have h1 := List.find?_some h
    have h2 := List.mem_of_find?_eq_some h
    simp only [List.any_eq_true]
    exact ⟨fun _ => ⟨i, h2, h1⟩, fun _ => by omega⟩
theorem indexFunc_Sint_int (l : List Int) (g : Int → Option Bool) (p : Int → Bool) (h : ∀ x ∈ l, g x = some (p x)) (hl : l.length < 1000000000000) : N.slices_IndexFunc_Sint_int l g = some ((idxZ p l 0, ()), ()) := by
  unfold N.slices_IndexFunc_Sint_int
  have := iter_find (f := fun (y : (List Int × (Int → Option Bool) × Int × Int × Unit) × Unit) => N.slices_IndexFunc_Sint_int.l0 y.1.1 y.1.2.1 y.1.2.2.1 y.1.2.2.2.1) (fun i => ((l, g, (l.length : Int), (i : Int), ()), ())) l.length (fun i => p (l.getD i 0))
    (fun o => (((match o with | some i => (i : Int) | none => -1), ()), ())) (fun i hi hp => ?_) (fun i hi hp => ?_) ?_
  · exact this
  · simp only [E, N.slices_IndexFunc_Sint_int.l0]
    rw [if_pos (by omega), if_pos (by omega), h _ (getD_mem hi)]
    simp only [E, hp]
    rw [if_neg (by simp), addI_eq (by omega) (by omega)]; rfl
  · simp only [E, N.slices_IndexFunc_Sint_int.l0]
    rw [if_pos (by omega), if_pos (by omega), h _ (getD_mem hi)]
    simp only [E, hp]
    rw [if_pos trivial]
  · simp only [E, N.slices_IndexFunc_Sint_int.l0]
    rw [if_neg (by omega)]
theorem containsFunc_Sint_int (l : List Int) (g : Int → Option Bool) (p : Int → Bool) (h : ∀ x ∈ l, g x = some (p x)) (hl : l.length < 1000000000000) : N.slices_ContainsFunc_Sint_int l g = some ((l.any p, ()), ()) := by
  unfold N.slices_ContainsFunc_Sint_int
  rw [indexFunc_Sint_int l g p h hl, bnd_some, ← idxZ_nonneg p l 0]
theorem indexFunc_SSint_Sint (l : List (List Int)) (g : (List Int) → Option Bool) (p : (List Int) → Bool) (h : ∀ x ∈ l, g x = some (p x)) (hl : l.length < 1000000000000) : N.slices_IndexFunc_SSint_Sint l g = some ((idxZ p l [], ()), ()) := by
  unfold N.slices_IndexFunc_SSint_Sint
  have := iter_find (f := fun (y : (List (List Int) × ((List Int) → Option Bool) × Int × Int × Unit) × Unit) => N.slices_IndexFunc_SSint_Sint.l0 y.1.1 y.1.2.1 y.1.2.2.1 y.1.2.2.2.1) (fun i => ((l, g, (l.length : Int), (i : Int), ()), ())) l.length (fun i => p (l.getD i []))
    (fun o => (((match o with | some i => (i : Int) | none => -1), ()), ())) (fun i hi hp => ?_) (fun i hi hp => ?_) ?_
  · exact this
  · simp only [E, N.slices_IndexFunc_SSint_Sint.l0]
    rw [if_pos (by omega), if_pos (by omega), h _ (getD_mem hi)]
    simp only [E, hp]
    rw [if_neg (by simp), addI_eq (by omega) (by omega)]; rfl
  · simp only [E, N.slices_IndexFunc_SSint_Sint.l0]
    rw [if_pos (by omega), if_pos (by omega), h _ (getD_mem hi)]
    simp only [E, hp]
    rw [if_pos trivial]
  · simp only [E, N.slices_IndexFunc_SSint_Sint.l0]
    rw [if_neg (by omega)]
theorem containsFunc_SSint_Sint (l : List (List Int)) (g : (List Int) → Option Bool) (p : (List Int) → Bool) (h : ∀ x ∈ l, g x = some (p x)) (hl : l.length < 1000000000000) : N.slices_ContainsFunc_SSint_Sint l g = some ((l.any p, ()), ()) := by
  unfold N.slices_ContainsFunc_SSint_Sint
  rw [indexFunc_SSint_Sint l g p h hl, bnd_some, ← idxZ_nonneg p l []]
def cell9 (n : Int) : Bool := decide (0 ≤ n ∧ n ≤ 9)
def okRow (k : Nat) (r : List Int) : Bool := decide (r.length = k) && r.all cell9
/-- Are these points? -/
def arePts (a : List (List Int)) : Bool := decide (1 ≤ a.length ∧ a.length ≤ 8) && decide ((a.getD 0 []).length ≤ 3) && a.all (okRow (a.getD 0 []).length)
theorem spec_ArePoints_row (a : List (List Int)) (k : Nat) (hk : k < a.length) (ha : a.length < 1000000000000) (hr : (a.getD k []).length < 1000000000000) :
    iter (fun (y : ((List (List Int)) × Int × Int × Unit) × Unit) => N.spec_ArePoints.l1 y.1.1 y.1.2.1 y.1.2.2.1) ((a, (k : Int), 0, ()), ()) =
      some (if (a.getD k []).all cell9 = true then .inl ((a, (k : Int) + 1, ()), ()) else .inr ((false, ()), ())) := by
  have := iter_all (f := fun (y : ((List (List Int)) × Int × Int × Unit) × Unit) => N.spec_ArePoints.l1 y.1.1 y.1.2.1 y.1.2.2.1) (fun i => ((a, (k : Int), (i : Int), ()), ())) (a.getD k []).length (fun i => cell9 ((a.getD k []).getD i 0))
    (fun b => if b = true then .inl ((a, (k : Int) + 1, ()), ()) else .inr ((false, ()), ())) (fun i hi hp => ?_) (fun i hi hp => ?_) ?_
  · rw [range_all_get] at this; exact this
  · simp only [cell9, decide_eq_true_eq] at hp
    simp only [E, N.spec_ArePoints.l1, spec_l1In_eq, decide_eq_false_iff_not]
    rw [if_pos (by omega), if_pos (by omega), if_pos (by omega), if_pos (by omega), if_neg (by omega), addI_eq (by omega) (by omega)]; rfl
  · simp only [cell9, decide_eq_false_iff_not] at hp
    simp only [E, N.spec_ArePoints.l1, spec_l1In_eq, decide_eq_false_iff_not]
    rw [if_pos (by omega), if_pos (by omega), if_pos (by omega), if_pos (by omega), if_pos (by omega)]; rfl
  · simp only [E, N.spec_ArePoints.l1, spec_l1In_eq, decide_eq_false_iff_not]
    rw [if_pos (by omega), if_neg (by omega), addI_eq (by omega) (by omega)]; rfl
theorem spec_ArePoints_eq (a : List (List Int)) (ha : a.length < 1000000000000) (hr : ∀ r ∈ a, r.length < 1000000000000) : N.spec_ArePoints a = some ((arePts a, ()), ()) := by
  have hr' : ∀ k, (a.getD k []).length < 1000000000000 := fun k => by
    by_cases h : k < a.length
    · exact hr _ (getD_mem h)
    · rw [getD_ge (by omega)]; simp
  unfold N.spec_ArePoints
  refine (iter_all (fun k => ((a, (k : Int), ()), ())) a.length (fun k => okRow (a.getD 0 []).length (a.getD k [])) (fun b => ((b && decide (1 ≤ a.length ∧ a.length ≤ 8) && decide ((a.getD 0 []).length ≤ 3), ()), ())) (fun k hk hp => ?_) (fun k hk hp => ?_) ?_).trans ?_
  · simp only [okRow, Bool.and_eq_true, decide_eq_true_eq] at hp
    simp only [E, N.spec_ArePoints.l0]
    rw [if_pos (by omega), if_pos (by omega), if_pos (by omega), if_neg (by have := hp.1; omega), spec_ArePoints_row a k hk ha (hr' k), if_pos hp.2]; rfl
  · simp only [okRow, Bool.and_eq_false_iff, decide_eq_false_iff_not] at hp
    simp only [E, N.spec_ArePoints.l0]
    rw [if_pos (by omega), if_pos (by omega), if_pos (by omega)]
    by_cases h : (a.getD k []).length = (a.getD 0 []).length
    · have h2 : (a.getD k []).all cell9 ≠ true := by rcases hp with hp | hp <;> simp_all
      rw [if_neg (by omega), spec_ArePoints_row a k hk ha (hr' k), if_neg h2]; simp
    · rw [if_pos (by omega)]; simp
  · simp only [E, N.spec_ArePoints.l0, spec_l1In_eq, decide_eq_true_eq]
    rw [if_neg (by omega)]
    by_cases h : 1 ≤ a.length ∧ a.length ≤ 8
    · rw [if_pos (by omega), if_pos (by omega)]
      simp [h, leI]; omega
    · rw [if_neg (by omega)]; simp [h]
  · rw [range_all_get (p := okRow (a.getD 0 []).length)]
    congr 3
    unfold arePts
    cases h1 : a.all (okRow (a.getD 0 []).length) <;> simp [Bool.and_comm]

theorem any_not_all {A : Type} (l : List A) (p : A → Bool) : (!(l.any fun x => !p x)) = l.all p := by
  rw [Bool.eq_iff_iff]; simp
theorem impl_ArePoints_eq (a : List (List Int)) (ha : a.length < 1000000000000) (hr : ∀ r ∈ a, r.length < 1000000000000) : N.impl_ArePoints a = some ((arePts a, ()), ()) := by
  unfold N.impl_ArePoints
  simp only [E, impl_within_eq, decide_eq_false_iff_not]
  by_cases h : 1 ≤ a.length ∧ a.length ≤ 8
  · have h1 : ∀ r ∈ a, (bnd (N.impl_ArePoints_c1 r a) fun r2 => some r2.1.1) = some (!(decide (r.length = (a.getD 0 []).length) && decide (r.length ≤ 3) && r.all cell9)) := fun r hm => by
      unfold N.impl_ArePoints_c1
      have h2 : ∀ n ∈ r, (bnd (N.impl_ArePoints_c1_c1 n) fun r1 => some r1.1.1) = some (!cell9 n) := fun n _ => by
        unfold N.impl_ArePoints_c1_c1; simp [impl_within_eq, cell9, notB]
      simp only [E]
      rw [if_pos (by omega)]
      by_cases h3 : r.length = (a.getD 0 []).length
      · rw [if_neg (by omega)]
        by_cases h4 : r.length ≤ 3
        · rw [if_neg (by omega), containsFunc_Sint_int r _ (fun n => !cell9 n) h2 (hr r hm)]
          rw [decide_eq_true h3, decide_eq_true h4, ← any_not_all]; simp
        · rw [if_pos (by omega), decide_eq_false h4]; simp
      · rw [if_pos (by omega), decide_eq_false h3]; rfl
    rw [if_neg (by omega), containsFunc_SSint_Sint a _ _ h1 ha]
    simp only [E, notB, any_not_all]
    congr 3
    unfold arePts
    rw [Bool.eq_iff_iff]
    simp only [Bool.and_eq_true, List.all_eq_true, decide_eq_true_eq, okRow]
    constructor
    · intro h5
      refine ⟨⟨h, ?_⟩, fun r hm => ⟨(h5 r hm).1.1, (h5 r hm).2⟩⟩
      exact (h5 _ (getD_mem (i := 0) (d := []) (by omega))).1.2
    · rintro ⟨⟨_, h5⟩, h6⟩ r hm
      exact ⟨⟨(h6 r hm).1, by rw [(h6 r hm).1]; exact h5⟩, (h6 r hm).2⟩
  · rw [if_pos (by omega)]
    unfold arePts; simp [h]
end Go.CL
