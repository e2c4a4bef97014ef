/-
  Plain laws, part k: clarifying.
-/
import Derived.Test.YtholdngdcinbcaaCeZj
namespace Go.CL
set_option linter.all false
open Go Go.CE
set_option linter.unusedSimpArgs false
set_option linter.unusedVariables false

theorem spec_l2In_eq (l : List Int) (x : Int) (hl : l.length < 1000000000000) : N.spec_l2In l x = some ((l.contains x, ()), ()) := by
  unfold N.spec_l2In
  refine (iter_any (fun k => ((l, x, (k : Int), ()), ())) l.length (fun k => decide (l.getD k 0 = x)) (fun b => ((b, ()), ())) (fun k hk hp => ?_) (fun k hk hp => ?_) ?_).trans ?_
  · simp only [decide_eq_false_iff_not] at hp
    simp only [E, N.spec_l2In.l0]
    rw [if_pos (by omega), if_pos (by omega), if_neg hp, addI_eq (by omega) (by omega)]; rfl
  · simp only [decide_eq_true_eq] at hp
    simp only [E, N.spec_l2In.l0]
    rw [if_pos (by omega), if_pos (by omega), if_pos hp]
  · simp only [E, N.spec_l2In.l0]
    rw [if_neg (by omega)]
  · rw [range_any_get l 0 (fun y => decide (y = x))]
    congr 3
    rw [Bool.eq_iff_iff]; simp
/-- The rows, each once. -/
def dedK (R : List Nat) (k : Nat) : List Nat := ((List.range k).filter fun i => !(R.take i).contains (R.getD i 0)).map fun i => R.getD i 0
theorem dedK_step (R : List Nat) (k : Nat) : dedK R (k + 1) = dedK R k ++ if (R.take k).contains (R.getD k 0) then [] else [R.getD k 0] := by
  unfold dedK
  rw [List.range_succ, List.filter_append, List.map_append]; 
  rw [List.filter_cons, List.filter_nil]; cases h : (R.take k).contains (R.getD k 0) <;> simp only [Bool.not_true, Bool.not_false, Bool.false_eq_true, if_true, if_false, List.map_cons, List.map_nil]
theorem dedK_mem (R : List Nat) (x : Nat) : ∀ k, k ≤ R.length → (x ∈ dedK R k ↔ x ∈ R.take k)
  | 0, _ => by simp [dedK]
  | k + 1, h => by
    rw [dedK_step, List.mem_append, dedK_mem R x k (by omega), ← take_snoc R k 0 (by omega), List.mem_append]
    split
    · rename_i hc
      have hc : R.getD k 0 ∈ R.take k := by simpa using hc
      constructor
      · rintro (h | h)
        · exact .inl h
        · cases h
      · rintro (h | h)
        · exact .inl h
        · simp only [List.mem_singleton] at h; subst h; exact .inl hc
    · exact Iff.rfl
theorem dedK_all (R : List Nat) : dedK R R.length = keepRows R (repd R) := by
  unfold dedK keepRows
  congr 1
  apply List.filter_congr
  intro i hi
  unfold repd
  rw [mkSet_testBit]
  simp [List.mem_range.1 hi]
theorem dedK_len (R : List Nat) (k : Nat) : (dedK R k).length ≤ k := by
  unfold dedK; rw [List.length_map]; simpa using List.length_filter_le (fun i => !(R.take i).contains (R.getD i 0)) (List.range k)
def clarifyN (n : Nat) (R : List Nat) : Nat × List Nat := withoutN n (keepRows R (repd R)) 0 (repd (cols n (keepRows R (repd R))))
theorem keep_ctx {n : Nat} {R : List Nat} (h : Ctx n R) (o : Nat) : Ctx n (keepRows R o) := ⟨h.n6, Nat.le_trans (keepRows_len R o) h.len, fun r hr => h.row r (keepRows_mem hr)⟩
theorem clarifyN_ctx {n : Nat} {R : List Nat} (h : Ctx n R) : Ctx (clarifyN n R).1 (clarifyN n R).2 := withoutN_ctx (keep_ctx h _) _ _
def clarify (c : C) : C × Bool := if ctxB c then ((((clarifyN c.1.toNat (c.2.map Int.toNat)).1 : Nat), zs (clarifyN c.1.toNat (c.2.map Int.toNat)).2), true) else ((0, []), false)
theorem withoutN_rows {n : Nat} {R : List Nat} (h : Ctx n R) (o : Nat) : withoutN n R o 0 = (n, keepRows R o) := by
  have hn := h.n6
  unfold withoutN
  rw [sdiff_zero, elems_full (by omega), List.length_range]
  congr 1
  conv => rhs; rw [← List.map_id (keepRows R o)]
  apply List.map_congr_left
  intro r hr
  exact packN_full (by omega) (h.row r (keepRows_mem hr))
theorem repd_lt (R : List Nat) : repd R < 2 ^ R.length := mkSet_lt _ _
theorem impl_Clarify_eq (c : C) (hl : c.2.length < 100000000000) : N.impl_Clarify c = some (((clarify c).1.1, (clarify c).2, ()), (clarify c).1.2, ()) := by
  unfold N.impl_Clarify clarify
  simp only [E, impl_IsContext_eq _ (show c.2.length < 1000000000000 by omega)]
  by_cases h : ctxB c = true
  · rw [if_neg (by simp [h]), if_pos h]
    obtain ⟨n, R, rfl, hx⟩ := ctxB_true h
    have hn := hx.n6
    have h1 : repd R < 256 := Nat.lt_of_lt_of_le (repd_lt R) (pow_le8 hx.len)
    have hk := keep_ctx hx (repd R)
    have e1 := impl_without_eq hx h1 (show 0 < 256 by omega)
    rw [show ((0 : Nat) : Int) = 0 from rfl, withoutN_rows hx] at e1
    have h2 : repd (cols n (keepRows R (repd R))) < 256 := Nat.lt_of_lt_of_le (repd_lt _) (by rw [cols_length]; exact pow_le8 (by omega))
    have e2 := impl_without_eq hk (show 0 < 256 by omega) h2
    rw [show ((0 : Nat) : Int) = 0 from rfl] at e2
    simp only [impl_repeated_eq hx.len, e1, E, impl_columns_eq hk, impl_repeated_eq (R := cols n (keepRows R (repd R))) (by rw [cols_length]; omega), e2, zs_toNat, Int.toNat_natCast, clarifyN]
  · rw [if_pos (by simpa using h), if_neg h]
theorem or_self_pow {a m : Nat} (h : a.testBit m = true) : a ||| 2 ^ m = a := by
  apply Nat.eq_of_testBit_eq; intro i
  rw [Nat.testBit_or, testBit_pow]
  by_cases e : m = i
  · subst e; simp [h]
  · simp [e]
theorem spec_clarify_inner {n : Nat} {X : List Nat} (h : Ctx n X) {m : Nat} (hm : m < n) (a0 : Int) (o1 : List Int) :
    iter (fun (y : (Int × Int × Int × Unit) × (Int × Unit) × (List Int) × (Int × Unit) × (List Int) × Unit) => N.spec_Clarify.l2 y.1.1 y.1.2.1 y.1.2.2.1 y.2.1.1 y.2.2.1 y.2.2.2.1.1 y.2.2.2.2.1)
      ((((mkSet m (fun i => ((cols n X).take i).contains ((cols n X).getD i 0)) : Nat) : Int), (m : Int), 0, ()), (a0, ()), o1, ((n : Int), ()), zs X, ()) =
    some (.inl ((((mkSet (m + 1) (fun i => ((cols n X).take i).contains ((cols n X).getD i 0)) : Nat) : Int), (m : Int) + 1, ()), (a0, ()), o1, ((n : Int), ()), zs X, ())) := by
  have hn := h.n6; have hl := h.len
  have hlt := mkSet_lt m (fun i => ((cols n X).take i).contains ((cols n X).getD i 0))
  have hp : 2 ^ m < 64 := Nat.lt_of_lt_of_le (Nat.pow_lt_pow_right (by omega) (show m < 6 by omega)) (by omega)
  have hc : ∀ j, j < m → ((cols n X).take (j + 1)).contains (col X m) = (((cols n X).take j).contains (col X m) || decide (col X j = col X m)) := fun j hj => by
    rw [← take_snoc (cols n X) j 0 (by rw [cols_length]; omega), cols_getD (by omega), Bool.eq_iff_iff]
    simp only [List.contains_iff_mem, List.mem_append, List.mem_singleton, Bool.or_eq_true, decide_eq_true_eq]
    exact or_congr Iff.rfl eq_comm
  refine iter_to' (fun j => (((((mkSet m (fun i => ((cols n X).take i).contains ((cols n X).getD i 0))) ||| (if ((cols n X).take j).contains (col X m) then 2 ^ m else 0) : Nat) : Int), (m : Int), (j : Int), ()), (a0, ()), o1, ((n : Int), ()), zs X, ())) m (by simp) (fun j hj => ?_) ?_
  · simp only [E, N.spec_Clarify.l2, spec_l3Column_eq hl h.get256 (n : Int) (show j < 64 by omega), spec_l3Column_eq hl h.get256 (n : Int) (show m < 64 by omega)]
    rw [if_pos (by omega), hc j hj, addI_eq (by omega) (by omega)]
    by_cases he : col X j = col X m
    · rw [if_pos (by omega), wrapK_u64 (by omega) (by omega), if_pos (by omega), one_shl (by omega)]
      have hlt2 : mkSet m (fun i => ((cols n X).take i).contains ((cols n X).getD i 0)) ||| (if ((cols n X).take j).contains (col X m) then 2 ^ m else 0) < 9223372036854775808 :=
        Nat.lt_of_lt_of_le (Nat.or_lt_two_pow (n := 6) (by omega) (by split <;> omega)) (by omega)
      rw [bor_nat hlt2 (by omega)]
      simp only [he, decide_true, Bool.or_true, if_true]
      rw [Nat.or_assoc]
      split
      · rw [Nat.or_self]; rfl
      · rw [Nat.zero_or]; rfl
    · rw [if_neg (by omega), decide_eq_false he, Bool.or_false]; rfl
  · simp only [E, N.spec_Clarify.l2]
    rw [if_neg (by omega), addI_eq (by omega) (by omega)]
    rw [mkSet, cols_getD hm]
end Go.CL
namespace Go.CL
open Go Go.CE
theorem iter_for' {A B : Type} {f : A → Option (A ⊕ B)} {x : A} (st : Nat → A) (m : Nat) (h0 : st 0 = x) (h : ∀ i, i < m → f (st i) = some (.inl (st (i + 1)))) : iter f x = iter f (st m) := h0 ▸ iter_for st m h
theorem toInr_of {Y R : Type} {o : Option R} {r : R} (h : o = some r) : toInr (Y := Y) o = some (.inr r) := by rw [h]; rfl
theorem spec_Clarify_eq (c : C) (hl : c.2.length < 100000000000) : N.spec_Clarify c = some (((clarify c).1.1, (clarify c).2, ()), (clarify c).1.2, ()) := by
  unfold N.spec_Clarify clarify
  simp only [E, spec_IsContext_eq _ (show c.2.length < 1000000000000 by omega)]
  by_cases h : ctxB c = true
  · rw [if_neg (by simp [h]), if_pos h]
    obtain ⟨n, R, rfl, hx⟩ := ctxB_true h
    have hn := hx.n6; have hlR := hx.len
    have hk := keep_ctx hx (repd R)
    refine (iter_for' (fun k => ((((n : Int), zs R), (k : Int), ()), (0, ()), [], ((n : Int), ()), zs (dedK R k), ())) R.length rfl (fun k hk' => ?_)).trans ?_
    · have hd := dedK_len R k
      simp only [E, N.spec_Clarify.l0, zs_length, zs_getD, spec_l2In_eq (zs (dedK R k)) _ (show (zs (dedK R k)).length < 1000000000000 by rw [zs_length]; omega), zs_contains]
      rw [if_pos (by omega), if_pos (by omega), dedK_step, addI_eq (by omega) (by omega)]
      have hc : (dedK R k).contains (R.getD k 0) = (R.take k).contains (R.getD k 0) := by
        rw [Bool.eq_iff_iff]; simp only [List.contains_iff_mem]; exact dedK_mem R _ k (by omega)
      rw [hc]
      cases hb : (R.take k).contains (R.getD k 0) with
      | true => rw [if_neg (by simp)]; simp only [if_true, List.append_nil]; rfl
      | false =>
        rw [if_pos rfl, if_pos (by omega), if_pos (by simp only [List.length_cons, List.length_nil]; omega), if_neg (by simp), zs_append]; rfl
    · refine iter_done ?_
      simp only [E, N.spec_Clarify.l0, zs_length]
      rw [if_neg (by omega)]
      refine toInr_of ?_
      rw [dedK_all]
      generalize hX : keepRows R (repd R) = X at *
      refine (iter_for' (fun m => ((((mkSet m (fun i => ((cols n X).take i).contains ((cols n X).getD i 0)) : Nat) : Int), (m : Int), ()), ((0 : Int), ()), ([] : List Int), ((n : Int), ()), zs X, ())) n rfl (fun m hm => ?_)).trans ?_
      · simp only [E, N.spec_Clarify.l1]
        rw [if_pos (by omega), spec_clarify_inner hk hm]; rfl
      · refine iter_done ?_
        have h2 : repd (cols n X) < 2 ^ n := by have := repd_lt (cols n X); rwa [cols_length] at this
        have e : (mkSet n fun i => ((cols n X).take i).contains ((cols n X).getD i 0)) = repd (cols n X) := by unfold repd; rw [cols_length]
        simp only [E, N.spec_Clarify.l1, e]
        rw [if_neg (by omega), spec_DropAttributes_eq _ _ (by have := hk.len; simp only [zs_length]; omega)]
        have hs : isSetB (n : Int) ((repd (cols n X) : Nat) : Int) = true := by rw [isSetB_nat]; simpa using ⟨by omega, h2⟩
        simp only [E, dropAttributes, ctxB_nat hk, hs, Bool.and_self, if_true, zs_toNat, Int.toNat_natCast, clarifyN, hX]
  · rw [if_pos (by simpa using h), if_neg h]
end Go.CL
