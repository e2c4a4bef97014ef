/-
  Plain laws: FnPure.
-/
import Derived.Test.YtholdngdcinbcaaCeZo
namespace Go.CL
set_option linter.all false
open Go Go.CE
set_option linter.unusedSimpArgs false
set_option linter.unusedVariables false

theorem spec_l2Same_eq (a b : List Int) (h : a.length < 1000000000000) : N.spec_l2Same a b = some ((decide (a = b), ()), ()) := by
  unfold N.spec_l2Same
  simp only [E]
  by_cases hl : a.length = b.length
  · rw [if_neg (by omega)]
    refine (iter_all (fun k => ((a, b, (k : Int), ()), ())) a.length (fun k => decide (a.getD k 0 = b.getD k 0)) (fun b => ((b, ()), ())) (fun k hk hp => ?_) (fun k hk hp => ?_) ?_).trans ?_
    · simp only [decide_eq_true_eq] at hp
      simp only [E, N.spec_l2Same.l0]
      rw [if_pos (by omega), if_pos (by omega), if_pos (by omega), if_neg (by omega), addI_eq (by omega) (by omega)]; rfl
    · simp only [decide_eq_false_iff_not] at hp
      simp only [E, N.spec_l2Same.l0]
      rw [if_pos (by omega), if_pos (by omega), if_pos (by omega), if_pos (by omega)]
    · simp only [E, N.spec_l2Same.l0]
      rw [if_neg (by omega)]
    · congr 3
      rw [Bool.eq_iff_iff]
      simp only [List.all_eq_true, List.mem_range, decide_eq_true_eq]
      constructor
      · intro h2
        apply List.ext_getElem hl
        intro i h3 h4
        have := h2 i h3
        rwa [getD_lt' h3, getD_lt' h4] at this
      · rintro rfl; intro _ _; rfl
  · rw [if_pos (by omega)]
    congr 3
    have : a ≠ b := fun e => hl (by rw [e])
    simp [this]
theorem spec_EqualContext_eq (a b : C) (h : a.2.length < 1000000000000) : N.spec_EqualContext a b = some ((decide (a = b), ()), ()) := by
  unfold N.spec_EqualContext
  simp only [E, spec_l2Same_eq _ _ h]
  obtain ⟨a1, a2⟩ := a; obtain ⟨b1, b2⟩ := b
  by_cases h1 : a1 = b1
  · rw [if_pos h1]; subst h1; congr 3; simp
  · rw [if_neg h1]; congr 3; simp [h1]
theorem insertRow_len (c : C) (row : Int) (h : c.2.length ≤ 20) : (insertRow c row).1.2.length ≤ 21 := by
  unfold insertRow; split
  · simp; omega
  · simp
theorem clarify_len (c : C) : (clarify c).1.2.length ≤ 8 := by
  unfold clarify; split
  · rename_i h
    obtain ⟨n, R, rfl, hx⟩ := ctxB_true h
    simp only [zs_length, zs_toNat, Int.toNat_natCast]; exact (clarifyN_ctx hx).len
  · simp
theorem dropObjects_len (c : C) (o : Int) : (dropObjects c o).1.2.length ≤ 8 := by
  unfold dropObjects; split
  · rename_i h
    simp only [Bool.and_eq_true] at h
    obtain ⟨n, R, rfl, hx⟩ := ctxB_true h.1
    simp only [zs_length, zs_toNat, Int.toNat_natCast]; exact (withoutN_ctx hx _ _).len
  · simp
def allSet (L : List Int) (k : Nat) : List Int := (List.range k).foldl (fun l i => l.set i 99) L
theorem allSet_succ (L : List Int) (k : Nat) : allSet L (k + 1) = (allSet L k).set k 99 := by unfold allSet; rw [List.range_succ, List.foldl_append]; rfl
theorem allSet_len (L : List Int) : ∀ k, (allSet L k).length = L.length
  | 0 => rfl
  | k + 1 => by rw [allSet_succ, List.length_set, allSet_len L k]
theorem laws_FnPure_true (l : List Int) : N.laws_FnPure l = some ((true, ()), ()) := by
  unfold N.laws_FnPure N.laws_big
  simp only [E, gtI, decide_eq_true_eq]
  by_cases hb : l.length ≤ 1048576
  · rw [if_neg (by omega)]
    obtain ⟨n, s, R, e, hbent, hs1, hs2⟩ := l4Attributes_ok l hb
    have hR : R.length ≤ 20 := hbent.1
    unfold N.spec_DrawInsertRow
    rw [e]
    simp only [E]
    rw [spec_ContextText_eq _ (by dsimp only; omega), bnd_some, impl_InsertRow_eq _ _ (by dsimp only; omega), bnd_some, impl_Clarify_eq _ (by dsimp only; omega), bnd_some, impl_DropObjects_eq _ _ (by dsimp only; omega), bnd_some]
    have l1 := insertRow_len (n, R) s hR
    have l2 := clarify_len (n, R)
    have l3 := dropObjects_len (n, R) 0
    have fin : ∀ (X Y Z : C), X.2.length ≤ 21 → Y.2.length ≤ 8 → Z.2.length ≤ 8 →
        iter (fun (y : (Int × ByteArray × Int × Bool × Bool × Bool × Int × Unit) × (Int × Unit) × (List Int) × (Int × Unit) × (List Int) × (Int × Unit) × (List Int) × (Int × Unit) × (List Int) × Unit) => N.laws_FnPure.l0 y.1.1 y.1.2.1 y.1.2.2.1 y.1.2.2.2.1 y.1.2.2.2.2.1 y.1.2.2.2.2.2.1 y.1.2.2.2.2.2.2.1 y.2.1.1 y.2.2.1 y.2.2.2.1.1 y.2.2.2.2.1 y.2.2.2.2.2.1.1 y.2.2.2.2.2.2.1 y.2.2.2.2.2.2.2.1.1 y.2.2.2.2.2.2.2.2.1)
          ((s, tx (contextTx (n, R)), n, (insertRow (n, R) s).2, (clarify (n, R)).2, (dropObjects (n, R) 0).2, 0, ()), (n, ()), R, (X.1, ()), X.2, (Y.1, ()), Y.2, (Z.1, ()), Z.2, ()) = some ((true, ()), ()) := by
      intro X Y Z hX hY hZ
      have c1 : (R.length : Int) ≤ 20 := by omega
      refine (iter_for' (fun k => ((s, tx (contextTx (n, R)), n, (insertRow (n, R) s).2, (clarify (n, R)).2, (dropObjects (n, R) 0).2, (k : Int), ()), (n, ()), R, (X.1, ()), allSet X.2 k, (Y.1, ()), Y.2, (Z.1, ()), Z.2, ())) X.2.length rfl (fun k hk => ?_)).trans (iter_done ?_)
      · simp only [E, N.laws_FnPure.l0, allSet_len, allSet_succ]
        rw [if_pos (by omega), if_pos (by omega), addI_eq (by omega) (by omega)]; rfl
      · simp only [E, N.laws_FnPure.l0, allSet_len]
        rw [if_neg (by omega)]
        refine toInr_of ?_
        refine (iter_for' (fun k => ((s, tx (contextTx (n, R)), n, (insertRow (n, R) s).2, (clarify (n, R)).2, (dropObjects (n, R) 0).2, (k : Int), ()), (n, ()), R, (Y.1, ()), allSet Y.2 k, (Z.1, ()), Z.2, ())) Y.2.length rfl (fun k hk => ?_)).trans (iter_done ?_)
        · simp only [E, N.laws_FnPure.l1, allSet_len, allSet_succ]
          rw [if_pos (by omega), if_pos (by omega), addI_eq (by omega) (by omega)]; rfl
        · simp only [E, N.laws_FnPure.l1, allSet_len]
          rw [if_neg (by omega)]
          refine toInr_of ?_
          refine (iter_for' (fun k => ((s, tx (contextTx (n, R)), n, (insertRow (n, R) s).2, (clarify (n, R)).2, (dropObjects (n, R) 0).2, (k : Int), ()), (n, ()), R, (Z.1, ()), allSet Z.2 k, ())) Z.2.length rfl (fun k hk => ?_)).trans (iter_done ?_)
          · simp only [E, N.laws_FnPure.l2, allSet_len, allSet_succ]
            rw [if_pos (by omega), if_pos (by omega), addI_eq (by omega) (by omega)]; rfl
          · simp only [E, N.laws_FnPure.l2, allSet_len]
            rw [if_neg (by omega)]
            refine toInr_of ?_
            rw [impl_InsertRow_eq _ _ (by dsimp only; omega), bnd_some, spec_InsertRow_eq _ _ (by dsimp only; omega), bnd_some, spec_Clarify_eq _ (by dsimp only; omega), bnd_some, spec_ContextText_eq _ (by dsimp only; omega), bnd_some]
            have hd : (dropObjects (n, R) 0).2 = (clarify (n, R)).2 := by
              unfold dropObjects clarify
              cases hcx : ctxB (n, R) with
              | false => simp
              | true =>
                have : isSetB (R.length : Int) 0 = true := by
                  have h8 : R.length ≤ 8 := by simp only [ctxB, Bool.and_eq_true, decide_eq_true_eq] at hcx; exact hcx.1.2
                  have := isSetB_nat (n := R.length) (s := 0)
                  rw [show ((0 : Nat) : Int) = 0 from rfl] at this
                  rw [this]; simp [h8, Nat.two_pow_pos]
                simp [this]
            simp only [if_true, hd, eq_self_iff_true]
            rw [spec_EqualContext_eq _ _ (by have := insertRow_len (n, R) s hR; dsimp only; omega)]
            simp
    exact fin _ _ _ l1 l2 l3
  · rw [if_pos (by omega)]
end Go.CL
