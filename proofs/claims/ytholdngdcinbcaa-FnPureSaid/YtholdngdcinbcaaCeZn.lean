/-
  Plain laws, part n: texts of contexts.
-/
import Derived.Test.YtholdngdcinbcaaCeZm
namespace Go.CL
set_option linter.all false
open Go Go.CE
set_option linter.unusedSimpArgs false
set_option linter.unusedVariables false

theorem spec_l2Sets_eq (l : List Int) (hl : l.length < 1000000000000) : N.spec_l2Sets l = some ((l.all (isSetB 8), ()), ()) := by
  unfold N.spec_l2Sets
  refine (iter_all (fun k => ((l, (k : Int), ()), ())) l.length (fun k => isSetB 8 (l.getD k 0)) (fun b => ((b, ()), ())) (fun k hk hp => ?_) (fun k hk hp => ?_) ?_).trans ?_
  · simp only [E, N.spec_l2Sets.l0, spec_IsSet_eq]
    rw [if_pos (by omega), if_pos (by omega), hp, if_neg (by simp), addI_eq (by omega) (by omega)]; rfl
  · simp only [E, N.spec_l2Sets.l0, spec_IsSet_eq]
    rw [if_pos (by omega), if_pos (by omega), if_pos hp]
  · simp only [E, N.spec_l2Sets.l0]
    rw [if_neg (by omega)]
  · rw [range_all_get l 0 (isSetB 8)]
/-- The text of sets. -/
def setsTx (l : List Int) : List UInt8 := if l.all (isSetB 8) then (if l = [] then [110, 111, 110, 101] else joinTx [44] (l.map setTxB)) else []
theorem setTxB_len (s : Int) : (setTxB s).length ≤ 8 := by unfold setTxB; split; exact setTx_len _; simp
theorem map_getD {A B : Type} (f : A → B) (l : List A) (k : Nat) (d : A) (e : B) (h : k < l.length) : (l.map f).getD k e = f (l.getD k d) := by rw [getD_lt' h, getD_lt' (by simpa using h), List.getElem_map]
theorem spec_SetsText_eq (l : List Int) (hl : l.length < 10000000000) : N.spec_SetsText l = some ((tx (setsTx l), ()), ()) := by
  unfold N.spec_SetsText setsTx
  simp only [E, spec_l2Sets_eq l (by omega)]
  by_cases h : l.all (isSetB 8) = true
  · rw [if_neg (by simp [h]), if_pos h]
    by_cases h0 : l = []
    · subst h0; rw [if_pos (by simp)]; rfl
    · have hpos : 0 < l.length := List.length_pos_iff.2 h0
      rw [if_neg (by omega), if_neg h0]
      refine iter_to' (fun k => ((l, (k : Int), ()), ((l.take k).map setTxB).map tx, ())) l.length rfl (fun k hk => ?_) ?_
      · simp only [E, N.spec_SetsText.l0, spec_SetText_eq, List.length_map, List.length_take]
        rw [addI_eq (by omega) (by omega)]
        repeat rw [if_pos (by first | omega | (simp only [List.length_cons, List.length_nil]; omega))]
        rw [← take_snoc l k 0 hk, List.map_append, List.map_append]; rfl
      · simp only [E, N.spec_SetsText.l0]
        rw [if_neg (by omega), List.take_length, bs_eq, spec_Join_eq _ _ (by rw [List.length_map]; omega) (by simp) (fun x hx => by
          obtain ⟨y, _, rfl⟩ := List.mem_map.1 hx
          have := setTxB_len y; omega)]
        rfl
  · rw [if_pos (by simpa using h), if_neg h]; rfl
theorem joinTx_len (b : List UInt8) (l : List (List UInt8)) : (joinTx b l).length ≤ 1048576 := by unfold joinTx; split <;> simp_all
theorem setsTx_len (l : List Int) : (setsTx l).length ≤ 1048576 := by
  unfold setsTx; split
  · split
    · simp
    · exact joinTx_len _ _
  · simp
def contextTx (c : C) : List UInt8 := if ctxB c then Lib.itoa c.1 ++ [32] ++ setsTx c.2 else []
theorem itoa_len (n : Int) (h0 : 0 ≤ n) (h1 : n < 1000000) : (Lib.itoa n).length ≤ 6 := by
  have key : ∀ k u, u < 10 ^ (k + 1) → (Lib.decDigits u).length ≤ k + 1 := by
    intro k
    induction k with
    | zero => intro u hu; rw [Lib.decDigits, dif_pos (by omega)]; simp
    | succ k ih =>
      intro u hu
      rw [Lib.decDigits]
      split
      · simp
      · rw [List.length_append]; have := ih (u / 10) (by rw [Nat.pow_succ] at hu; omega); simp; omega
  unfold Lib.itoa
  rw [if_neg (by omega)]
  exact key 5 _ (by omega)
theorem spec_ContextText_eq (c : C) (hl : c.2.length < 10000000000) : N.spec_ContextText c = some ((tx (contextTx c), ()), ()) := by
  unfold N.spec_ContextText contextTx
  simp only [E, spec_IsContext_eq _ (show c.2.length < 1000000000000 by omega)]
  by_cases h : ctxB c = true
  · rw [if_neg (by simp [h]), if_pos h]
    have h6 : 0 ≤ c.1 ∧ c.1 ≤ 6 := by simp only [ctxB, Bool.and_eq_true, decide_eq_true_eq] at h; exact h.1.1
    have h1 := itoa_len c.1 (by omega) (by omega)
    have h2 := setsTx_len c.2
    have hb : (bs [32]).size = 1 := rfl
    simp only [spec_FormatInt_eq c.1 (by omega) (by omega), E, spec_SetsText_eq _ hl, tx_size]
    rw [if_pos (by omega), bs_eq, ← tx_append, tx_size, ← tx_append, if_pos (by simp only [List.length_append, List.length_map, List.length_cons, List.length_nil]; omega)]; rfl
  · rw [if_pos (by simpa using h), if_neg h]; rfl
end Go.CL
