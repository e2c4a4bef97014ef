/-
  Plain laws, part m: texts of sets and contexts.
-/
import Derived.Test.YtholdngdcinbcaaCeZl
namespace Go.CL
set_option linter.all false
open Go Go.CE
set_option linter.unusedSimpArgs false
set_option linter.unusedVariables false

theorem spec_HasElement_eq (s e : Int) : N.spec_HasElement s e = some ((hasB s e, ()), ()) := by
  unfold N.spec_HasElement hasB
  simp only [E, spec_IsSet_eq, spec_l1In_eq, decide_eq_true_eq]
  by_cases h : isSetB 8 s = true
  · rw [if_pos h]
    obtain ⟨t, rfl, ht⟩ := isAny_true h
    by_cases h2 : 0 ≤ e ∧ e ≤ 7
    · obtain ⟨i, rfl⟩ := Int.eq_ofNat_of_zero_le h2.1
      rw [if_pos h2, spec_l2Has_eq (by omega) (by omega)]
      simp [h]; intro; omega
    · rw [if_neg h2]; simp [h]; omega
  · rw [if_neg h]; simp at h; simp [h]
theorem spec_ElementsOf_eq {s : Nat} (hs : s < 256) : N.spec_ElementsOf (s : Int) = some ((), zs (elems s), ()) := by
  unfold N.spec_ElementsOf
  refine iter_to (fun i => (((s : Int), (i : Int), ()), zs ((List.range i).filter fun e => s.testBit e), ())) 8 (fun i hi => ?_) ?_
  · simp only [N.spec_ElementsOf.l0, spec_HasElement_eq, bnd_some, hasB_nat hs, ifB_eq, chk_eq]
    rw [if_pos (by simp; omega), addI_eq (by omega) (by omega), elems_range]
    have hlen : ((List.range i).filter fun e => s.testBit e).length ≤ i := by simpa using List.length_filter_le (fun e => s.testBit e) (List.range i)
    by_cases h : s.testBit i = true
    · rw [if_pos h, if_pos (by simp [maxList_eq]; omega), if_pos h, zs_append]; rfl
    · rw [if_neg h, if_neg h, List.append_nil]; rfl
  · simp [N.spec_ElementsOf.l0, elems]
/-- The text of a set. -/
def setTx (s : Nat) : List UInt8 := if s = 0 then [45] else (elems s).map fun e => UInt8.ofNat (97 + e)
theorem setTx_len (s : Nat) : (setTx s).length ≤ 8 := by
  unfold setTx; split
  · simp
  · rw [List.length_map]; exact elems_len s
def setTxB (s : Int) : List UInt8 := if isSetB 8 s = true then setTx s.toNat else []
theorem letter (e : Nat) (he : e < 8) : cutS (bs [97, 98, 99, 100, 101, 102, 103, 104]) (e : Int) ((e : Int) + 1) = tx [UInt8.ofNat (97 + e)] := by
  have : ∀ e : Fin 8, cutS (bs [97, 98, 99, 100, 101, 102, 103, 104]) ((e.1 : Nat) : Int) (((e.1 : Nat) : Int) + 1) = tx [UInt8.ofNat (97 + e.1)] := by decide +kernel
  exact this ⟨e, he⟩
theorem spec_SetText_eq (s : Int) : N.spec_SetText s = some ((tx (setTxB s), ()), ()) := by
  unfold N.spec_SetText setTxB
  simp only [E, spec_IsSet_eq]
  by_cases h : isSetB 8 s = true
  · rw [if_neg (by simp [h]), if_pos h]
    obtain ⟨t, rfl, ht⟩ := isAny_true h
    by_cases h0 : t = 0
    · subst h0; rw [if_pos (by omega)]; rfl
    · rw [if_neg (by omega), spec_ElementsOf_eq ht]
      have hlen := elems_len t
      simp only [E]
      refine iter_to' (fun k => ((tx (((elems t).take k).map fun e => UInt8.ofNat (97 + e)), zs (elems t), (k : Int), ()), ())) (elems t).length rfl (fun k hk => ?_) ?_
      · have he := elems_getD_lt8 t k
        have hbs : (bs [97, 98, 99, 100, 101, 102, 103, 104]).size = 8 := rfl
        simp only [E, N.spec_SetText.l0, zs_length, zs_getD, hbs]
        rw [addI_eq (by omega) (by omega), letter _ he, addI_eq (by omega) (by omega), tx_size, tx_size, List.length_map, List.length_take]
        repeat rw [if_pos (by first | omega | (simp only [List.length_cons, List.length_nil]; omega))]
        rw [← take_snoc (elems t) k 0 hk, List.map_append, tx_append]; rfl
      · simp only [E, N.spec_SetText.l0, zs_length]
        rw [if_neg (by omega), List.take_length]
        unfold setTx; rw [if_neg h0]
  · rw [if_pos (by simpa using h), if_neg h]; rfl
/-- Texts with another one between them. -/
def joinL (by_ : List UInt8) : List (List UInt8) → List UInt8
  | [] => []
  | x :: r => x ++ (r.map fun y => by_ ++ y).flatten
theorem joinL_snoc (b : List UInt8) : ∀ (l : List (List UInt8)) (x : List UInt8), l ≠ [] → joinL b (l ++ [x]) = joinL b l ++ (b ++ x)
  | [], _, h => (h rfl).elim
  | y :: r, x, _ => by simp [joinL]
def joinTx (b : List UInt8) (l : List (List UInt8)) : List UInt8 := if (joinL b l).length ≤ 1048576 then joinL b l else []
theorem joinL_take_len (b : List UInt8) (l : List (List UInt8)) (k : Nat) : (joinL b (l.take k)).length ≤ (joinL b l).length := by
  cases l with
  | nil => simp
  | cons x r =>
    cases k with
    | zero => simp [joinL]
    | succ k =>
      rw [List.take_succ_cons]
      simp only [joinL, List.length_append]
      have : ((r.take k).map fun y => b ++ y).flatten.length ≤ (r.map fun y => b ++ y).flatten.length := by
        conv => rhs; rw [← List.take_append_drop k r, List.map_append, List.flatten_append, List.length_append]
        omega
      omega
theorem txs_getD (l : List (List UInt8)) (i : Nat) : (l.map tx).getD i ⟨#[]⟩ = tx (l.getD i []) := by
  simp only [List.getD_eq_getElem?_getD, List.getElem?_map]; cases l[i]? <;> rfl
theorem spec_Join_eq (l : List (List UInt8)) (b : List UInt8) (hl : l.length < 100000000000) (hb : b.length < 1000000000) (hs : ∀ x ∈ l, x.length < 10000000000) : N.spec_Join (l.map tx) (tx b) = some ((tx (joinTx b l), ()), ()) := by
  unfold N.spec_Join
  have hget : ∀ k, (l.getD k []).length < 10000000000 := fun k => by
    by_cases h : k < l.length
    · exact hs _ (getD_mem h)
    · rw [getD_ge (by omega)]; simp
  have hsn : ∀ k, k < l.length → joinL b (l.take (k + 1)) = joinL b (l.take k) ++ (if 0 < k then b else []) ++ l.getD k [] := fun k hk => by
    rw [← take_snoc l k [] hk]
    by_cases h0 : k = 0
    · subst h0; simp [joinL]
    · rw [joinL_snoc _ _ _ (by cases l with | nil => simp at hk | cons y r => cases k with | zero => exact (h0 rfl).elim | succ k => simp), if_pos (by omega), List.append_assoc]
  have step : ∀ k, k < l.length → (joinL b (l.take k)).length ≤ 1048576 → N.spec_Join.l0 (l.map tx) (tx b) (k : Int) (zb (joinL b (l.take k))) =
      if (joinL b (l.take (k + 1))).length ≤ 1048576 then some (.inl ((l.map tx, tx b, (k : Int) + 1, ()), zb (joinL b (l.take (k + 1))), ())) else some (.inr ((tx [], ()), ())) := fun k hk hle => by
    have h1 := hget k
    simp only [E, N.spec_Join.l0, List.length_map, txs_getD, u8s_tx, zb_length, ← zb_append]
    rw [hsn k hk, addI_eq (by omega) (by omega)]
    by_cases h0 : k = 0
    · subst h0
      simp only [Nat.lt_irrefl, if_false, List.append_nil]
      rw [if_pos (by omega), if_neg (by omega), if_pos (by omega), if_pos (by omega)]
      split
      · rename_i h; rw [if_neg (by omega)]; rfl
      · rename_i h; rw [if_pos (by omega)]
    · have hpos : 0 < k := by omega
      simp only [hpos, if_true]
      rw [if_pos (by omega), if_pos (by omega), if_pos (by omega), if_pos (by omega), if_pos (by rw [List.length_append]; omega)]
      split
      · rename_i h; rw [if_neg (by omega)]; rfl
      · rename_i h; rw [if_pos (by omega)]
  by_cases hall : (joinL b l).length ≤ 1048576
  · unfold joinTx; rw [if_pos hall]
    refine iter_to' (fun k => ((l.map tx, tx b, (k : Int), ()), zb (joinL b (l.take k)), ())) l.length (by simp [joinL]; rfl) (fun k hk => ?_) ?_
    · have h1 := joinL_take_len b l k; have h2 := joinL_take_len b l (k + 1)
      rw [step k hk (by omega), if_pos (by omega)]; rfl
    · simp only [E, N.spec_Join.l0, List.length_map]
      rw [if_neg (by omega), List.take_length, s8_zb]
  · unfold joinTx; rw [if_neg hall]
    have key : ∀ d k, k + d = l.length → (joinL b (l.take k)).length ≤ 1048576 →
        iter (fun (y : ((List ByteArray) × ByteArray × Int × Unit) × (List Int) × Unit) => N.spec_Join.l0 y.1.1 y.1.2.1 y.1.2.2.1 y.2.1) ((l.map tx, tx b, (k : Int), ()), zb (joinL b (l.take k)), ()) = some ((tx [], ()), ()) := by
      intro d
      induction d with
      | zero => intro k hk hle; rw [show k = l.length by omega, List.take_length] at hle; omega
      | succ d ih =>
        intro k hk hle
        have hst := step k (by omega) hle
        by_cases h : (joinL b (l.take (k + 1))).length ≤ 1048576
        · rw [if_pos h] at hst
          exact (iter_step (f := fun (y : ((List ByteArray) × ByteArray × Int × Unit) × (List Int) × Unit) => N.spec_Join.l0 y.1.1 y.1.2.1 y.1.2.2.1 y.2.1) hst).trans (ih (k + 1) (by omega) h)
        · rw [if_neg h] at hst
          exact iter_done hst
    have := key l.length 0 (by omega) (by simp [joinL])
    exact this
end Go.CL
