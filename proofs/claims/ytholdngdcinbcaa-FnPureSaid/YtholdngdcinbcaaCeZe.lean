/-
  Plain laws, part e: hulls.
-/
import Derived.Test.YtholdngdcinbcaaCeZd
namespace Go.CL
set_option linter.all false
open Go Go.CE
set_option linter.unusedSimpArgs false
set_option linter.unusedVariables false

theorem spec_l1Min_eq (x y : Int) : N.spec_l1Min x y = some ((min x y, ()), ()) := by
  unfold N.spec_l1Min; simp only [E]; split <;> congr 3 <;> omega
theorem spec_l1Max_eq (x y : Int) : N.spec_l1Max x y = some ((max x y, ()), ()) := by
  unfold N.spec_l1Max; simp only [E]; split <;> congr 3 <;> omega
theorem take_snoc {A : Type} (l : List A) (i : Nat) (d : A) (h : i < l.length) : l.take i ++ [l.getD i d] = l.take (i + 1) := by
  rw [getD_lt' h, List.take_succ_eq_append_getElem h]
theorem set_same {A : Type} (l : List A) (i : Nat) (d x : A) (h : i < l.length) (e : x = l.getD i d) : l.set i x = l := by
  subst e; rw [getD_lt' h]; exact List.set_getElem_self h
/-- The hull of some rows, by 'min' or by 'max'. -/
def hullL (f : Int → Int → Int) (a : List (List Int)) : List Nat → List Int
  | [] => []
  | g :: r => r.foldl (fun acc g => List.zipWith f acc (a.getD g [])) (a.getD g [])
theorem hullL_snoc (f : Int → Int → Int) (a : List (List Int)) : ∀ (l : List Nat) (g : Nat), l ≠ [] → hullL f a (l ++ [g]) = List.zipWith f (hullL f a l) (a.getD g [])
  | [], _, h => (h rfl).elim
  | x :: l, g, _ => by simp [hullL, List.foldl_append]
theorem hullL_length (f : Int → Int → Int) (a : List (List Int)) (w : Nat) : ∀ (l : List Nat), l ≠ [] → (∀ g ∈ l, (a.getD g []).length = w) → (hullL f a l).length = w := by
  intro l hl hg
  cases l with
  | nil => exact (hl rfl).elim
  | cons g r =>
    have key : ∀ (r : List Nat) (acc : List Int), acc.length = w → (∀ g ∈ r, (a.getD g []).length = w) → (r.foldl (fun acc g => List.zipWith f acc (a.getD g [])) acc).length = w := by
      intro r
      induction r with
      | nil => intro acc h _; exact h
      | cons x r ih => intro acc h hr; exact ih _ (by rw [List.length_zipWith, h, hr x (by simp)]; exact Nat.min_self w) fun g hg => hr g (by simp [hg])
    exact key r _ (hg g (by simp)) fun x hx => hg x (by simp [hx])
section
variable {a : List (List Int)} {k w : Nat} (ha : a.length ≤ 8) (hk : k < a.length) (hw : w ≤ 3) (hrow : (a.getD k []).length = w)
include ha hk hw hrow
theorem spec_hull_first (s : Int) (o1 o2 : List Int) :
    iter (fun (y : ((List (List Int)) × Int × Int × Int × Unit) × Unit × (List Int) × (List Int) × Unit × (List Int) × (List Int) × Unit) => N.spec_l24Hull.l1 y.1.1 y.1.2.1 y.1.2.2.1 y.1.2.2.2.1 y.2.2.1 y.2.2.2.1 y.2.2.2.2.2.1 y.2.2.2.2.2.2.1) ((a, s, (k : Int), 0, ()), (), o1, o2, (), [], [], ()) =
      some (.inl ((a, s, (k : Int) + 1, ()), (), o1, o2, (), a.getD k [], a.getD k [], ())) := by
  refine (iter_to (fun i => ((a, s, (k : Int), (i : Int), ()), (), o1, o2, (), (a.getD k []).take i, (a.getD k []).take i, ())) w (fun i hi => ?_) ?_)
  · have hi' : i < (a.getD k []).length := by omega
    have hl : ((a.getD k []).take i).length = i := by rw [List.length_take]; omega
    have hs : ((a.getD k []).take i ++ [(a.getD k []).getD i 0]) = (a.getD k []).take (i + 1) := take_snoc _ _ _ hi'
    have hg : ((a.getD k []).take (i + 1)).getD i 0 = (a.getD k []).getD i 0 := by rw [getD_lt' hi', getD_lt' (by rw [List.length_take]; omega), List.getElem_take]
    have hl' : ((a.getD k []).take (i + 1)).length = i + 1 := by rw [List.length_take]; omega
    simp only [E, getN, N.spec_l24Hull.l1, spec_l1Min_eq, spec_l1Max_eq, hs, hg, hl, hl', List.length_singleton, List.length_cons, List.length_nil]
    repeat rw [if_pos (by omega)]
    rw [addI_eq (by omega) (by omega), set_same _ _ 0 _ (by omega) (by rw [hg, Int.min_self]), set_same _ _ 0 _ (by omega) (by rw [hg, Int.max_self])]
    rfl
  · simp only [E, N.spec_l24Hull.l1]
    rw [if_pos (by omega), if_neg (by omega), addI_eq (by omega) (by omega), List.take_of_length_le (by omega)]
theorem spec_hull_more (s : Int) (o1 o2 lo hi : List Int) (hlo : lo.length = w) (hhi : hi.length = w) :
    iter (fun (y : ((List (List Int)) × Int × Int × Int × Unit) × Unit × (List Int) × (List Int) × Unit × (List Int) × (List Int) × Unit) => N.spec_l24Hull.l1 y.1.1 y.1.2.1 y.1.2.2.1 y.1.2.2.2.1 y.2.2.1 y.2.2.2.1 y.2.2.2.2.2.1 y.2.2.2.2.2.2.1) ((a, s, (k : Int), 0, ()), (), o1, o2, (), lo, hi, ()) =
      some (.inl ((a, s, (k : Int) + 1, ()), (), o1, o2, (), List.zipWith min lo (a.getD k []), List.zipWith max hi (a.getD k []), ())) := by
  have step : ∀ (f : Int → Int → Int) (l : List Int) (i : Nat), l.length = w → i < w → ((List.zipWith f l (a.getD k [])).take i ++ l.drop i).set i (f (((List.zipWith f l (a.getD k [])).take i ++ l.drop i).getD i 0) ((a.getD k []).getD i 0)) =
      (List.zipWith f l (a.getD k [])).take (i + 1) ++ l.drop (i + 1) := by
    intro f l i hl hi
    have hz : (List.zipWith f l (a.getD k [])).length = w := by rw [List.length_zipWith]; omega
    have ht : ((List.zipWith f l (a.getD k [])).take i).length = i := by rw [List.length_take]; omega
    have e1 : l.drop i = l[i] :: l.drop (i + 1) := List.drop_eq_getElem_cons (by omega)
    have e2 : ((List.zipWith f l (a.getD k [])).take i ++ l.drop i).getD i 0 = l[i] := by
      have hl2 : ((List.zipWith f l (a.getD k [])).take i ++ l.drop i).length = w := by rw [List.length_append, ht, List.length_drop]; omega
      rw [getD_lt' (by omega), List.getElem_append_right (by omega)]
      simp only [ht, Nat.sub_self, List.getElem_drop, Nat.add_zero]
    rw [e2, e1, List.set_append_right _ _ (by omega), ht, Nat.sub_self, List.set_cons_zero]
    rw [List.take_succ_eq_append_getElem (by omega), List.append_assoc]
    congr 1
    rw [List.getElem_zipWith, getD_lt' (by omega)]; rfl
  refine (iter_to (fun i => ((a, s, (k : Int), (i : Int), ()), (), o1, o2, (), (List.zipWith min lo (a.getD k [])).take i ++ lo.drop i, (List.zipWith max hi (a.getD k [])).take i ++ hi.drop i, ())) w (fun i hi' => ?_) ?_)
  · have hz : ((List.zipWith min lo (a.getD k [])).take i ++ lo.drop i).length = w := by rw [List.length_append, List.length_take, List.length_drop, List.length_zipWith]; omega
    have hz2 : ((List.zipWith max hi (a.getD k [])).take i ++ hi.drop i).length = w := by rw [List.length_append, List.length_take, List.length_drop, List.length_zipWith]; omega
    simp only [E, getN, N.spec_l24Hull.l1, spec_l1Min_eq, spec_l1Max_eq, hz, hz2]
    rw [if_pos (by omega), if_pos (by omega), if_neg (by omega), if_pos (by omega), if_pos (by omega), if_pos (by omega), if_pos (by omega), if_pos (by omega), if_pos (by omega), if_pos (by omega), if_pos (by omega), addI_eq (by omega) (by omega), step min lo i hlo hi', step max hi i hhi hi']
    rfl
  · have hz : (List.zipWith min lo (a.getD k [])).length = w := by rw [List.length_zipWith]; omega
    have hz2 : (List.zipWith max hi (a.getD k [])).length = w := by rw [List.length_zipWith]; omega
    simp only [E, N.spec_l24Hull.l1]
    rw [if_pos (by omega), if_neg (by omega), addI_eq (by omega) (by omega), List.take_of_length_le (by omega), List.take_of_length_le (by omega), List.drop_of_length_le (by omega), List.drop_of_length_le (by omega), List.append_nil, List.append_nil]
end
theorem elems_sub (s m : Nat) : ∀ g ∈ (List.range m).filter (fun e => s.testBit e), g < m := fun g hg => by simpa using List.mem_range.1 (List.mem_filter.1 hg).1
theorem elems_upto {s n : Nat} (hn : n ≤ 8) (hs : s < 2 ^ n) : (List.range n).filter (fun e => s.testBit e) = elems s := by
  have key : ∀ d, n + d ≤ 8 → (List.range (n + d)).filter (fun e => s.testBit e) = (List.range n).filter fun e => s.testBit e := by
    intro d
    induction d with
    | zero => intro _; rfl
    | succ d ih =>
      intro hd
      rw [show n + (d + 1) = (n + d) + 1 by omega, elems_range, ih (by omega)]
      have : s.testBit (n + d) = false := Nat.testBit_lt_two_pow (Nat.lt_of_lt_of_le hs (Nat.pow_le_pow_right (by omega) (by omega)))
      simp [this]
  have := key (8 - n) (by omega)
  rw [show n + (8 - n) = 8 by omega] at this
  exact this.symm
theorem arePts_row {a : List (List Int)} (h : arePts a = true) : 1 ≤ a.length ∧ a.length ≤ 8 ∧ (a.getD 0 []).length ≤ 3 ∧ ∀ k, k < a.length → (a.getD k []).length = (a.getD 0 []).length := by
  unfold arePts at h
  simp only [Bool.and_eq_true, decide_eq_true_eq, List.all_eq_true, okRow] at h
  exact ⟨h.1.1.1, h.1.1.2, h.1.2, fun k hk => (h.2 _ (getD_mem hk)).1⟩
theorem spec_l24Hull_eq {a : List (List Int)} {s : Nat} (ha : arePts a = true) (hs : s < 2 ^ a.length) : N.spec_l24Hull a (s : Int) = some ((), hullL min a (elems s), hullL max a (elems s), ()) := by
  obtain ⟨h1, h2, h3, h4⟩ := arePts_row ha
  have hsl : s < 256 := Nat.lt_of_lt_of_le hs (pow_le8 h2)
  unfold N.spec_l24Hull
  refine (iter_to (fun k => ((a, (s : Int), (k : Int), ()), (), [], [], (), hullL min a ((List.range k).filter fun e => s.testBit e), hullL max a ((List.range k).filter fun e => s.testBit e), ())) a.length (fun k hk => ?_) ?_)
  · simp only [E, N.spec_l24Hull.l0, spec_l2Has_eq (show k < 64 by omega) (show s < 9223372036854775808 by omega)]
    rw [if_pos (by omega), elems_range]
    cases hb : s.testBit k with
    | false =>
      rw [if_pos rfl, addI_eq (by omega) (by omega)]
      simp only [Bool.false_eq_true, if_false, List.append_nil]; rfl
    | true =>
      rw [if_neg (by simp), if_pos rfl]
      by_cases hem : (List.range k).filter (fun e => s.testBit e) = []
      · rw [hem]
        exact spec_hull_first h2 hk h3 (h4 k hk) _ _ _
      · rw [hullL_snoc _ _ _ _ hem, hullL_snoc _ _ _ _ hem]
        have hg : ∀ g ∈ (List.range k).filter (fun e => s.testBit e), (a.getD g []).length = (a.getD 0 []).length := fun g hg => h4 g (by have := elems_sub s k g hg; omega)
        exact spec_hull_more h2 hk h3 (h4 k hk) _ _ _ _ _ (hullL_length _ _ _ _ hem hg) (hullL_length _ _ _ _ hem hg)
  · simp only [E, N.spec_l24Hull.l0]
    rw [if_neg (by omega), elems_upto h2 hs]
end Go.CL
