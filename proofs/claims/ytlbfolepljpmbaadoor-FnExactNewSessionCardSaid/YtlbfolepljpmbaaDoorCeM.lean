/-
  A computed evaluator over the model's code, part M: calls.
-/
import Derived.Test.YtlbfolepljpmbaaDoorCeL
namespace Go.CE
set_option linter.all false
set_option linter.unusedSectionVars false
open Go Go.RowKit
variable [Tab]
set_option linter.unusedVariables false
set_option linter.unusedSimpArgs false

theorem leafTo_live {h : AHeap} {t : Ty} {a : AL} {x : t.den} {ids : List Nat} (hl : leafTo h t a = some (x, ids)) : ∀ id ∈ ids, ∃ o, h id = some o := by
  cases a with
  | dat t' y => simp only [leafTo, Option.map_eq_some_iff] at hl; obtain ⟨z, _, he⟩ := hl; injection he with _ e2; subst e2; intro id hid; cases hid
  | nils => cases t <;> simp [leafTo] at hl; obtain ⟨_, rfl⟩ := hl; intro id hid; cases hid
  | sl t' id =>
    simp only [leafTo] at hl
    split at hl
    · rename_i e t2 l hid
      split at hl
      · simp only [Option.map_eq_some_iff] at hl
        obtain ⟨z, _, he⟩ := hl; injection he with _ e2; subst e2
        intro id' hid'; simp at hid'; subst hid'; exact ⟨_, hid⟩
      · cases hl
    · cases hl
  | vw t' id i j =>
    simp only [leafTo] at hl
    split at hl
    · rename_i e t2 l hid
      split at hl
      · simp only [Option.map_eq_some_iff] at hl
        obtain ⟨z, _, he⟩ := hl; injection he with _ e2; subst e2
        intro id' hid'; simp at hid'; subst hid'; exact ⟨_, hid⟩
      · cases hl
    · cases hl
  | unk => simp [leafTo] at hl
  | ref _ _ => simp [leafTo] at hl
  | elt _ _ _ _ => simp [leafTo] at hl
  | rp _ _ _ => simp [leafTo] at hl
  | anyb => simp [leafTo] at hl
theorem gatherLeaf_live {h : AHeap} {t : Ty} {l : List AL} {x : t.den} {ids : List Nat} {rest : List AL} (hg : (match l with | [] => none | a :: r => (leafTo h t a).map fun p => (p.1, p.2, r)) = some (x, ids, rest)) : ∀ id ∈ ids, ∃ o, h id = some o := by
  cases l with
  | nil => cases hg
  | cons a l =>
    simp only [Option.map_eq_some_iff] at hg
    obtain ⟨⟨y, j⟩, hy, he⟩ := hg
    injection he with e1 he; injection he with e2 e3
    subst e2; exact leafTo_live hy
theorem gather_live {h : AHeap} : ∀ {t : Ty} {l : List AL} {x : t.den} {ids : List Nat} {rest : List AL}, gather h t l = some (x, ids, rest) → ∀ id ∈ ids, ∃ o, h id = some o
  | .pr t1 t2, l, x, ids, rest, hg => by
    simp only [gather] at hg
    split at hg
    · cases hg
    · rename_i hg1
      split at hg
      · cases hg
      · rename_i hg2
        injection hg with hg; injection hg with e1 hg; injection hg with e2 e3
        subst e2
        intro id hid
        rcases List.mem_append.1 hid with hid | hid
        · exact gather_live hg1 id hid
        · exact gather_live hg2 id hid
  | .one t, l, x, ids, rest, hg => gather_live (t := t) (l := l) (x := x) (rest := rest) (by cases l <;> exact hg)
  | .i k, l, x, _, r, hg => gatherLeaf_live (t := .i k) (l := l) (x := x) (rest := r) (by cases l <;> exact hg)
  | .b, l, x, _, r, hg => gatherLeaf_live (t := .b) (l := l) (x := x) (rest := r) (by cases l <;> exact hg)
  | .s, l, x, _, r, hg => gatherLeaf_live (t := .s) (l := l) (x := x) (rest := r) (by cases l <;> exact hg)
  | .e, l, x, _, r, hg => gatherLeaf_live (t := .e) (l := l) (x := x) (rest := r) (by cases l <;> exact hg)
  | .sl t, l, x, _, r, hg => gatherLeaf_live (t := .sl t) (l := l) (x := x) (rest := r) (by cases l <;> exact hg)
  | .f1 a c, l, x, _, r, hg => gatherLeaf_live (t := .f1 a c) (l := l) (x := x) (rest := r) (by cases l <;> exact hg)
  | .f2 a c d, l, x, _, r, hg => gatherLeaf_live (t := .f2 a c d) (l := l) (x := x) (rest := r) (by cases l <;> exact hg)
theorem a1To_live {h : AHeap} {t : Ty} {a : A1} {x : t.den} {ids : List Nat} (hl : a1To h t a = some (x, ids)) : ∀ id ∈ ids, ∃ o, h id = some o := by
  cases a with
  | lf a =>
    simp only [a1To] at hl
    split at hl
    · cases hl
    · exact leafTo_live hl
  | ag l =>
    simp only [a1To] at hl
    split at hl
    · split at hl
      · rename_i y j hg
        injection hl with hl; injection hl with e1 e2; subst e2
        exact gather_live hg
      · cases hl
    · cases hl
theorem unV_live {h : AHeap} : ∀ {l : List SV} {as : List A1} {m m' : Map} {x : HV l} {ids : List Nat}, unV h l as m = some (x, m', ids) → ∀ id ∈ ids, ∃ o, h id = some o
  | [], as, m, _, _, _, e => by
    simp only [unV] at e
    split at e
    · injection e with e; injection e with _ e; injection e with _ e; subst e; intro id hid; cases hid
    · cases e
  | .d t :: l, as, m, m', x, ids, e => by
    simp only [unV] at e
    split at e
    · cases e
    · split at e
      · cases e
      · rename_i h1
        split at e
        · cases e
        · rename_i h2; injection e with e; injection e with _ e; injection e with _ e; subst e
          intro id hid
          rcases List.mem_append.1 hid with hid | hid
          · exact a1To_live h1 id hid
          · exact unV_live h2 id hid
  | .p t :: l, as, m, m', x, ids, e => by
    simp only [unV] at e
    split at e
    · cases e
    · split at e
      · cases e
      · split at e
        · cases e
        · rename_i h2; injection e with e; injection e with _ e; injection e with _ e; subst e; exact unV_live h2
  | .r id :: l, as, m, m', x, ids, e => by
    simp only [unV] at e
    split at e
    · cases e
    · split at e
      · cases e
      · split at e
        · cases e
        · exact unV_live (l := l) e
  | .o t id :: l, as, m, m', x, ids, e => by
    simp only [unV] at e
    split at e
    · cases e
    · split at e
      · cases e
      · split at e
        · cases e
        · exact unV_live (l := l) e
  | .x :: l, as, m, m', x, ids, e => by
    simp only [unV] at e
    split at e
    · cases e
    · exact unV_live (l := l) e
  | .g n :: l, as, m, m', x, ids, e => by
    simp only [unV] at e
    split at e
    · split at e
      · exact unV_live (l := l) e
      · cases e
    · cases e

theorem unO_live {h : AHeap} : ∀ {l : List SO} {k : Nat} {m m' : Map} {y : HO l} {ids : List Nat}, unO h k l m = some (y, m', ids) → ∀ id ∈ ids, ∃ o, h id = some o
  | [], k, m, m', _, _, e => by simp only [unO, Option.some.injEq, Prod.mk.injEq] at e; rw [← e.2.2]; intro id hid; cases hid
  | .cells l :: r, k, m, m', y, ids, e => by
    simp only [unO] at e
    split at e
    · split at e
      · split at e
        · cases e
        · rename_i h1
          split at e
          · cases e
          · rename_i h2
            injection e with e; injection e with _ e; injection e with _ e; subst e
            intro id hid
            rcases List.mem_append.1 hid with hid | hid
            · exact unV_live h1 id hid
            · exact unO_live h2 id hid
      · cases e
    · cases e
  | .arr e0 t :: r, k, m, m', y, ids, e => by
    simp only [unO] at e
    split at e
    · split at e
      · split at e
        · split at e
          · cases e
          · split at e
            · cases e
            · rename_i h2
              injection e with e; injection e with _ e; injection e with _ e; subst e
              exact unO_live h2
        · cases e
      · cases e
    · split at e
      · cases e
      · rename_i h2
        injection e with e; injection e with _ e; injection e with _ e; subst e
        exact unO_live h2
    · cases e

/-- Where the objects of a shape lie. -/
def mapMu (m : Map) (μ : Mu) : Mu := fun k => match m.get k with | some (some a) => μ a | _ => none
section
variable {P : Program}

theorem unpack_parts {s : Shp} {h : AHeap} {as : List A1} {m0 m : Map} {x : s.den} {ds : List Nat} (hu : unpack s h as m0 = some (x, m, ds)) : ∃ m1 i j, unV h s.sv as m0 = some (x.1, m1, i) ∧ unO h 0 s.so m1 = some (x.2, m, j) ∧ ds = i ++ j ∧
    nodupB m.ids = true ∧ (∀ a ∈ m.ids, a ∉ ds) ∧ ∀ p ∈ m, p.1 < s.so.length := by
  unfold unpack at hu
  split at hu
  · cases hu
  · rename_i x1 m1 i h1
    split at hu
    · cases hu
    · rename_i y1 m2 j h2
      split at hu
      · rename_i hc
        injection hu with hu; injection hu with e1 hu; injection hu with e2 e3
        subst e1 e2 e3
        simp only [Bool.and_eq_true, List.all_eq_true, Bool.not_eq_true', decide_eq_true_eq] at hc
        exact ⟨m1, i, j, h1, h2, rfl, hc.1.1, fun a ha hd => by simpa [hd] using hc.1.2 a ha, hc.2⟩
      · cases hu
theorem unpack_like {s : Shp} {h : AHeap} {as : List A1} {m0 m : Map} {x : s.den} {ds : List Nat} (hu : unpack s h as m0 = some (x, m, ds)) : ∀ k o0, enumO 0 (packO s.so x.2) k = some o0 →
    ∃ a, m.get k = some a ∧ match a with | some a => ∃ o, h a = some o ∧ o.alike o0 | none => ∃ e t, o0 = .arr e t [] := by
  obtain ⟨m1, i, j, h1, h2, rfl, hn, hd, hk⟩ := unpack_parts hu
  intro k o0 ho
  rw [enumO_zero] at ho
  obtain ⟨a, g1, g2⟩ := unO_like h2 k o0 ho
  rw [Nat.zero_add] at g1
  exact ⟨a, g1, g2⟩
theorem unpack_rel {Own F M : Nat → Prop} {μ : Mu} {hf h : AHeap} {w : World} (H : HRel P Own F M μ hf w) {s : Shp} {as : List A1} {m0 m : Map} {x : s.den} {ds : List Nat} (hu : unpack s h as m0 = some (x, m, ds))
    (hG : ∀ id ∈ m.ids ++ ds, hf id = h id) {vals : List Value} (r : a1sRel P F M μ hf w as vals) :
    a1sRel P (plus F μ ds) (fun id => id < s.so.length) (mapMu m μ) (enumO 0 (packO s.so x.2)) w (packV s.sv x.1) vals ∧ HRel P Own (plus F μ ds) (fun id => id < s.so.length) (mapMu m μ) (enumO 0 (packO s.so x.2)) w := by
  have hlike := unpack_like hu
  obtain ⟨m1, i, j, h1, h2, rfl, hn, hd, hk⟩ := unpack_parts hu
  have hmi : ∀ a ∈ m.ids, hf a = h a := fun a ha => hG a (List.mem_append_left _ ha)
  have hds : ∀ a ∈ i ++ j, hf a = h a := fun a ha => hG a (List.mem_append_right _ ha)
  have hlike' : ∀ k o0, enumO 0 (packO s.so x.2) k = some o0 → ∃ a, m.get k = some a ∧ match a with | some a => ∃ o, hf a = some o ∧ o.alike o0 | none => ∃ e t, o0 = .arr e t [] := fun k o0 ho => by
    obtain ⟨a, g1, g2⟩ := hlike k o0 ho
    refine ⟨a, g1, ?_⟩
    cases a with
    | none => exact g2
    | some a => obtain ⟨o, g3, g4⟩ := g2; exact ⟨o, (hmi a (Map.ids_mem g1)).trans g3, g4⟩
  have hok : MapOk μ hf m (fun id => id < s.so.length) (mapMu m μ) (enumO 0 (packO s.so x.2)) := fun k a hka => by
    refine ⟨hk _ (Map.get_mem hka), by simp only [mapMu, hka]; cases a <;> rfl, fun o0 ho => ?_⟩
    obtain ⟨a', g1, g2⟩ := hlike' k o0 ho
    rw [hka] at g1; injection g1 with g1; subst g1; exact g2
  have hlive : ∀ a ∈ i ++ j, ∃ o, hf a = some o := fun a ha => by
    rw [hds a ha]
    rcases List.mem_append.1 ha with ha | ha
    · exact unV_live h1 a ha
    · exact unO_live h2 a ha
  have hbl : ∀ k o0 b, enumO 0 (packO s.so x.2) k = some o0 → mapMu m μ k = some b → ∃ a o, m.get k = some (some a) ∧ hf a = some o ∧ μ a = some b := fun k o0 b ho hb => by
    obtain ⟨a, g1, g2⟩ := hlike' k o0 ho
    simp only [mapMu, g1] at hb
    cases a with
    | none => cases hb
    | some a => obtain ⟨o, g3, _⟩ := g2; exact ⟨a, o, g1, g3, hb⟩
  refine ⟨unV_rel H (G := i ++ j) hds h1 r (fun k a hka => hok k a (unO_get h2 _ _ hka)) fun id hid => List.mem_append_left _ hid, ?_, ?_, ?_, ?_, ?_⟩
  · refine H.closed.plus' plus_sub fun b hb => ?_
    rcases hb with hb | ⟨id, hid, hb⟩
    · exact H.closed.1 b hb
    · obtain ⟨o, ho⟩ := hlive id hid; exact (H.own id o b ho hb).1
  · intro k o0 ho
    obtain ⟨a, g1, _⟩ := hlike' k o0 ho
    exact hk _ (Map.get_mem g1)
  · intro k o0 ho
    have := unO_rel H (G := i ++ j) hds h2 hok hmi (fun id hid => List.mem_append_right _ hid) k o0 (by rw [← enumO_zero]; exact ho)
    rwa [Nat.zero_add] at this
  · intro k o0 b ho hb
    obtain ⟨a, o, g1, g2, g3⟩ := hbl k o0 b ho hb
    obtain ⟨q1, q2, q3⟩ := H.own a o b g2 g3
    refine ⟨q1, q2, ?_⟩
    rintro (hF | ⟨id, hid, hb'⟩)
    · exact q3 hF
    · obtain ⟨o', ho'⟩ := hlive id hid
      have := H.inj a id o o' b g2 ho' g3 hb'
      subst this
      exact hd a (Map.ids_mem g1) hid
  · intro k k' o o' b ho ho' hb hb'
    obtain ⟨a, oa, g1, g2, g3⟩ := hbl k o b ho hb
    obtain ⟨a', oa', g1', g2', g3'⟩ := hbl k' o' b ho' hb'
    have := H.inj a a' oa oa' b g2 g2' g3 g3'
    subst this
    exact Map.inj hn (Map.get_mem g1) (Map.get_mem g1')
end
end Go.CE
