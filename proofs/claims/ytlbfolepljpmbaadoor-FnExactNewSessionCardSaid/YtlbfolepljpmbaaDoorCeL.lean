/-
  A computed evaluator over the model's code, part L: what is handed over: data and objects out of abstract values.
-/
import Derived.Test.YtlbfolepljpmbaaDoorCeK
namespace Go.CE
set_option linter.all false
set_option linter.unusedSectionVars false
open Go Go.RowKit
variable [Tab]
set_option linter.unusedVariables false
set_option linter.unusedSimpArgs false

theorem enumO_get : ∀ (l : List AObj) (k id : Nat), enumO k l id = if k ≤ id then l[id - k]? else none
  | [], k, id => by simp [enumO]
  | o :: r, k, id => by
    simp only [enumO, enumO_get r (k + 1) id]
    by_cases h1 : id = k
    · subst h1; simp
    · by_cases h2 : k ≤ id
      · rw [if_neg h1, if_pos (by omega), if_pos h2, show id - k = (id - (k + 1)) + 1 by omega]; rfl
      · rw [if_neg h1, if_neg (by omega), if_neg h2]
theorem enumO_zero (l : List AObj) (id : Nat) : enumO 0 l id = l[id]? := by simp [enumO_get]
theorem packO_len : ∀ {l : List SO} {y : HO l}, (packO l y).length = l.length
  | [], _ => rfl
  | .cells _ :: r, y => by simp [packO, packO_len (l := r)]
  | .arr _ _ :: r, y => by simp [packO, packO_len (l := r)]

theorem Map.add_get {m m' : Map} {k : Nat} {v : Option Nat} (h : m.add k v = some m') : m'.get k = some v ∧ (∀ j u, m.get j = some u → m'.get j = some u) ∧ (∀ p ∈ m', p ∈ m ∨ p = (k, v)) := by
  unfold Map.add at h
  split at h
  · rename_i hk
    injection h with h; subst h
    refine ⟨by simp [Map.get], fun j u hj => ?_, fun p hp => by rcases List.mem_cons.1 hp with h | h; exact .inr h; exact .inl h⟩
    by_cases e : k = j
    · subst e; rw [hk] at hj; cases hj
    · simp [Map.get, e, hj]
  · rename_i v' hk
    split at h
    · rename_i e; subst e
      injection h with h; subst h
      exact ⟨hk, fun _ _ h => h, fun p hp => .inl hp⟩
    · cases h
theorem Map.get_mem {m : Map} {k : Nat} {v : Option Nat} (h : m.get k = some v) : (k, v) ∈ m := by
  induction m with
  | nil => simp [Map.get] at h
  | cons p r ih =>
    obtain ⟨a, u⟩ := p
    simp only [Map.get] at h
    split at h
    · rename_i e; subst e; injection h with h; subst h; exact List.mem_cons_self
    · exact List.mem_cons_of_mem _ (ih h)
theorem Map.ids_mem {m : Map} {k a : Nat} (h : m.get k = some (some a)) : a ∈ m.ids := List.mem_filterMap.2 ⟨_, Map.get_mem h, rfl⟩
theorem Map.inj {m : Map} (hn : nodupB m.ids = true) : ∀ {k k' a : Nat}, (k, some a) ∈ m → (k', some a) ∈ m → k = k' := by
  induction m with
  | nil => intro k k' a h; cases h
  | cons p r ih =>
    obtain ⟨j, u⟩ := p
    intro k k' a h h'
    have hr : nodupB (Map.ids r) = true ∧ (∀ b, u = some b → b ∉ Map.ids r) := by
      cases u with
      | none => exact ⟨by simpa [Map.ids] using hn, fun _ h => by cases h⟩
      | some b =>
        simp only [Map.ids, List.filterMap_cons, nodupB, Bool.and_eq_true, Bool.not_eq_true', List.contains_iff_mem] at hn
        exact ⟨hn.2, fun c hc hb => by injection hc with hc; subst hc; simp [List.contains_iff_mem] at hn; obtain ⟨⟨x, u⟩, hx, hu⟩ := List.mem_filterMap.1 hb; simp at hu; subst hu; exact hn.1 x hx⟩
    rcases List.mem_cons.1 h with h | h <;> rcases List.mem_cons.1 h' with h' | h'
    · injection h with h1 _; injection h' with h2 _; exact h1.trans h2.symm
    · injection h with h1 h2; exact (hr.2 a h2.symm (List.mem_filterMap.2 ⟨_, h', rfl⟩)).elim
    · injection h' with h1 h2; exact (hr.2 a h2.symm (List.mem_filterMap.2 ⟨_, h, rfl⟩)).elim
    · exact ih hr.1 h h'

section
variable {P : Program}

theorem a1sRel_len {F M : Nat → Prop} {μ : Mu} {h : AHeap} {w : World} : ∀ {l : List A1} {vs : List Value}, a1sRel P F M μ h w l vs → vs.length = l.length
  | [], _, r => by cases r; rfl
  | _ :: _, _, ⟨_, _, e, _, r⟩ => by rw [e, List.length_cons, List.length_cons, a1sRel_len r]
theorem a1sRel_lf {F M : Nat → Prop} {μ : Mu} {h : AHeap} {w : World} : ∀ {l : List AL} {vs : List Value}, alsRel P F M μ h w l vs → a1sRel P F M μ h w (l.map .lf) vs
  | [], _, r => r
  | _ :: _, _, ⟨v, r, e, h1, h2⟩ => ⟨v, r, e, h1, a1sRel_lf h2⟩

theorem a1sRel_append {F M : Nat → Prop} {μ : Mu} {h : AHeap} {w : World} : ∀ {l l' : List A1} {vs vs' : List Value}, a1sRel P F M μ h w l vs → a1sRel P F M μ h w l' vs' → a1sRel P F M μ h w (l ++ l') (vs ++ vs')
  | [], _, _, _, r, r' => by cases r; exact r'
  | _ :: _, _, _, _, ⟨v, r, e, h1, h2⟩, r' => ⟨v, r ++ _, by rw [e]; rfl, h1, a1sRel_append h2 r'⟩
theorem a1sRel_split {F M : Nat → Prop} {μ : Mu} {h : AHeap} {w : World} : ∀ {l : List AL} {l' : List A1} {vs vs' : List Value}, l.length = vs.length → a1sRel P F M μ h w (l.map .lf ++ l') (vs ++ vs') → alsRel P F M μ h w l vs ∧ a1sRel P F M μ h w l' vs'
  | [], l', vs, vs', e, r => by
    cases vs with
    | nil => exact ⟨rfl, r⟩
    | cons v vs => simp at e
  | a :: l, l', vs, vs', e, r => by
    cases vs with
    | nil => simp at e
    | cons v vs =>
      obtain ⟨v', r', e', h1, h2⟩ := r
      simp only [List.cons_append, List.cons.injEq] at e'
      obtain ⟨rfl, rfl⟩ := e'
      obtain ⟨h3, h4⟩ := a1sRel_split (by simpa using e) h2
      exact ⟨⟨v, vs, rfl, h1, h3⟩, h4⟩
theorem leafs_pack : ∀ {n : Nat} {l : List SV} {x : HV l}, leafs n l = true → ∃ ls r, takeLf n (packV l x) = some (ls, r) ∧ packV l x = ls.map .lf ++ r ∧ ls.length = n
  | 0, l, x, _ => ⟨[], packV l x, rfl, rfl, rfl⟩
  | n + 1, [], x, h => by simp [leafs] at h
  | n + 1, .d t :: l, x, h => by
    simp only [leafs, Bool.and_eq_true, Bool.not_eq_true'] at h
    obtain ⟨ls, r, h1, h2, h3⟩ := leafs_pack (x := x.2) h.2
    exact ⟨.dat t x.1 :: ls, r, by simp [packV, a1Of, h.1, takeLf, h1], by simp [packV, a1Of, h.1, h2], by simp [h3]⟩
  | n + 1, .p t :: l, x, h => by
    obtain ⟨ls, r, h1, h2, h3⟩ := leafs_pack (l := l) (x := x.2) h
    exact ⟨.rp t x.1 0 :: ls, r, by simp [packV, takeLf, h1], by simp [packV, h2], by simp [h3]⟩
  | n + 1, .r id :: l, x, h => by
    obtain ⟨ls, r, h1, h2, h3⟩ := leafs_pack (l := l) (x := x) h
    exact ⟨.ref id 0 :: ls, r, by simp [packV, takeLf, h1], by simp [packV, h2], by simp [h3]⟩
  | n + 1, .o t id :: l, x, h => by
    obtain ⟨ls, r, h1, h2, h3⟩ := leafs_pack (l := l) (x := x) h
    exact ⟨.sl t id :: ls, r, by simp [packV, takeLf, h1], by simp [packV, h2], by simp [h3]⟩
  | n + 1, .x :: l, x, h => by
    obtain ⟨ls, r, h1, h2, h3⟩ := leafs_pack (l := l) (x := x) h
    exact ⟨.unk :: ls, r, by simp [packV, takeLf, h1], by simp [packV, h2], by simp [h3]⟩
  | n + 1, .g _ :: l, x, h => by simp [leafs] at h
/-- A struct out of its parts. -/
theorem grp_rel {F M F' M' : Nat → Prop} {μ μ' : Mu} {h h' : AHeap} {w w' : World} {n : Nat} {l : List SV} {x : HV l} {ls : List AL} {as : List A1} {vs : List Value} (hl : ls.length = n) (hf : leafs n l = true) (r : a1sRel P F M μ h w (.ag ls :: as) vs)
    (k : ∀ us, a1sRel P F M μ h w (ls.map .lf ++ as) us → a1sRel P F' M' μ' h' w' (packV l x) us) : a1sRel P F' M' μ' h' w' (grp n (packV l x)) vs := by
  obtain ⟨v, r', rfl, ⟨cs, rfl, r1⟩, r2⟩ := r
  have r3 := k _ (a1sRel_append (a1sRel_lf r1) r2)
  obtain ⟨ls', rr, h1, h2, h3⟩ := leafs_pack (x := x) hf
  rw [h2] at r3
  obtain ⟨r4, r5⟩ := a1sRel_split (by rw [alsRel_len r1]; omega) r3
  simp only [grp, h1]
  exact ⟨_, _, rfl, ⟨cs, rfl, r4⟩, r5⟩

/-- How the numbers of a shape stand for the objects that are there. -/
def MapOk (μ : Mu) (hf : AHeap) (m : Map) (M0 : Nat → Prop) (μ0 : Mu) (h0 : AHeap) : Prop := ∀ k a, m.get k = some a → M0 k ∧ μ0 k = a.bind μ ∧
  ∀ o0, h0 k = some o0 → match a with | some a => ∃ o, hf a = some o ∧ o.alike o0 | none => ∃ e t, o0 = .arr e t []

theorem unV_get {h : AHeap} : ∀ {l : List SV} {as : List A1} {m m' : Map} {x : HV l} {ids : List Nat}, unV h l as m = some (x, m', ids) → ∀ j u, m.get j = some u → m'.get j = some u
  | [], as, m, _, _, _, e, j, u, hj => by
    simp only [unV] at e
    split at e
    · injection e with e; injection e with _ e; injection e with e _; subst e; exact hj
    · cases e
  | .d t :: l, as, m, m', x, ids, e, j, u, hj => by
    simp only [unV] at e
    split at e
    · cases e
    · split at e
      · cases e
      · split at e
        · cases e
        · rename_i h2; injection e with e; injection e with _ e; injection e with e _; subst e; exact unV_get h2 j u hj
  | .p t :: l, as, m, m', x, ids, e, j, u, hj => by
    simp only [unV] at e
    split at e
    · cases e
    · split at e
      · cases e
      · split at e
        · cases e
        · rename_i h2; injection e with e; injection e with _ e; injection e with e _; subst e; exact unV_get h2 j u hj
  | .r id :: l, as, m, m', x, ids, e, j, u, hj => by
    simp only [unV] at e
    split at e
    · cases e
    · split at e
      · cases e
      · split at e
        · cases e
        · rename_i h2; exact unV_get e j u ((Map.add_get h2).2.1 j u hj)
  | .o t id :: l, as, m, m', x, ids, e, j, u, hj => by
    simp only [unV] at e
    split at e
    · cases e
    · split at e
      · cases e
      · split at e
        · cases e
        · rename_i h2; exact unV_get e j u ((Map.add_get h2).2.1 j u hj)
  | .x :: l, as, m, m', x, ids, e, j, u, hj => by
    simp only [unV] at e
    split at e
    · cases e
    · exact unV_get (l := l) e j u hj
  | .g n :: l, as, m, m', x, ids, e, j, u, hj => by
    simp only [unV] at e
    split at e
    · split at e
      · exact unV_get (l := l) e j u hj
      · cases e
    · cases e

theorem unV_rel {Own F M : Nat → Prop} {μ : Mu} {hf h : AHeap} {w : World} (H : HRel P Own F M μ hf w) {G : List Nat} (hG : ∀ id ∈ G, hf id = h id) {M0 : Nat → Prop} {μ0 : Mu} {h0 : AHeap} :
    ∀ {l : List SV} {as : List A1} {vs : List Value} {m m' : Map} {x : HV l} {ids : List Nat}, unV h l as m = some (x, m', ids) → a1sRel P F M μ hf w as vs → MapOk μ hf m' M0 μ0 h0 → (∀ id ∈ ids, id ∈ G) →
      a1sRel P (plus F μ G) M0 μ0 h0 w (packV l x) vs
  | [], as, vs, m, _, _, _, e, r, hm, hi => by
    simp only [unV] at e
    split at e
    · exact r
    · cases e
  | .d t :: l, as, vs, m, m', x, ids, e, r, hm, hi => by
    simp only [unV] at e
    split at e
    · cases e
    · split at e
      · cases e
      · rename_i x1 i1 hx1
        split at e
        · cases e
        · rename_i h2; injection e with e; injection e with e1 e; injection e with e2 e3; subst e1 e2 e3
          obtain ⟨v, r', e, r1, r2⟩ := r
          obtain ⟨ws, rd1, hv, _⟩ := a1To_rd H r1 hx1 (fun id hid => hG id (hi id (List.mem_append_left _ hid)))
          refine ⟨v, r', e, ?_, unV_rel H hG h2 r2 hm fun id hid => hi id (List.mem_append_right _ hid)⟩
          rw [hv]
          exact a1Of_rel (rd_mono rd1 (Ext.refl _ _) fun b hb => hb.imp (fun h => h) fun ⟨k, hk, hb⟩ => ⟨k, hi k (List.mem_append_left _ hk), hb⟩)
  | .p t :: l, as, vs, m, m', x, ids, e, r, hm, hi => by
    simp only [unV] at e
    split at e
    · cases e
    · split at e
      · cases e
      · rename_i x1 hx1
        split at e
        · cases e
        · rename_i h2; injection e with e; injection e with e1 e; injection e with e2 e3; subst e1 e2 e3
          obtain ⟨v, r', e, r1, r2⟩ := r
          refine ⟨v, r', e, ?_, unV_rel H hG h2 r2 hm hi⟩
          unfold asRp at hx1
          split at hx1
          · rename_i t' y
            obtain ⟨e4, hx1⟩ := castT_some hx1
            subst e4 hx1
            obtain ⟨b, o, cs, c1, c2, c3, c4⟩ := r1
            exact ⟨b, o, cs, c1, .inl c2, rd_mono c3 (Ext.refl _ _) plus_sub, c4⟩
          · cases hx1
  | .r id :: l, as, vs, m, m', x, ids, e, r, hm, hi => by
    simp only [unV] at e
    split at e
    · cases e
    · split at e
      · cases e
      · rename_i b hb
        split at e
        · cases e
        · rename_i h2
          obtain ⟨v, r', e4, r1, r2⟩ := r
          refine ⟨v, r', e4, ?_, unV_rel H hG e r2 hm hi⟩
          unfold asRef at hb
          split at hb
          · rename_i a
            injection hb with hb; subst hb
            obtain ⟨g1, g2, g3⟩ := hm id (some a) (unV_get e _ _ (Map.add_get h2).1)
            obtain ⟨_, r3, r4⟩ := r1
            refine ⟨g1, r3, fun o0 ho0 => ?_⟩
            obtain ⟨o, ho, _⟩ := g3 o0 ho0
            obtain ⟨b, hb, hv⟩ := r4 o ho
            exact ⟨b, g2.trans hb, hv⟩
          · cases hb
  | .o t id :: l, as, vs, m, m', x, ids, e, r, hm, hi => by
    simp only [unV] at e
    split at e
    · cases e
    · split at e
      · cases e
      · rename_i b hb
        split at e
        · cases e
        · rename_i h2
          obtain ⟨v, r', e4, r1, r2⟩ := r
          refine ⟨v, r', e4, ?_, unV_rel H hG e r2 hm hi⟩
          unfold asOwn at hb
          split at hb
          · rename_i t' a
            split at hb
            · rename_i e5; subst e5
              injection hb with hb; subst hb
              obtain ⟨g1, g2, g3⟩ := hm id (some a) (unV_get e _ _ (Map.add_get h2).1)
              obtain ⟨_, r3, r4⟩ := r1
              refine ⟨g1, r3, fun e0 l0 ho0 => ?_⟩
              obtain ⟨o, ho, hal⟩ := g3 _ ho0
              cases o with
              | cells _ => exact hal.elim
              | arr e2 t2 l2 =>
                obtain ⟨rfl, rfl, hlen⟩ := hal
                rw [← hlen]
                rcases r4 _ _ ho with ⟨q1, q2, q3⟩ | ⟨b, cap, q1, q2⟩
                · subst q2; exact .inl ⟨g2.trans q1, List.eq_nil_of_length_eq_zero hlen.symm, q3⟩
                · exact .inr ⟨b, cap, g2.trans q1, q2⟩
            · cases hb
          · injection hb with hb; subst hb
            obtain ⟨g1, g2, g3⟩ := hm id none (unV_get e _ _ (Map.add_get h2).1)
            have r1 : v = .slice none 0 0 := r1
            subst r1
            refine ⟨g1, rfl, fun e0 l0 ho0 => ?_⟩
            obtain ⟨e6, t6, h6⟩ := g3 _ ho0
            injection h6 with _ h7 h8
            subst h7
            exact .inl ⟨g2, eq_of_heq h8, rfl⟩
          · cases hb
  | .x :: l, as, vs, m, m', x, ids, e, r, hm, hi => by
    simp only [unV] at e
    split at e
    · cases e
    · obtain ⟨v, r', e4, _, r2⟩ := r
      exact ⟨v, r', e4, trivial, unV_rel (l := l) H hG e r2 hm hi⟩
  | .g n :: l, as, vs, m, m', x, ids, e, r, hm, hi => by
    simp only [unV] at e
    split at e
    · split at e
      · rename_i hc
        exact grp_rel (l := l) (x := x) hc.1 hc.2 r fun us ru => unV_rel (l := l) H hG e ru hm hi
      · cases e
    · cases e

/-- A variable's cells: each of one cell. -/
theorem packC_rel {F M : Nat → Prop} {μ : Mu} {hf h : AHeap} {w : World} : ∀ {l : List SV} {cs : List AL} {vs : List Value} {m m' : Map} {x : HV l} {ids : List Nat}, unV h l (cs.map .lf) m = some (x, m', ids) →
    a1sRel P F M μ hf w (packV l x) vs → alsRel P F M μ hf w (packC l x) vs
  | [], cs, vs, m, _, _, _, e, r => r
  | .d t :: l, cs, vs, m, m', x, ids, e, ⟨v, r', e4, r1, r2⟩ => by
    cases cs with
    | nil => simp [unV] at e
    | cons c cs =>
      simp only [unV, List.map_cons] at e
      split at e
      · cases e
      · rename_i x1 i1 hx1
        split at e
        · cases e
        · rename_i h2; injection e with e; injection e with e1 e; subst e1
          refine ⟨v, r', e4, ?_, packC_rel h2 r2⟩
          simp only [a1To] at hx1
          split at hx1
          · cases hx1
          · rename_i ht
            simp only [a1Of, ht] at r1; exact r1
  | .p t :: l, cs, vs, m, m', x, ids, e, ⟨v, r', e4, r1, r2⟩ => by
    cases cs with
    | nil => simp [unV] at e
    | cons c cs =>
      simp only [unV, List.map_cons] at e
      split at e
      · cases e
      · split at e
        · cases e
        · rename_i h2; injection e with e; injection e with e1 e; subst e1
          exact ⟨v, r', e4, r1, packC_rel h2 r2⟩
  | .r id :: l, cs, vs, m, m', x, ids, e, ⟨v, r', e4, r1, r2⟩ => by
    cases cs with
    | nil => simp [unV] at e
    | cons c cs =>
      simp only [unV, List.map_cons] at e
      split at e
      · cases e
      · split at e
        · cases e
        · exact ⟨v, r', e4, r1, packC_rel e r2⟩
  | .o t id :: l, cs, vs, m, m', x, ids, e, ⟨v, r', e4, r1, r2⟩ => by
    cases cs with
    | nil => simp [unV] at e
    | cons c cs =>
      simp only [unV, List.map_cons] at e
      split at e
      · cases e
      · split at e
        · cases e
        · exact ⟨v, r', e4, r1, packC_rel e r2⟩
  | .x :: l, cs, vs, m, m', x, ids, e, ⟨v, r', e4, r1, r2⟩ => by
    cases cs with
    | nil => simp [unV] at e
    | cons c cs =>
      simp only [unV, List.map_cons] at e
      exact ⟨v, r', e4, r1, packC_rel (l := l) e r2⟩
  | .g n :: l, cs, vs, m, m', x, ids, e, r => by
    cases cs with
    | nil => simp [unV] at e
    | cons c cs => simp [unV] at e

theorem unO_get {h : AHeap} : ∀ {l : List SO} {k : Nat} {m m' : Map} {y : HO l} {ids : List Nat}, unO h k l m = some (y, m', ids) → ∀ j u, m.get j = some u → m'.get j = some u
  | [], k, m, m', _, _, e, j, u, hj => by simp only [unO, Option.some.injEq, Prod.mk.injEq] at e; rw [← e.2.1]; exact hj
  | .cells l :: r, k, m, m', y, ids, e, j, u, hj => by
    simp only [unO] at e
    split at e
    · split at e
      · split at e
        · cases e
        · rename_i h1
          split at e
          · cases e
          · rename_i h2
            injection e with e; injection e with _ e; injection e with e _; subst e
            exact unO_get h2 j u (unV_get h1 j u hj)
      · cases e
    · cases e
  | .arr e0 t :: r, k, m, m', y, ids, e, j, u, hj => by
    simp only [unO] at e
    split at e
    · split at e
      · split at e
        · split at e
          · cases e
          · split at e
            · cases e
            · rename_i h2
              injection e with e; injection e with _ e; injection e with e _; subst e
              exact unO_get h2 j u hj
        · cases e
      · cases e
    · split at e
      · cases e
      · rename_i h2
        injection e with e; injection e with _ e; injection e with e _; subst e
        exact unO_get h2 j u hj
    · cases e
/-- Each object of a shape stands for one that is like it. -/
theorem unO_like {h : AHeap} : ∀ {l : List SO} {k : Nat} {m m' : Map} {y : HO l} {ids : List Nat}, unO h k l m = some (y, m', ids) → ∀ j o0, (packO l y)[j]? = some o0 →
    ∃ a, m'.get (k + j) = some a ∧ match a with | some a => ∃ o, h a = some o ∧ o.alike o0 | none => ∃ e t, o0 = .arr e t []
  | [], k, m, m', _, _, e, j, o0, hj => by simp [packO] at hj
  | .cells l :: r, k, m, m', y, ids, e, j, o0, hj => by
    simp only [unO] at e
    split at e
    · rename_i a hk
      split at e
      · rename_i cs hcs
        split at e
        · cases e
        · rename_i h1
          split at e
          · cases e
          · rename_i h2
            injection e with e; injection e with e1 e; injection e with e2 _; subst e1 e2
            cases j with
            | zero =>
              simp only [packO, List.getElem?_cons_zero, Option.some.injEq] at hj
              subst hj
              exact ⟨some a, unO_get h2 _ _ (unV_get h1 _ _ hk), _, hcs, trivial⟩
            | succ j =>
              obtain ⟨a', h3, h4⟩ := unO_like h2 j o0 (by simpa [packO] using hj)
              exact ⟨a', by rw [← h3]; congr 1; omega, h4⟩
      · cases e
    · cases e
  | .arr e0 t :: r, k, m, m', y, ids, e, j, o0, hj => by
    simp only [unO] at e
    split at e
    · rename_i a hk
      split at e
      · rename_i e1 t1 l1 hcs
        split at e
        · rename_i e5; subst e5
          split at e
          · cases e
          · rename_i x1 hx1
            split at e
            · cases e
            · rename_i h2
              injection e with e; injection e with e1 e; injection e with e2 _; subst e1 e2
              cases j with
              | zero =>
                simp only [packO, List.getElem?_cons_zero, Option.some.injEq] at hj
                subst hj
                obtain ⟨e6, hx1⟩ := castT_some hx1
                injection e6 with e6; subst e6
                subst hx1
                exact ⟨some a, unO_get h2 _ _ hk, _, hcs, rfl, rfl, rfl⟩
              | succ j =>
                obtain ⟨a', h3, h4⟩ := unO_like h2 j o0 (by simpa [packO] using hj)
                exact ⟨a', by rw [← h3]; congr 1; omega, h4⟩
        · cases e
      · cases e
    · rename_i hk
      split at e
      · cases e
      · rename_i h2
        injection e with e; injection e with e1 e; injection e with e2 _; subst e1 e2
        cases j with
        | zero =>
          simp only [packO, List.getElem?_cons_zero, Option.some.injEq] at hj
          subst hj
          exact ⟨none, unO_get h2 _ _ hk, _, _, rfl⟩
        | succ j =>
          obtain ⟨a', h3, h4⟩ := unO_like h2 j o0 (by simpa [packO] using hj)
          exact ⟨a', by rw [← h3]; congr 1; omega, h4⟩
    · cases e
theorem unO_rel {Own F M : Nat → Prop} {μ : Mu} {hf h : AHeap} {w : World} (H : HRel P Own F M μ hf w) {G : List Nat} (hG : ∀ id ∈ G, hf id = h id) {M0 : Nat → Prop} {μ0 : Mu} {h0 : AHeap} :
    ∀ {l : List SO} {k : Nat} {m m' : Map} {y : HO l} {ids : List Nat}, unO h k l m = some (y, m', ids) → MapOk μ hf m' M0 μ0 h0 → (∀ a ∈ m'.ids, hf a = h a) → (∀ id ∈ ids, id ∈ G) →
      ∀ j o0, (packO l y)[j]? = some o0 → objRel P (plus F μ G) M0 μ0 h0 w (k + j) o0
  | [], k, m, m', _, _, e, hm, hmi, hi, j, o0, hj => by simp [packO] at hj
  | .cells l :: r, k, m, m', y, ids, e, hm, hmi, hi, j, o0, hj => by
    simp only [unO] at e
    split at e
    · rename_i a hk
      split at e
      · rename_i cs hcs
        split at e
        · cases e
        · rename_i h1
          split at e
          · cases e
          · rename_i h2
            injection e with e; injection e with e1 e; injection e with e2 e3; subst e1 e2 e3
            cases j with
            | zero =>
              simp only [packO, List.getElem?_cons_zero, Option.some.injEq] at hj
              subst hj
              have hk' := unO_get h2 _ _ (unV_get h1 _ _ hk)
              obtain ⟨g1, g2, g3⟩ := hm k (some a) hk'
              have hcs' := (hmi a (Map.ids_mem hk')).trans hcs
              obtain ⟨b, vs, e, q1, q2, q3⟩ := H.obj a _ hcs'
              refine ⟨b, vs, e, by rw [Nat.add_zero]; exact g2.trans q1, q2, packC_rel h1 ?_⟩
              refine unV_rel H hG h1 (a1sRel_lf q3) ?_ fun id hid => hi id (List.mem_append_left _ hid)
              exact fun k' a' hka => hm k' a' (unO_get h2 _ _ hka)
            | succ j =>
              have := unO_rel H hG h2 hm hmi (fun id hid => hi id (List.mem_append_right _ hid)) j o0 (by simpa [packO] using hj)
              rwa [show k + 1 + j = k + (j + 1) by omega] at this
      · cases e
    · cases e
  | .arr e0 t :: r, k, m, m', y, ids, e, hm, hmi, hi, j, o0, hj => by
    simp only [unO] at e
    split at e
    · rename_i a hk
      split at e
      · rename_i e1 t1 l1 hcs
        split at e
        · rename_i e5; subst e5
          split at e
          · cases e
          · rename_i x1 hx1
            split at e
            · cases e
            · rename_i h2
              injection e with e; injection e with e1 e; injection e with e2 e3; subst e1 e2 e3
              cases j with
              | zero =>
                simp only [packO, List.getElem?_cons_zero, Option.some.injEq] at hj
                subst hj
                obtain ⟨e6, hx1⟩ := castT_some hx1
                injection e6 with e6; subst e6
                subst hx1
                have hk' := unO_get h2 _ _ hk
                obtain ⟨g1, g2, g3⟩ := hm k (some a) hk'
                have hcs' := (hmi a (Map.ids_mem hk')).trans hcs
                rw [Nat.add_zero]
                rcases H.obj a _ hcs' with ⟨q1, q2⟩ | ⟨b, cur, cs, q1, q2, q3, q4⟩
                · exact .inl ⟨g2.trans q1, q2⟩
                · exact .inr ⟨b, cur, cs, g2.trans q1, q2, q3.mono fun _ _ r => rd_mono r (Ext.refl _ _) plus_sub, q4⟩
              | succ j =>
                have := unO_rel H hG h2 hm hmi hi j o0 (by simpa [packO] using hj)
                rwa [show k + 1 + j = k + (j + 1) by omega] at this
        · cases e
      · cases e
    · rename_i hk
      split at e
      · cases e
      · rename_i h2
        injection e with e; injection e with e1 e; injection e with e2 e3; subst e1 e2 e3
        cases j with
        | zero =>
          simp only [packO, List.getElem?_cons_zero, Option.some.injEq] at hj
          subst hj
          obtain ⟨g1, g2, g3⟩ := hm k none (unO_get h2 _ _ hk)
          exact .inl ⟨by rw [Nat.add_zero]; exact g2, rfl⟩
        | succ j =>
          have := unO_rel H hG h2 hm hmi hi j o0 (by simpa [packO] using hj)
          rwa [show k + 1 + j = k + (j + 1) by omega] at this
    · cases e
end
end Go.CE
