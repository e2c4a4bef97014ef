/-
  A computed evaluator over the model's code, part D: constants, data out of abstract values and back, loads.
-/
import Derived.Test.YtlbfolepljpmbaaDoorCeC
namespace Go.CE
set_option linter.all false
set_option linter.unusedSectionVars false
open Go Go.RowKit
variable [Tab]

theorem rd_one {P : Program} : ∀ {t : Ty} {F : Nat → Prop} {w : World} {x : t.den} {vs : List Value}, rd P t F w x vs → ∀ v ∈ vs, v.oneCell' = true
  | .i _, _, _, _, _, h => by simp only [rd] at h; subst h; simp [Value.oneCell']
  | .b, _, _, _, _, h => by simp only [rd] at h; subst h; simp [Value.oneCell']
  | .s, _, _, _, _, h => by simp only [rd] at h; subst h; simp [Value.oneCell']
  | .e, _, _, _, _, h => by simp only [rd] at h; rcases h with ⟨_, rfl⟩ | ⟨_, _, _, rfl⟩ <;> simp [Value.oneCell']
  | .sl _, _, _, _, _, h => by simp only [rd] at h; obtain ⟨_, _, rfl, _⟩ := h; simp [Value.oneCell']
  | .pr x y, _, _, _, _, h => by
    simp only [rd] at h; obtain ⟨l1, l2, rfl, h1, h2⟩ := h
    intro v hv
    rcases List.mem_append.1 hv with hv | hv
    · exact rd_one h1 v hv
    · exact rd_one h2 v hv
  | .one t, _, _, _, _, h => by simp only [rd] at h; exact rd_one (t := t) h
  | .f1 _ _, _, _, _, _, h => by simp only [rd] at h; obtain ⟨_, _, rfl, _⟩ := h; simp [Value.oneCell']
  | .f2 _ _ _, _, _, _, _, h => by simp only [rd] at h; obtain ⟨_, _, rfl, _⟩ := h; simp [Value.oneCell']

theorem RdAll.drop {A : Type} {R : A → List Value → Prop} {n : Nat} (h : ∀ x vs, R x vs → vs.length = n) : ∀ (k : Nat) {l : List A} {vs : List Value}, RdAll R l vs → RdAll R (l.drop k) (vs.drop (k * n))
  | 0, _, _, r => by simpa using r
  | k + 1, [], _, r => by cases r; simp [RdAll]
  | k + 1, x :: l, _, ⟨a, r, e, h1, h2⟩ => by
    subst e
    have := h2.drop h k
    rw [List.drop_succ_cons, Nat.add_mul, Nat.one_mul, Nat.add_comm, ← h _ _ h1, ← List.drop_drop, List.drop_left, h _ _ h1]; exact this
theorem RdAll.take {A : Type} {R : A → List Value → Prop} {n : Nat} (h : ∀ x vs, R x vs → vs.length = n) : ∀ (k : Nat) {l : List A} {vs : List Value}, RdAll R l vs → RdAll R (l.take k) (vs.take (k * n))
  | 0, _, _, r => by simp [RdAll]
  | k + 1, [], _, r => by cases r; simp [RdAll]
  | k + 1, x :: l, _, ⟨a, r, e, h1, h2⟩ => by
    subst e
    refine ⟨a, r.take (k * n), ?_, h1, h2.take h k⟩
    rw [Nat.add_mul, Nat.one_mul, Nat.add_comm (k * n) n, ← h _ _ h1, List.take_length_add_append]

section
variable {P : Program} {Own F M : Nat → Prop} {μ : Mu} {h : AHeap} {w : World}

theorem constAL_rel : ∀ (v : Value), alRel P F M μ h w (constAL v) v
  | .int _ _ => by simp [constAL, alRel, rd]
  | .bool _ => by simp [constAL, alRel, rd]
  | .string _ => by simp [constAL, alRel, rd]
  | .slice none 0 0 => rfl
  | .slice none 0 (_ + 1) => trivial
  | .slice none (_ + 1) _ => trivial
  | .slice (some _) _ _ => trivial
  | .nilIface => by simp [constAL, alRel, rd]
  | .float _ _ => trivial
  | .complex _ _ _ => trivial
  | .pointer _ => trivial
  | .map _ => trivial
  | .chan _ => trivial
  | .func _ _ _ => trivial
  | .nilFunc => trivial
  | .iface _ _ => trivial
  | .agg _ => trivial
  | .tuple _ => trivial
theorem constALs_rel : ∀ (l : List Value), alsRel P F M μ h w (l.map constAL) l
  | [] => rfl
  | v :: l => ⟨v, l, rfl, constAL_rel v, constALs_rel l⟩
theorem constA1_rel (v : Value) : a1Rel P F M μ h w (constA1 v) v := by
  have h1 := constAL_rel (P := P) (F := F) (M := M) (μ := μ) (h := h) (w := w) v
  cases v <;> first | exact ⟨_, rfl, constALs_rel _⟩ | exact h1
theorem constLeaves_rel (v : Value) : alsRel P F M μ h w (constA1 v).leaves v.cells.toList := by
  have h1 := constAL_rel (P := P) (F := F) (M := M) (μ := μ) (h := h) (w := w) v
  cases v <;> first | exact constALs_rel _ | exact ⟨_, [], rfl, h1, rfl⟩
theorem alsRel_len : ∀ {l : List AL} {vs : List Value}, alsRel P F M μ h w l vs → vs.length = l.length
  | [], _, r => by cases r; rfl
  | _ :: _, _, ⟨_, _, e, _, r⟩ => by rw [e, List.length_cons, List.length_cons, alsRel_len r]
theorem alsRel_append : ∀ {l l' : List AL} {vs vs' : List Value}, alsRel P F M μ h w l vs → alsRel P F M μ h w l' vs' → alsRel P F M μ h w (l ++ l') (vs ++ vs')
  | [], _, _, _, r, r' => by cases r; exact r'
  | _ :: _, _, _, _, ⟨v, r, e, h1, h2⟩, r' => ⟨v, r ++ _, by rw [e]; rfl, h1, alsRel_append h2 r'⟩
theorem alsRel_drop : ∀ (n : Nat) {l : List AL} {vs : List Value}, alsRel P F M μ h w l vs → alsRel P F M μ h w (l.drop n) (vs.drop n)
  | 0, _, _, r => r
  | n + 1, [], _, r => by cases r; rfl
  | n + 1, _ :: _, _, ⟨_, _, e, _, r⟩ => by subst e; exact alsRel_drop n r
theorem alsRel_take : ∀ (n : Nat) {l : List AL} {vs : List Value}, alsRel P F M μ h w l vs → alsRel P F M μ h w (l.take n) (vs.take n)
  | 0, _, _, _ => rfl
  | n + 1, [], _, r => by cases r; rfl
  | n + 1, _ :: _, _, ⟨v, r, e, h1, h2⟩ => by subst e; exact ⟨v, _, rfl, h1, alsRel_take n h2⟩
theorem alsRel_get : ∀ {l : List AL} {vs : List Value}, alsRel P F M μ h w l vs → ∀ (i : Nat) (a : AL), l[i]? = some a → ∃ v, vs[i]? = some v ∧ alRel P F M μ h w a v
  | [], _, _, i, a, ha => by simp at ha
  | _ :: _, _, ⟨v, r, e, h1, h2⟩, 0, a, ha => by subst e; simp at ha; subst ha; exact ⟨v, rfl, h1⟩
  | _ :: _, _, ⟨v, r, e, h1, h2⟩, i + 1, a, ha => by subst e; exact alsRel_get h2 i a (by simpa using ha)
theorem leavesOf_rel : ∀ {t : Ty} {x : t.den} {vs : List Value}, rd P t F w x vs → alsRel P F M μ h w (leavesOf t x) vs
  | .pr x y, p, _, r => by
    simp only [rd] at r; obtain ⟨l1, l2, rfl, h1, h2⟩ := r
    exact alsRel_append (leavesOf_rel h1) (leavesOf_rel h2)
  | .one t, x, _, r => by simp only [rd] at r; exact leavesOf_rel (t := t) r
  | .i _, _, _, r => by have := rd_len r; obtain ⟨v, rfl⟩ := List.length_eq_one_iff.1 this; exact ⟨v, [], rfl, r, rfl⟩
  | .b, _, _, r => by have := rd_len r; obtain ⟨v, rfl⟩ := List.length_eq_one_iff.1 this; exact ⟨v, [], rfl, r, rfl⟩
  | .s, _, _, r => by have := rd_len r; obtain ⟨v, rfl⟩ := List.length_eq_one_iff.1 this; exact ⟨v, [], rfl, r, rfl⟩
  | .e, _, _, r => by have := rd_len r; obtain ⟨v, rfl⟩ := List.length_eq_one_iff.1 this; exact ⟨v, [], rfl, r, rfl⟩
  | .sl _, _, _, r => by have := rd_len r; obtain ⟨v, rfl⟩ := List.length_eq_one_iff.1 this; exact ⟨v, [], rfl, r, rfl⟩
  | .f1 _ _, _, _, r => by have := rd_len r; obtain ⟨v, rfl⟩ := List.length_eq_one_iff.1 this; exact ⟨v, [], rfl, r, rfl⟩
  | .f2 _ _ _, _, _, r => by have := rd_len r; obtain ⟨v, rfl⟩ := List.length_eq_one_iff.1 this; exact ⟨v, [], rfl, r, rfl⟩
theorem sz_leaf {t : Ty} (ht : t.agg = false) : t.sz = 1 := by cases t <;> simp [Ty.agg] at ht <;> rfl
theorem rd_leaf {t : Ty} {x : t.den} {vs : List Value} (ht : t.agg = false) (r : rd P t F w x vs) : ∃ v, vs = [v] := List.length_eq_one_iff.1 ((rd_len r).trans (sz_leaf ht))
theorem a1Of_rel {t : Ty} {x : t.den} {vs : List Value} (r : rd P t F w x vs) : a1Rel P F M μ h w (a1Of t x) (asVal t vs) := by
  unfold a1Of asVal
  cases ht : t.agg
  · obtain ⟨v, rfl⟩ := rd_leaf ht r
    exact r
  · exact ⟨_, rfl, by simpa using leavesOf_rel r⟩

/-- The frozen blocks, and those of some objects of our own. -/
def plus (F : Nat → Prop) (μ : Mu) (ids : List Nat) : Nat → Prop := fun b => F b ∨ ∃ id ∈ ids, μ id = some b
theorem plus_sub {ids : List Nat} : ∀ b, F b → plus F μ ids b := fun _ h => .inl h
theorem plus_app {i j : List Nat} : (∀ b, plus F μ i b → plus F μ (i ++ j) b) ∧ (∀ b, plus F μ j b → plus F μ (i ++ j) b) :=
  ⟨fun _ h => h.imp id fun ⟨k, hk, e⟩ => ⟨k, List.mem_append_left _ hk, e⟩, fun _ h => h.imp id fun ⟨k, hk, e⟩ => ⟨k, List.mem_append_right _ hk, e⟩⟩

theorem castT_some {t t' : Ty} {x : t.den} {y : t'.den} (hc : castT t t' x = some y) : ∃ e : t = t', e ▸ x = y := by
  unfold castT at hc
  split at hc
  · rename_i e; exact ⟨e, by simpa using hc⟩
  · cases hc
theorem cellsAt_row {b : Nat} {vs : Array Value} {e : TypeId} {fz : Nat × Nat} (hb : w.heap[b]? = some (.cells vs e fz)) : cellsAt w b 0 vs.toList := by
  intro j hj
  simp only [Nat.zero_add]
  rw [cell_of_row w b j vs e fz hb]
  simp at hj
  simp [hj]
theorem cellsAt_take {b o n : Nat} {cs : List Value} (hc : cellsAt w b o cs) : cellsAt w b o (cs.take n) := by
  intro j hj
  have hj' : j < cs.length := by simp at hj; omega
  rw [hc j hj']; simp
theorem cellsAt_drop {b o n : Nat} {cs : List Value} (hc : cellsAt w b o cs) : cellsAt w b (o + n) (cs.drop n) := by
  intro j hj
  have hj' : n + j < cs.length := by simp at hj; omega
  have := hc (n + j) hj'
  rw [Nat.add_assoc, this]; simp
theorem cellsAt_congr {b o o' : Nat} {cs : List Value} (hc : cellsAt w b o cs) (e : o = o') : cellsAt w b o' cs := e ▸ hc

theorem add_lit (b o n : Nat) : (⟨b, o, none⟩ : Addr).add n = ⟨b, o + n, none⟩ := by unfold Addr.add; split <;> simp_all
theorem cutL_rd {F : Nat → Prop} {w : World} {t : Ty} {l : List t.den} {ad : Option Addr} {cap sz : Nat} {i j : Int} (hsz : sz = t.sz) (r : rd P (.sl t) F w l [.slice ad l.length cap]) (h0 : 0 ≤ i) (h1 : i ≤ j) (h2 : j ≤ (l.length : Int)) :
    rd P (.sl t) F w (cutL l i j) [sliced ad i.toNat j.toNat cap sz] := by
  obtain ⟨ad', cap', e, hc, r⟩ := r
  simp only [List.cons.injEq, Value.slice.injEq, and_true] at e
  obtain ⟨rfl, -, rfl⟩ := e
  have hlen : (cutL l i j).length = j.toNat - i.toNat := by simp [cutL]; omega
  refine ⟨_, _, by rw [hlen]; rfl, by omega, ?_⟩
  by_cases hem : cutL l i j = []
  · exact .inl hem
  · right
    rcases r with rfl | ⟨b, o, cs, rfl, hb, hr, hcs⟩
    · simp [cutL] at hem
    · have hne : ¬ (cap = i.toNat) := fun e => hem (List.eq_nil_of_length_eq_zero (by omega))
      subst hsz
      refine ⟨b, o + i.toNat * t.sz, _, ?_, hb, (hr.drop (fun _ _ r => rd_len r) i.toNat).take (fun _ _ r => rd_len r) (j.toNat - i.toNat), cellsAt_take (cellsAt_drop hcs)⟩
      simp [hne, add_lit]

theorem leafTo_rd {hh : AHeap} (H : HRel P Own F M μ h w) {t : Ty} {a : AL} {v : Value} {x : t.den} {ids : List Nat}
    (r : alRel P F M μ h w a v) (hl : leafTo hh t a = some (x, ids)) (hT : ∀ id ∈ ids, h id = hh id) : rd P t (plus F μ ids) w x [v] := by
  cases a with
  | dat t' y =>
    simp only [leafTo, Option.map_eq_some_iff] at hl
    obtain ⟨z, hz, he⟩ := hl
    obtain ⟨rfl, rfl⟩ := castT_some hz
    injection he with e1 e2; subst e1 e2
    exact rd_mono r (Ext.refl _ _) plus_sub
  | nils =>
    cases t <;> simp [leafTo] at hl
    obtain ⟨rfl, rfl⟩ := hl
    simp only [alRel] at r; subst r
    exact ⟨none, 0, rfl, Nat.le_refl _, .inl rfl⟩
  | sl t' id =>
    simp only [leafTo] at hl
    split at hl
    · rename_i e t2 l hid
      split at hl
      · rename_i e2; subst e2
        simp only [Option.map_eq_some_iff] at hl
        obtain ⟨z, hz, he⟩ := hl
        obtain ⟨rfl, rfl⟩ := castT_some hz
        injection he with e1 e2; subst e1 e2
        have hid' := (hT id (by simp)).trans hid
        rcases r.2.2 _ _ hid' with ⟨h1, h2, rfl⟩ | ⟨b, cap, h1, rfl, h3, _, _⟩
        · subst h2; exact ⟨none, 0, rfl, Nat.le_refl _, .inl rfl⟩
        · refine ⟨_, cap, rfl, h3, ?_⟩
          rcases H.obj id _ hid' with ⟨h4, h5⟩ | ⟨b', cur, cs, h4, h5, h6, h7⟩
          · exact .inl h5
          · rw [h1] at h4; injection h4 with h4; subst h4
            exact .inr ⟨b, 0, cs, rfl, .inr ⟨id, by simp, h1⟩, h6.mono fun _ _ r => rd_mono r (Ext.refl _ _) plus_sub, h7 ▸ cellsAt_take (cellsAt_row h5)⟩
      · cases hl
    · cases hl
  | unk => simp [leafTo] at hl
  | ref _ _ => simp [leafTo] at hl
  | elt _ _ _ _ => simp [leafTo] at hl
  | rp _ _ _ => simp [leafTo] at hl
  | anyb => simp [leafTo] at hl
  | vw t' id i j =>
    simp only [leafTo] at hl
    split at hl
    · rename_i e t2 l hid
      split at hl
      · rename_i e2; subst e2
        simp only [Option.map_eq_some_iff] at hl
        obtain ⟨z, hz, he⟩ := hl
        obtain ⟨rfl, rfl⟩ := castT_some hz
        injection he with e1 e2; subst e1 e2
        have hid' := (hT id (by simp)).trans hid
        obtain ⟨g1, g2, g3, ad, cap, rfl, g4⟩ := r.2.2 _ _ hid'
        refine cutL_rd rfl ?_ g1 g2 g3
        rcases g4 with ⟨h1, h2, rfl, rfl⟩ | ⟨b, h1, rfl, h3, _, _⟩
        · subst h2; exact ⟨none, 0, rfl, Nat.le_refl _, .inl rfl⟩
        · refine ⟨_, cap, rfl, h3, ?_⟩
          rcases H.obj id _ hid' with ⟨h4, h5⟩ | ⟨b', cur, cs, h4, h5, h6, h7⟩
          · exact .inl h5
          · rw [h1] at h4; injection h4 with h4; subst h4
            exact .inr ⟨b, 0, cs, rfl, .inr ⟨id, by simp, h1⟩, h6.mono fun _ _ r => rd_mono r (Ext.refl _ _) plus_sub, h7 ▸ cellsAt_take (cellsAt_row h5)⟩
      · cases hl
    · cases hl

theorem gather_leaf {hh : AHeap} (H : HRel P Own F M μ h w) {t : Ty} (_ht : t.agg = false) {l : List AL} {vs : List Value} {x : t.den} {ids : List Nat} {rest : List AL}
    (r : alsRel P F M μ h w l vs) (hg : (match l with | [] => none | a :: r => (leafTo hh t a).map fun p => (p.1, p.2, r)) = some (x, ids, rest)) (hT : ∀ id ∈ ids, h id = hh id) :
    ∃ v1 v2, vs = v1 ++ v2 ∧ rd P t (plus F μ ids) w x v1 ∧ alsRel P F M μ h w rest v2 := by
  cases l with
  | nil => cases hg
  | cons a l =>
    simp only [Option.map_eq_some_iff] at hg
    obtain ⟨⟨y, j⟩, hy, he⟩ := hg
    injection he with e1 he; injection he with e2 e3
    subst e1 e2 e3
    obtain ⟨v, r', e, h1, h2⟩ := r
    exact ⟨[v], r', e, leafTo_rd H h1 hy hT, h2⟩
theorem gather_rd {hh : AHeap} (H : HRel P Own F M μ h w) : ∀ {t : Ty} {l : List AL} {vs : List Value} {x : t.den} {ids : List Nat} {rest : List AL},
    alsRel P F M μ h w l vs → gather hh t l = some (x, ids, rest) → (∀ id ∈ ids, h id = hh id) → ∃ v1 v2, vs = v1 ++ v2 ∧ rd P t (plus F μ ids) w x v1 ∧ alsRel P F M μ h w rest v2
  | .pr t1 t2, l, vs, x, ids, rest, r, hg, hT => by
    simp only [gather] at hg
    split at hg
    · cases hg
    · rename_i a i1 l1 hg1
      split at hg
      · cases hg
      · rename_i c i2 l2 hg2
        injection hg with hg; injection hg with e1 hg; injection hg with e2 e3
        subst e1 e2 e3
        obtain ⟨v1, v2, e, r1, r2⟩ := gather_rd H r hg1 (fun id hi => hT id (List.mem_append_left _ hi))
        obtain ⟨v3, v4, e', r3, r4⟩ := gather_rd H r2 hg2 (fun id hi => hT id (List.mem_append_right _ hi))
        exact ⟨v1 ++ v3, v4, by rw [e, e', List.append_assoc], ⟨v1, v3, rfl, rd_mono r1 (Ext.refl _ _) plus_app.1, rd_mono r3 (Ext.refl _ _) plus_app.2⟩, r4⟩
  | .one t, l, vs, x, ids, rest, r, hg, hT => gather_rd (t := t) H r (by cases l <;> exact hg) hT
  | .i k, l, _, _, _, _, r, hg, hT => gather_leaf (t := .i k) H rfl r (by cases l <;> exact hg) hT
  | .b, l, _, _, _, _, r, hg, hT => gather_leaf (t := .b) H rfl r (by cases l <;> exact hg) hT
  | .s, l, _, _, _, _, r, hg, hT => gather_leaf (t := .s) H rfl r (by cases l <;> exact hg) hT
  | .e, l, _, _, _, _, r, hg, hT => gather_leaf (t := .e) H rfl r (by cases l <;> exact hg) hT
  | .sl t, l, _, _, _, _, r, hg, hT => gather_leaf (t := .sl t) H rfl r (by cases l <;> exact hg) hT
  | .f1 a c, l, _, _, _, _, r, hg, hT => gather_leaf (t := .f1 a c) H rfl r (by cases l <;> exact hg) hT
  | .f2 a c d, l, _, _, _, _, r, hg, hT => gather_leaf (t := .f2 a c d) H rfl r (by cases l <;> exact hg) hT
theorem a1To_rd {hh : AHeap} (H : HRel P Own F M μ h w) {t : Ty} {a : A1} {v : Value} {x : t.den} {ids : List Nat}
    (r : a1Rel P F M μ h w a v) (hl : a1To hh t a = some (x, ids)) (hT : ∀ id ∈ ids, h id = hh id) : ∃ vs, rd P t (plus F μ ids) w x vs ∧ v = asVal t vs ∧ vs = v.cells.toList := by
  cases a with
  | lf a =>
    simp only [a1To] at hl
    split at hl
    · cases hl
    · rename_i ht
      have := leafTo_rd H r hl hT
      refine ⟨[v], this, by simp [asVal, ht], ?_⟩
      have h1 := rd_one this v (by simp)
      cases v <;> first | rfl | simp [Value.oneCell'] at h1
  | ag l =>
    simp only [a1To] at hl
    split at hl
    · rename_i ht
      split at hl
      · rename_i y j hg
        injection hl with hl; injection hl with e1 e2; subst e1 e2
        obtain ⟨cs, rfl, r⟩ := r
        obtain ⟨v1, v2, e, r1, r2⟩ := gather_rd H r hg hT
        cases r2
        simp at e
        exact ⟨v1, r1, by simp [asVal, ht, ← e], by simp [Value.cells, e]⟩
      · cases hl
    · cases hl
end
end Go.CE
