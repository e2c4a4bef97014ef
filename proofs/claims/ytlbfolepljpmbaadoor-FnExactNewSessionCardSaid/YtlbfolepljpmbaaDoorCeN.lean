/-
  A computed evaluator over the model's code, part N: a call of a function that is described.
-/
import Derived.Test.YtlbfolepljpmbaaDoorCeM
namespace Go.CE
set_option linter.all false
set_option linter.unusedSectionVars false
open Go Go.RowKit
variable [Tab]
set_option linter.unusedVariables false
set_option linter.unusedSimpArgs false

/-- What a packed value may be; with 'fl': no memory behind it but objects. -/
def okAL (fl : Bool) : AL → Bool
  | .unk => true
  | .nils => false
  | .dat t _ => !fl || t.scal
  | .ref _ _ => true
  | .sl _ _ => true
  | .elt _ _ _ _ => false
  | .rp _ _ _ => !fl
  | .anyb => false
  | .vw _ _ _ _ => false
theorem leavesOf_ok {fl : Bool} : ∀ {t : Ty} {x : t.den}, (fl = true → t.scal = true) → (leavesOf t x).all (okAL fl) = true
  | .pr t1 t2, x, h => by
    simp only [leavesOf, List.all_append, Bool.and_eq_true]
    exact ⟨leavesOf_ok fun hf => by have := h hf; simp only [Ty.scal, Bool.and_eq_true] at this; exact this.1, leavesOf_ok fun hf => by have := h hf; simp only [Ty.scal, Bool.and_eq_true] at this; exact this.2⟩
  | .one t, x, h => leavesOf_ok (t := t) (x := x) fun hf => h hf
  | .i _, x, h => by cases fl <;> simp [leavesOf, okAL, h]
  | .b, x, h => by cases fl <;> simp [leavesOf, okAL, h]
  | .s, x, h => by cases fl <;> simp [leavesOf, okAL, h]
  | .e, x, h => by cases fl <;> simp [leavesOf, okAL, h]
  | .sl _, x, h => by cases fl <;> simp [leavesOf, okAL, h]
  | .f1 _ _, x, h => by cases fl <;> simp [leavesOf, okAL, h]
  | .f2 _ _ _, x, h => by cases fl <;> simp [leavesOf, okAL, h]
theorem packV_ok {fl : Bool} : ∀ {l : List SV} {x : HV l}, (fl = true → l.all flatSV = true) → (packV l x).all (fun a => a.leaves.all (okAL fl)) = true
  | [], _, _ => rfl
  | .d t :: l, x, h => by
    have h1 : fl = true → t.scal = true := fun hf => by have := h hf; simp only [List.all_cons, flatSV, Bool.and_eq_true] at this; exact this.1
    have h2 : fl = true → l.all flatSV = true := fun hf => by have := h hf; simp only [List.all_cons, Bool.and_eq_true] at this; exact this.2
    simp only [packV, List.all_cons, packV_ok h2, Bool.and_true]
    unfold a1Of
    split
    · exact leavesOf_ok h1
    · cases hf : fl
      · simp [A1.leaves, okAL]
      · simp [A1.leaves, okAL, h1 hf]
  | .p t :: l, x, h => by
    have h2 : fl = true → l.all flatSV = true := fun hf => by have := h hf; simp [flatSV] at this
    cases hf : fl
    · subst hf; simp only [packV, List.all_cons, packV_ok h2, Bool.and_true]; rfl
    · have := h hf; simp [flatSV] at this
  | .r _ :: l, x, h => by
    have h2 : fl = true → l.all flatSV = true := fun hf => by have := h hf; simp only [List.all_cons, Bool.and_eq_true] at this; exact this.2
    simp only [packV, List.all_cons, packV_ok (l := l) h2, Bool.and_true]; rfl
  | .o _ _ :: l, x, h => by
    have h2 : fl = true → l.all flatSV = true := fun hf => by have := h hf; simp only [List.all_cons, Bool.and_eq_true] at this; exact this.2
    simp only [packV, List.all_cons, packV_ok (l := l) h2, Bool.and_true]; rfl
  | .x :: l, x, h => by
    have h2 : fl = true → l.all flatSV = true := fun hf => by have := h hf; simp only [List.all_cons, Bool.and_eq_true] at this; exact this.2
    simp only [packV, List.all_cons, packV_ok (l := l) h2, Bool.and_true]; rfl
  | .g n :: l, x, h => by
    have h2 : fl = true → l.all flatSV = true := fun hf => by have := h hf; simp only [List.all_cons, Bool.and_eq_true] at this; exact this.2
    have key : ∀ (n : Nat) (as : List A1), as.all (fun a => a.leaves.all (okAL fl)) = true → ∀ ls r, takeLf n as = some (ls, r) → ls.all (okAL fl) = true ∧ r.all (fun a => a.leaves.all (okAL fl)) = true := by
      intro n
      induction n with
      | zero => intro as ha ls r e; simp [takeLf] at e; obtain ⟨rfl, rfl⟩ := e; exact ⟨rfl, ha⟩
      | succ n ih =>
        intro as ha ls r e
        cases as with
        | nil => simp [takeLf] at e
        | cons a as =>
          cases a with
          | ag l => simp [takeLf] at e
          | lf a =>
            simp only [takeLf] at e
            obtain ⟨p, hp, e⟩ := Option.map_eq_some_iff.1 e
            injection e with e1 e2; subst e1 e2
            simp only [List.all_cons, Bool.and_eq_true] at ha ⊢
            obtain ⟨h1, h2⟩ := ih as ha.2 _ _ hp
            exact ⟨⟨by simpa [A1.leaves] using ha.1, h1⟩, h2⟩
    have := packV_ok (l := l) (x := x) h2
    simp only [packV, grp]
    split
    · rename_i ls r e
      obtain ⟨h3, h4⟩ := key _ _ this _ _ e
      simp only [List.all_cons, Bool.and_eq_true]
      exact ⟨h3, h4⟩
    · rfl
theorem packC_ok {fl : Bool} : ∀ {l : List SV} {x : HV l}, (fl = true → l.all flatSV = true) → (packC l x).all (okAL fl) = true
  | [], _, _ => rfl
  | .d t :: l, x, h => by
    have h1 : fl = true → t.scal = true := fun hf => by have := h hf; simp only [List.all_cons, flatSV, Bool.and_eq_true] at this; exact this.1
    have h2 : fl = true → l.all flatSV = true := fun hf => by have := h hf; simp only [List.all_cons, Bool.and_eq_true] at this; exact this.2
    simp only [packC, List.all_cons, packC_ok h2, Bool.and_true]
    cases hf : fl
    · simp [okAL]
    · simp [okAL, h1 hf]
  | .p t :: l, x, h => by
    have h2 : fl = true → l.all flatSV = true := fun hf => by have := h hf; simp [flatSV] at this
    cases hf : fl
    · subst hf; simp only [packC, List.all_cons, packC_ok h2, Bool.and_true]; rfl
    · have := h hf; simp [flatSV] at this
  | .r _ :: l, x, h => by
    have h2 : fl = true → l.all flatSV = true := fun hf => by have := h hf; simp only [List.all_cons, Bool.and_eq_true] at this; exact this.2
    simp only [packC, List.all_cons, packC_ok (l := l) h2, Bool.and_true]; rfl
  | .o _ _ :: l, x, h => by
    have h2 : fl = true → l.all flatSV = true := fun hf => by have := h hf; simp only [List.all_cons, Bool.and_eq_true] at this; exact this.2
    simp only [packC, List.all_cons, packC_ok (l := l) h2, Bool.and_true]; rfl
  | .x :: l, x, h => by
    have h2 : fl = true → l.all flatSV = true := fun hf => by have := h hf; simp only [List.all_cons, Bool.and_eq_true] at this; exact this.2
    simp only [packC, List.all_cons, packC_ok (l := l) h2, Bool.and_true]; rfl
  | .g n :: l, x, h => by
    have h2 : fl = true → l.all flatSV = true := fun hf => by have := h hf; simp only [List.all_cons, Bool.and_eq_true] at this; exact this.2
    simp only [packC]; exact packC_ok (l := l) h2

def okObj (fl : Bool) : AObj → Bool
  | .cells l => l.all (okAL fl)
  | .arr _ t _ => !fl || t.scal
theorem packO_ok {fl : Bool} : ∀ {l : List SO} {y : HO l}, (fl = true → l.all flatSO = true) → ∀ (j : Nat) (o : AObj), (packO l y)[j]? = some o → okObj fl o = true
  | [], _, _, j, o, hj => by simp [packO] at hj
  | .cells l :: r, y, h, j, o, hj => by
    cases j with
    | zero =>
      simp only [packO, List.getElem?_cons_zero, Option.some.injEq] at hj
      subst hj
      exact packC_ok fun hf => by have := h hf; simp only [List.all_cons, Bool.and_eq_true, flatSO] at this; exact this.1
    | succ j => exact packO_ok (l := r) (y := y.2) (fun hf => by have := h hf; simp only [List.all_cons, Bool.and_eq_true] at this; exact this.2) j o (by simpa [packO] using hj)
  | .arr e t :: r, y, h, j, o, hj => by
    cases j with
    | zero =>
      simp only [packO, List.getElem?_cons_zero, Option.some.injEq] at hj
      subst hj
      cases hf : fl
      · rfl
      · have := h hf; simp only [List.all_cons, Bool.and_eq_true, flatSO] at this; simp [okObj, this.1]
    | succ j => exact packO_ok (l := r) (y := y.2) (fun hf => by have := h hf; simp only [List.all_cons, Bool.and_eq_true] at this; exact this.2) j o (by simpa [packO] using hj)

/-- From one numbering of objects to another one. -/
structure Ren (ρ : Nat → Nat) (F F' M M' : Nat → Prop) (μ μ' : Mu) (h h' : AHeap) (fl : Bool) : Prop where
  sub : fl = false → ∀ b, F b → F' b
  ids : ∀ id, M id → M' (ρ id) ∧ μ' (ρ id) = μ id ∧ ∀ o', h' (ρ id) = some o' → ∃ o, h id = some o ∧ o' = renO ρ o
section
variable {P : Program} {w : World}
theorem ren_al {ρ : Nat → Nat} {F F' M M' : Nat → Prop} {μ μ' : Mu} {h h' : AHeap} {fl : Bool} (k : Ren ρ F F' M M' μ μ' h h' fl) : ∀ {a : AL} {v : Value}, okAL fl a = true → alRel P F M μ h w a v → alRel P F' M' μ' h' w (renL ρ a) v
  | .unk, _, _, _ => trivial
  | .nils, _, hk, _ => by cases hk
  | .dat t x, v, hk, r => by
    cases hf : fl
    · exact rd_mono r (Ext.refl _ _) (k.sub hf)
    · subst hf; exact rd_scal (by simpa [okAL] using hk) r
  | .ref id off, v, _, ⟨hm, h1, r⟩ => by
    obtain ⟨g1, g2, g3⟩ := k.ids id hm
    refine ⟨g1, h1, fun o' ho' => ?_⟩
    obtain ⟨o, ho, _⟩ := g3 o' ho'
    rw [g2]; exact r o ho
  | .sl t id, v, _, ⟨hm, h1, r⟩ => by
    obtain ⟨g1, g2, g3⟩ := k.ids id hm
    refine ⟨g1, h1, fun e l hl => ?_⟩
    obtain ⟨o, ho, e2⟩ := g3 _ hl
    cases o with
    | cells _ => simp [renO] at e2
    | arr e' t' l' =>
      simp only [renO, AObj.arr.injEq] at e2
      obtain ⟨rfl, rfl, e3⟩ := e2
      cases e3
      rw [g2]; exact r _ _ ho
  | .elt _ _ _ _, _, hk, _ => by cases hk
  | .vw _ _ _ _, _, hk, _ => by cases hk
  | .rp t x off, v, hk, ⟨b, o, cs, h1, h2, h3, h4⟩ => by
    have hf : fl = false := by cases fl; rfl; cases hk
    exact ⟨b, o, cs, h1, k.sub hf _ h2, rd_mono h3 (Ext.refl _ _) (k.sub hf), h4⟩
theorem ren_als {ρ : Nat → Nat} {F F' M M' : Nat → Prop} {μ μ' : Mu} {h h' : AHeap} {fl : Bool} (k : Ren ρ F F' M M' μ μ' h h' fl) : ∀ {l : List AL} {vs : List Value}, l.all (okAL fl) = true → alsRel P F M μ h w l vs → alsRel P F' M' μ' h' w (l.map (renL ρ)) vs
  | [], _, _, r => r
  | _ :: _, _, hk, ⟨v, r, e, h1, h2⟩ => by
    simp only [List.all_cons, Bool.and_eq_true] at hk
    exact ⟨v, r, e, ren_al k hk.1 h1, ren_als k hk.2 h2⟩
theorem ren_a1 {ρ : Nat → Nat} {F F' M M' : Nat → Prop} {μ μ' : Mu} {h h' : AHeap} {fl : Bool} (k : Ren ρ F F' M M' μ μ' h h' fl) : ∀ {a : A1} {v : Value}, a.leaves.all (okAL fl) = true → a1Rel P F M μ h w a v → a1Rel P F' M' μ' h' w (renA ρ a) v
  | .lf _, _, hk, r => ren_al k (by simpa [A1.leaves] using hk) r
  | .ag _, _, hk, ⟨cs, e, r⟩ => ⟨cs, e, ren_als k hk r⟩
theorem ren_a1s {ρ : Nat → Nat} {F F' M M' : Nat → Prop} {μ μ' : Mu} {h h' : AHeap} {fl : Bool} (k : Ren ρ F F' M M' μ μ' h h' fl) : ∀ {l : List A1} {vs : List Value}, l.all (fun a => a.leaves.all (okAL fl)) = true → a1sRel P F M μ h w l vs → a1sRel P F' M' μ' h' w (l.map (renA ρ)) vs
  | [], _, _, r => r
  | _ :: _, _, hk, ⟨v, r, e, h1, h2⟩ => by
    simp only [List.all_cons, Bool.and_eq_true] at hk
    exact ⟨v, r, e, ren_a1 k hk.1 h1, ren_a1s k hk.2 h2⟩
theorem ren_res {ρ : Nat → Nat} {F F' M M' : Nat → Prop} {μ μ' : Mu} {h h' : AHeap} {fl : Bool} (k : Ren ρ F F' M M' μ μ' h h' fl) {l : List A1} {v : Value} (hk : l.all (fun a => a.leaves.all (okAL fl)) = true) (r : avRel P F M μ h w (resAV l) v) :
    avRel P F' M' μ' h' w (resAV (l.map (renA ρ))) v := by
  match l, hk, r with
  | [], hk, ⟨vs, e, r⟩ => exact ⟨vs, e, r⟩
  | [a], hk, r => simp only [List.all_cons, List.all_nil, Bool.and_true] at hk; exact ren_a1 k hk r
  | a :: c :: l, hk, ⟨vs, e, r⟩ => exact ⟨vs, e, ren_a1s k hk r⟩
theorem ren_obj {ρ : Nat → Nat} {F F' M M' : Nat → Prop} {μ μ' : Mu} {h h' : AHeap} {fl : Bool} (k : Ren ρ F F' M M' μ μ' h h' fl) {id : Nat} (hid : M id) : ∀ {o : AObj}, okObj fl o = true → objRel P F M μ h w id o → objRel P F' M' μ' h' w (ρ id) (renO ρ o)
  | .cells l, hk, ⟨b, vs, e, h1, h2, h3⟩ => ⟨b, vs, e, (k.ids id hid).2.1.trans h1, h2, ren_als k hk h3⟩
  | .arr e t l, hk, .inl ⟨h1, h2⟩ => .inl ⟨(k.ids id hid).2.1.trans h1, h2⟩
  | .arr e t l, hk, .inr ⟨b, cur, cs, h1, h2, h3, h4⟩ => .inr ⟨b, cur, cs, (k.ids id hid).2.1.trans h1, h2, h3.mono fun x vs r => by
      cases hf : fl
      · exact rd_mono r (Ext.refl _ _) (k.sub hf)
      · subst hf; exact rd_scal (by simpa [okObj] using hk) r, h4⟩
end

theorem puts_zip_out {ρ : Nat → Nat} : ∀ {objs : List AObj} {k : Nat} {hf : AHeap} {id : Nat}, (∀ j, j < objs.length → id ≠ ρ (k + j)) → (hf.puts (zipIds k ρ objs)) id = hf id
  | [], _, _, _, _ => rfl
  | o :: r, k, hf, id, h => by
    simp only [zipIds, AHeap.puts]
    rw [puts_zip_out (objs := r) (k := k + 1) fun j hj => by have := h (j + 1) (by simpa using hj); rwa [show k + (j + 1) = k + 1 + j by omega] at this]
    exact AHeap.put_ne hf _ (by simpa using h 0 (by simp))
theorem puts_zip_in {ρ : Nat → Nat} : ∀ {objs : List AObj} {k : Nat} {hf : AHeap}, (∀ i j, i < objs.length → j < objs.length → ρ (k + i) = ρ (k + j) → i = j) → ∀ j (hj : j < objs.length), (hf.puts (zipIds k ρ objs)) (ρ (k + j)) = some (renO ρ objs[j])
  | o :: r, k, hf, hinj, 0, _ => by
    simp only [zipIds, AHeap.puts, Nat.add_zero]
    rw [puts_zip_out (objs := r) (k := k + 1) fun j hj e => by
      have := hinj 0 (j + 1) (by simp) (by simpa using hj) (by rw [Nat.add_zero, show k + (j + 1) = k + 1 + j by omega]; exact e)
      omega]
    simp [AHeap.put_same]
  | o :: r, k, hf, hinj, j + 1, hj => by
    simp only [zipIds, AHeap.puts]
    have := puts_zip_in (ρ := ρ) (objs := r) (k := k + 1) (hf := hf.put (ρ k) (some (renO ρ o))) (fun i i' hi hi' e => by
      have := hinj (i + 1) (i' + 1) (by simpa using hi) (by simpa using hi') (by rw [show k + (i + 1) = k + 1 + i by omega, show k + (i' + 1) = k + 1 + i' by omega]; exact e)
      omega) j (by simpa using hj)
    rw [show k + 1 + j = k + (j + 1) by omega] at this
    rw [this]; rfl
theorem zip_mem {ρ : Nat → Nat} : ∀ {objs : List AObj} {k : Nat} {p : Nat × Option AObj}, p ∈ zipIds k ρ objs → ∃ j, ∃ hj : j < objs.length, p = (ρ (k + j), some (renO ρ objs[j]))
  | [], _, _, h => by cases h
  | o :: r, k, p, h => by
    rcases List.mem_cons.1 h with rfl | h
    · exact ⟨0, by simp, rfl⟩
    · obtain ⟨j, hj, rfl⟩ := zip_mem h
      exact ⟨j + 1, by simpa using hj, by simp [show k + 1 + j = k + (j + 1) by omega]⟩
theorem zip_take {ρ : Nat → Nat} : ∀ {objs : List AObj} {k n j : Nat} (hj : j < objs.length), j < n → (ρ (k + j), some (renO ρ objs[j])) ∈ (zipIds k ρ objs).take n
  | o :: r, k, n + 1, 0, _, _ => by simp [zipIds]
  | o :: r, k, n + 1, j + 1, hj, hn => by
    simp only [zipIds, List.take_succ_cons]
    have := zip_take (ρ := ρ) (objs := r) (k := k + 1) (n := n) (j := j) (by simpa using hj) (by omega)
    rw [show k + 1 + j = k + (j + 1) by omega] at this
    exact List.mem_cons_of_mem _ this
theorem lenSame_ok {R : Type} {h : AHeap} {k : Option R} {r : R} : ∀ {c : Chg}, lenSame h k c = some r → k = some r ∧ ∀ p ∈ c, ∃ o o', p.2 = some o' ∧ h p.1 = some o ∧ o.alike o'
  | [], hl => ⟨hl, fun p hp => by cases hp⟩
  | (id, none) :: r, hl => by simp [lenSame] at hl
  | (id, some (.arr e t l)) :: r, hl => by
    simp only [lenSame] at hl
    split at hl
    · rename_i e' t' l' hid
      split at hl
      · rename_i hc
        obtain ⟨h1, hl⟩ := chk_some hl
        obtain ⟨h2, h3⟩ := lenSame_ok hl
        refine ⟨h2, fun p hp => ?_⟩
        rcases List.mem_cons.1 hp with rfl | hp
        · exact ⟨_, _, rfl, hid, hc.1.symm, hc.2.symm, (of_decide_eq_true h1).symm⟩
        · exact h3 p hp
      · cases hl
    · cases hl
  | (id, some (.cells l)) :: r, hl => by
    simp only [lenSame] at hl
    split at hl
    · rename_i l' hid
      split at hl
      · obtain ⟨h2, h3⟩ := lenSame_ok hl
        refine ⟨h2, fun p hp => ?_⟩
        rcases List.mem_cons.1 hp with rfl | hp
        · exact ⟨_, _, rfl, hid, trivial⟩
        · exact h3 p hp
      · cases hl
    · cases hl
end Go.CE
