/-
  Plain laws, part a: what the evaluator's words come to; loops.
-/
import Derived.Test.YtlbfolepljpmbaaDoorCeB
namespace Go.CL
set_option linter.all false
open Go Go.CE

@[simp] theorem ifB_eq {R : Type} (b : Bool) (x y : Option R) : ifB b x y = if b = true then x else y := by cases b <;> rfl
@[simp] theorem chk_eq {R : Type} (b : Bool) (x : Option R) : chk b x = if b = true then x else none := by cases b <;> rfl
@[simp] theorem bnd_some {A B : Type} (x : A) (f : A → Option B) : bnd (some x) f = f x := rfl
@[simp] theorem both_self {R : Type} (x : Option R) : both x x = x := by unfold both; simp
@[simp] theorem toInr_some {Y R : Type} (x : R) : toInr (Y := Y) (some x) = some (.inr x) := rfl
@[simp] theorem toInl_some' {Y R : Type} (x : Y) : toInl (R := R) (some x) = some (.inl x) := rfl
@[simp] theorem sumE_inl {A B C : Type} (f : A → C) (g : B → C) (x : A) : sumE f g (.inl x) = f x := rfl
@[simp] theorem sumE_inr {A B C : Type} (f : A → C) (g : B → C) (x : B) : sumE f g (.inr x) = g x := rfl
@[simp] theorem ltI_iff (x y : Int) : (ltI x y = true) ↔ x < y := decide_eq_true_iff
@[simp] theorem leI_iff (x y : Int) : (leI x y = true) ↔ x ≤ y := decide_eq_true_iff
@[simp] theorem gtI_iff (x y : Int) : (gtI x y = true) ↔ y < x := decide_eq_true_iff
@[simp] theorem geI_iff (x y : Int) : (geI x y = true) ↔ y ≤ x := decide_eq_true_iff
@[simp] theorem eqI_iff (x y : Int) : (eqI x y = true) ↔ x = y := by simp
@[simp] theorem neI_iff (x y : Int) : (neI x y = true) ↔ x ≠ y := by simp
@[simp] theorem nonneg_iff (x : Int) : (nonneg x = true) ↔ 0 ≤ x := decide_eq_true_iff
@[simp] theorem nonzero_iff (x : Int) : (nonzero x = true) ↔ x ≠ 0 := by simp
@[simp] theorem eqB_iff (x y : Bool) : (eqB x y = true) ↔ x = y := by simp
@[simp] theorem neB_iff (x y : Bool) : (neB x y = true) ↔ x ≠ y := by cases x <;> cases y <;> simp
@[simp] theorem notB_iff (x : Bool) : (notB x = true) ↔ x = false := by cases x <;> simp
@[simp] theorem eqS_iff (x y : ByteArray) : (eqS x y = true) ↔ x = y := decide_eq_true_iff
@[simp] theorem neS_iff (x y : ByteArray) : (neS x y = true) ↔ x ≠ y := by simp
@[simp] theorem inL_iff {A : Type} (j : Int) (l : List A) : (inL j l = true) ↔ 0 ≤ j ∧ j < (l.length : Int) := decide_eq_true_iff
@[simp] theorem inS_iff (j : Int) (s : ByteArray) : (inS j s = true) ↔ 0 ≤ j ∧ j < (s.size : Int) := decide_eq_true_iff
@[simp] theorem inCutS_iff (i j : Int) (s : ByteArray) : (inCutS i j s = true) ↔ 0 ≤ i ∧ i ≤ j ∧ j ≤ (s.size : Int) := decide_eq_true_iff
@[simp] theorem inCutL_iff {A : Type} (i j : Int) (l : List A) : (inCutL i j l = true) ↔ 0 ≤ i ∧ i ≤ j ∧ j ≤ (l.length : Int) := decide_eq_true_iff
@[simp] theorem fitL_iff {A : Type} (l : List A) : (fitL l = true) ↔ l.length ≤ maxList := decide_eq_true_iff
@[simp] theorem fitL2_iff {A B : Type} (l : List A) (l' : List B) : (fitL2 l l' = true) ↔ l.length + l'.length ≤ maxList := decide_eq_true_iff
@[simp] theorem fitS_iff (x y : ByteArray) : (fitS x y = true) ↔ x.size + y.size ≤ 2 ^ 62 := decide_eq_true_iff
@[simp] theorem sameLen_iff {A B : Type} (l : List A) (l' : List B) : (sameLen l l' = true) ↔ l.length = l'.length := decide_eq_true_iff
@[simp] theorem emptyL_iff {A : Type} (l : List A) : (emptyL l = true) ↔ l = [] := by simp
@[simp] theorem okMake_iff (l c : Int) : (okMake l c = true) ↔ 0 ≤ l ∧ l ≤ c ∧ c ≤ 2 ^ 38 := decide_eq_true_iff
theorem maxList_eq : maxList = 274877906944 := rfl

/-! ### Loops -/
theorem iterN_more {A B : Type} {f : A → Option (A ⊕ B)} : ∀ {n m : Nat} {x : A} {r : B}, iterN f n x = some r → n ≤ m → iterN f m x = some r
  | 0, _, _, _, h, _ => by simp [iterN] at h
  | n + 1, 0, _, _, _, h => by omega
  | n + 1, m + 1, x, r, h, hm => by
    simp only [iterN] at h ⊢
    split at h <;> simp_all
    exact iterN_more h hm
theorem iter_of {A B : Type} {f : A → Option (A ⊕ B)} {n : Nat} {x : A} {r : B} (h : iterN f n x = some r) : iter f x = some r := by
  unfold iter
  have hex : ∃ n r, iterN f n x = some r := ⟨n, r, h⟩
  rw [dif_pos hex]
  obtain ⟨r', h'⟩ := Classical.choose_spec hex
  have h1 := iterN_more h (Nat.le_max_left n (Classical.choose hex))
  have h2 := iterN_more h' (Nat.le_max_right n (Classical.choose hex))
  rw [h'] ; rw [h1] at h2; exact h2.symm ▸ rfl
theorem iter_some' {A B : Type} {f : A → Option (A ⊕ B)} {x : A} {r : B} (h : iter f x = some r) : ∃ n, iterN f n x = some r := by
  unfold iter at h
  split at h
  · exact ⟨_, h⟩
  · cases h
theorem iter_done {A B : Type} {f : A → Option (A ⊕ B)} {x : A} {r : B} (h : f x = some (.inr r)) : iter f x = some r := iter_of (n := 1) (by simp [iterN, h])
theorem iter_step {A B : Type} {f : A → Option (A ⊕ B)} {x y : A} (h : f x = some (.inl y)) : iter f x = iter f y := by
  cases hy : iter f y with
  | some r =>
    obtain ⟨n, hn⟩ := iter_some' hy
    exact iter_of (n := n + 1) (by simp [iterN, h, hn])
  | none =>
    cases hx : iter f x with
    | none => rfl
    | some r =>
      obtain ⟨n, hn⟩ := iter_some' hx
      cases n with
      | zero => simp [iterN] at hn
      | succ n =>
        simp only [iterN, h] at hn
        rw [iter_of hn] at hy; cases hy
theorem iter_none {A B : Type} {f : A → Option (A ⊕ B)} {x : A} (h : f x = none) : iter f x = none := by
  cases hx : iter f x with
  | none => rfl
  | some r =>
    obtain ⟨n, hn⟩ := iter_some' hx
    cases n <;> simp [iterN, h] at hn
theorem iter_toInr {A B : Type} {f : A → Option (A ⊕ B)} {x : A} {o : Option B} (h : f x = toInr o) : iter f x = o := by
  cases o with
  | none => exact iter_none h
  | some r => exact iter_done h
/-- So many rounds. -/
theorem iter_for {A B : Type} {f : A → Option (A ⊕ B)} (st : Nat → A) : ∀ (m : Nat), (∀ i, i < m → f (st i) = some (.inl (st (i + 1)))) → iter f (st 0) = iter f (st m)
  | 0, _ => rfl
  | m + 1, h => (iter_for st m fun i hi => h i (by omega)).trans (iter_step (h m (by omega)))
/-- So many rounds, then the end. -/
theorem iter_to {A B : Type} {f : A → Option (A ⊕ B)} (st : Nat → A) (m : Nat) {r : B} (h : ∀ i, i < m → f (st i) = some (.inl (st (i + 1)))) (he : f (st m) = some (.inr r)) : iter f (st 0) = some r :=
  (iter_for st m h).trans (iter_done he)
theorem iter_to' {A B : Type} {f : A → Option (A ⊕ B)} {x : A} (st : Nat → A) (m : Nat) {r : B} (h0 : st 0 = x) (h : ∀ i, i < m → f (st i) = some (.inl (st (i + 1)))) (he : f (st m) = some (.inr r)) : iter f x = some r :=
  h0 ▸ iter_to st m h he
/-- Rounds until one is found, or the end. -/
theorem iter_find {A B : Type} {f : A → Option (A ⊕ B)} (st : Nat → A) (m : Nat) (p : Nat → Bool) (r : Option Nat → B) (h : ∀ i, i < m → p i = false → f (st i) = some (.inl (st (i + 1))))
    (hx : ∀ i, i < m → p i = true → f (st i) = some (.inr (r (some i)))) (he : f (st m) = some (.inr (r none))) : iter f (st 0) = some (r ((List.range m).find? p)) := by
  have key : ∀ d i, i + d = m → (∀ j, j < i → p j = false) → iter f (st i) = some (r ((List.range m).find? p)) := by
    intro d
    induction d with
    | zero =>
      intro i hi hb
      have : (List.range m).find? p = none := by
        rw [List.find?_eq_none]; intro j hj; rw [hb j (by simpa [← hi] using hj)]; simp
      rw [this]
      have : i = m := by omega
      subst this; exact iter_done he
    | succ d ih =>
      intro i hi hb
      cases hp : p i with
      | false =>
        rw [iter_step (h i (by omega) hp)]
        exact ih (i + 1) (by omega) fun j hj => by
          by_cases e : j = i
          · subst e; exact hp
          · exact hb j (by omega)
      | true =>
        have : (List.range m).find? p = some i := by
          rw [List.find?_range_eq_some]
          exact ⟨hp, by simp; omega, fun j hj => by simp [hb j hj]⟩
        rw [this]; exact iter_done (hx i (by omega) hp)
  exact key m 0 (by omega) fun j hj => by omega
/-- Do all of so many say so? -/
theorem iter_all {A B : Type} {f : A → Option (A ⊕ B)} (st : Nat → A) (m : Nat) (p : Nat → Bool) (r : Bool → B) (h : ∀ i, i < m → p i = true → f (st i) = some (.inl (st (i + 1))))
    (hx : ∀ i, i < m → p i = false → f (st i) = some (.inr (r false))) (he : f (st m) = some (.inr (r true))) : iter f (st 0) = some (r ((List.range m).all p)) := by
  rw [iter_find st m (fun i => !p i) (fun o => r o.isNone) (fun i hi hp => h i hi (by simpa using hp)) (fun i hi hp => hx i hi (by simpa using hp)) he]
  congr 2
  rw [Bool.eq_iff_iff]
  simp
theorem iter_any {A B : Type} {f : A → Option (A ⊕ B)} (st : Nat → A) (m : Nat) (p : Nat → Bool) (r : Bool → B) (h : ∀ i, i < m → p i = false → f (st i) = some (.inl (st (i + 1))))
    (hx : ∀ i, i < m → p i = true → f (st i) = some (.inr (r true))) (he : f (st m) = some (.inr (r false))) : iter f (st 0) = some (r ((List.range m).any p)) := by
  rw [iter_find st m p (fun o => r o.isSome) h hx he]
  congr 2
  rw [Bool.eq_iff_iff]
  simp
theorem range_all_get {A : Type} (l : List A) (d : A) (p : A → Bool) : ((List.range l.length).all fun i => p (l.getD i d)) = l.all p := by
  rw [Bool.eq_iff_iff]
  simp only [List.all_eq_true, List.mem_range]
  constructor
  · intro h x hx
    obtain ⟨i, hi, rfl⟩ := List.getElem_of_mem hx
    simpa [hi] using h i hi
  · intro h i hi
    simpa [hi] using h l[i] (List.getElem_mem hi)
theorem range_any_get {A : Type} (l : List A) (d : A) (p : A → Bool) : ((List.range l.length).any fun i => p (l.getD i d)) = l.any p := by
  rw [Bool.eq_iff_iff]
  simp only [List.any_eq_true, List.mem_range]
  constructor
  · rintro ⟨i, hi, h⟩
    exact ⟨l[i], List.getElem_mem hi, by simpa [hi] using h⟩
  · rintro ⟨x, hx, h⟩
    obtain ⟨i, hi, rfl⟩ := List.getElem_of_mem hx
    exact ⟨i, hi, by simpa [hi] using h⟩
end Go.CL
