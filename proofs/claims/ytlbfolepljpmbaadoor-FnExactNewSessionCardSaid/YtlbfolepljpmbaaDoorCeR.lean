/-
  A computed evaluator over the model's code, part R: regions.
-/
import Derived.Test.YtlbfolepljpmbaaDoorCeQ
namespace Go.CE
set_option linter.all false
set_option linter.unusedSectionVars false
open Go Go.RowKit
variable [Tab]
set_option linter.unusedVariables false
set_option linter.unusedSimpArgs false

/-! ### Updates, one behind the other, of which some have been made -/
structure Upd (X V : Type) where
  f : (X → V) → X → V
  w : X → Bool
  out : ∀ m x, w x = false → f m x = m x
  inn : ∀ m m' x, w x = true → f m x = f m' x
open Classical in
noncomputable def foldU {X V : Type} (D : Nat → Prop) : Nat → List (Upd X V) → (X → V) → X → V
  | _, [], m => m
  | k, u :: us, m => foldU D (k + 1) us (if D k then u.f m else m)
theorem foldU_agree {X V : Type} {D D' : Nat → Prop} {x : X} : ∀ {us : List (Upd X V)} {k : Nat} {m m' : X → V}, (∀ i u, us[i]? = some u → u.w x = true → (D (k + i) ↔ D' (k + i))) → m x = m' x → foldU D k us m x = foldU D' k us m' x
  | [], _, _, _, _, h => h
  | u :: us, k, m, m', h, hm => by
    unfold foldU
    refine foldU_agree (fun i v hi hv => ?_) ?_
    · have := h (i + 1) v (by simpa using hi) hv
      rw [Nat.add_assoc, Nat.add_comm 1 i]; exact this
    · cases hw : u.w x with
      | false => split <;> split <;> simp [u.out _ _ hw, hm]
      | true =>
        have h0 := h 0 u rfl hw
        rw [Nat.add_zero] at h0
        by_cases hd : D k
        · rw [if_pos hd, if_pos (h0.1 hd)]; exact u.inn _ _ _ hw
        · rw [if_neg hd, if_neg (fun e => hd (h0.2 e))]; exact hm
theorem foldU_none {X V : Type} {D : Nat → Prop} {x : X} : ∀ {us : List (Upd X V)} {k : Nat} {m : X → V}, (∀ i u, us[i]? = some u → D (k + i) → u.w x = false) → foldU D k us m x = m x
  | [], _, _, _ => rfl
  | u :: us, k, m, h => by
    unfold foldU
    rw [foldU_none (fun i v hi hv => h (i + 1) v (by simpa using hi) (by rw [Nat.add_assoc, Nat.add_comm 1 i] at hv; exact hv))]
    split
    · rename_i hd
      exact u.out _ _ (h 0 u rfl hd)
    · rfl
theorem foldU_put {X V : Type} {D : Nat → Prop} {x : X} : ∀ {us : List (Upd X V)} {k j : Nat} {m : X → V} {u : Upd X V}, us[j]? = some u → (∀ i v, j < i → us[i]? = some v → D (k + i) → u.w x = true → v.w x = false) →
    foldU (fun i => D i ∨ i = k + j) k us m x = u.f (foldU D k us m) x := by
  intro us k j m u hj h
  classical
  cases hw : u.w x with
  | false =>
    rw [u.out _ _ hw]
    refine foldU_agree (fun i v hi hv => ⟨fun h => h.elim id fun e => ?_, .inl⟩) rfl
    have : i = j := by omega
    subst this
    rw [hj] at hi; injection hi with hi; subst hi; rw [hw] at hv; cases hv
  | true =>
    induction us generalizing k j m with
    | nil => simp at hj
    | cons u0 us ih =>
      unfold foldU
      cases j with
      | zero =>
        simp at hj; subst hj
        rw [Nat.add_zero, if_pos (.inr rfl), foldU_none (fun i v hi hd => ?_)]
        · exact u0.inn _ _ _ hw
        · refine h (i + 1) v (by omega) (by simpa using hi) ?_ hw
          rcases hd with hd | hd
          · rw [Nat.add_assoc, Nat.add_comm 1 i] at hd; exact hd
          · omega
      | succ j =>
        have e : k + (j + 1) = k + 1 + j := by omega
        rw [e]
        have key := fun m => ih (k := k + 1) (j := j) (m := m) (by simpa using hj) fun i v hi hv hd => h (i + 1) v (by omega) (by simpa using hv) (by rw [show k + (i + 1) = k + 1 + i by omega]; exact hd)
        by_cases hd : D k
        · rw [if_pos (show D k ∨ k = k + 1 + j from .inl hd), if_pos hd]; exact key _
        · rw [if_neg (show ¬ (D k ∨ k = k + 1 + j) from fun h => h.elim hd fun e => by omega), if_neg hd]; exact key _

theorem puts_out {h : AHeap} {id : Nat} : ∀ {c : Chg}, id ∉ c.map (·.1) → h.puts c id = h id := by
  intro c
  induction c generalizing h with
  | nil => intro _; rfl
  | cons p c ih =>
    intro hn
    simp only [List.map_cons, List.mem_cons, not_or] at hn
    obtain ⟨i, o⟩ := p
    show AHeap.puts (h.put i o) c id = _
    rw [ih hn.2, AHeap.put_ne _ _ hn.1]
theorem puts_eq {h h' : AHeap} {id : Nat} : ∀ {c : Chg}, h id = h' id → h.puts c id = h'.puts c id := by
  intro c
  induction c generalizing h h' with
  | nil => intro e; exact e
  | cons p c ih =>
    intro e
    obtain ⟨i, o⟩ := p
    refine ih ?_
    unfold AHeap.put
    split <;> simp [*]
theorem puts_in {h h' : AHeap} {id : Nat} : ∀ {c : Chg}, id ∈ c.map (·.1) → h.puts c id = h'.puts c id := by
  intro c
  induction c generalizing h h' with
  | nil => intro hn; cases hn
  | cons p c ih =>
    intro hn
    obtain ⟨i, o⟩ := p
    by_cases hi : id ∈ c.map (·.1)
    · exact ih hi
    · have : id = i := by simpa [hi] using hn
      subst this
      show AHeap.puts (h.put id o) c id = AHeap.puts (h'.put id o) c id
      exact puts_eq (by simp [AHeap.put])

def tUpd (d : Option Tmp) (v : AV) : Upd Tmp AV where
  f t := Tmps.put t d v
  w x := d == some x
  out m x h := by
    cases d with
    | none => rfl
    | some d =>
      have : d ≠ x := by simpa using h
      simp [Tmps.put, Ne.symm this]
  inn m m' x h := by
    have : d = some x := by simpa using h
    subst this
    simp [Tmps.put]
def hUpd (c : Chg) : Upd Nat (Option AObj) where
  f h := AHeap.puts h c
  w x := (c.map (·.1)).contains x
  out m x h := puts_out (by simpa using h)
  inn m m' x h := puts_in (by simpa using h)

/-! ### What the evaluator does with a list of operations -/
structure StepR where
  av : AV
  T : List Nat
  ch : Chg
def StepR.tr (x : StepR) : List Nat × List Nat := (x.T, x.ch.map (·.1))
def OkStep (P : Program) (c : Cfg) (ops : Array Oper) (o : Oper) (t : Tmps) (h : AHeap) (n : Nat) (x : StepR) : Prop :=
  match o.guard with
  | none => (∀ d, o.dst = some d → d < c.nt) ∧ (∀ p ∈ x.ch, p.1 < n + 16 ∧ (p.2 = none → c.io ≤ p.1)) ∧ LSem P o t h n x.av x.T x.ch
  | some (j, want) => ∃ d b, dstOf ops j = some d ∧ t d = .v (.lf (.dat .b b)) ∧
    ((b = want ∧ (∀ d, o.dst = some d → d < c.nt) ∧ (∀ p ∈ x.ch, p.1 < n + 16 ∧ (p.2 = none → c.io ≤ p.1)) ∧ LSem P o t h n x.av x.T x.ch) ∨ (b ≠ want ∧ x = ⟨.v (.lf .unk), [], []⟩))
def Traced (P : Program) (c : Cfg) (ops : Array Oper) : List Oper → St → List StepR → St → Prop
  | [], s, rs, s' => rs = [] ∧ s' = s
  | o :: l, s, rs, s' => ∃ x rs', rs = x :: rs' ∧ OkStep P c ops o s.t s.h s.n x ∧ Traced P c ops l (after1 s o x.av x.ch) rs' s'
theorem put_self (t : Tmps) (d : Nat) : t.put (some d) (t d) = t := by
  funext i
  simp only [Tmps.put]
  split
  · rename_i h; rw [h]
  · rfl
theorem evOps_sound {P : Program} {c : Cfg} (hT : TOk P c.tt) (hG : GOk P c.g) {ops : Array Oper} {R : Type} {r : R} : ∀ {l : List Oper} {s : St} {k : St → Trace → Option R}, evOps c ops l s k = some r →
    ∃ rs s', Traced P c ops l s rs s' ∧ k s' (rs.map StepR.tr) = some r
  | [], s, k, he => ⟨[], s, ⟨rfl, rfl⟩, he⟩
  | o :: rest, s, k, he => by
    have run : ∀ {s : St}, (evOp c o s fun v T ch => if (o.dst.all fun d => decide (d < c.nt)) && ch.all (fun p => decide (p.1 < s.n + 16) && (p.2.isSome || decide (c.io ≤ p.1))) then evOps c ops rest ⟨Tmps.put s.t o.dst v, s.h.puts ch, s.n + 16⟩ fun s' tr => k s' ((T, ch.map (·.1)) :: tr) else none) = some r →
        ∃ (x : StepR) (rs : List StepR) (s' : St), (∀ d, o.dst = some d → d < c.nt) ∧ (∀ p ∈ x.ch, p.1 < s.n + 16 ∧ (p.2 = none → c.io ≤ p.1)) ∧ LSem P o s.t s.h s.n x.av x.T x.ch ∧ Traced P c ops rest (after1 s o x.av x.ch) rs s' ∧ k s' (x.tr :: rs.map StepR.tr) = some r := by
      intro s he
      obtain ⟨av, T, ch, h1, h2⟩ := evOp_sound hT hG he
      split at h1
      · rename_i hc
        simp only [Bool.and_eq_true, List.all_eq_true, decide_eq_true_eq] at hc
        obtain ⟨rs, s', h3, h4⟩ := evOps_sound hT hG h1
        refine ⟨⟨av, T, ch⟩, rs, s', fun d hd => by simpa [hd] using hc.1, fun p hp => ?_, h2, h3, h4⟩
        have := hc.2 p hp
        simp only [Bool.or_eq_true, decide_eq_true_eq] at this
        exact ⟨this.1, fun hn => this.2.resolve_left (by rw [hn]; simp)⟩
      · cases h1
    simp only [evOps, frcV_eq, frcC_eq, forceN_eq] at he
    split at he
    · rename_i hg
      obtain ⟨x, rs, s', h1, h2, h3, h4, h5⟩ := run he
      exact ⟨x :: rs, s', ⟨x, rs, rfl, by simp only [OkStep, hg]; exact ⟨h1, h2, h3⟩, h4⟩, h5⟩
    · rename_i j want hg
      split at he
      · cases he
      · rename_i d hd
        split at he
        · rename_i b hb
          have skip : ∀ {s : St}, s.t d = .v (.lf (.dat .b (!want))) → (evOps c ops rest (after1 s o (.v (.lf .unk)) []) fun s' tr => k s' (([], []) :: tr)) = some r → ∃ rs s', Traced P c ops (o :: rest) s rs s' ∧ k s' (rs.map StepR.tr) = some r := by
            intro s hs he
            obtain ⟨rs, s', h3, h4⟩ := evOps_sound hT hG he
            refine ⟨⟨.v (.lf .unk), [], []⟩ :: rs, s', ⟨_, rs, rfl, ?_, h3⟩, h4⟩
            simp only [OkStep, hg]
            exact ⟨d, _, hd, hs, .inr ⟨by cases want <;> simp, trivial⟩⟩
          have go : ∀ {s : St}, s.t d = .v (.lf (.dat .b want)) → (evOp c o s fun v T ch => if (o.dst.all fun d => decide (d < c.nt)) && ch.all (fun p => decide (p.1 < s.n + 16) && (p.2.isSome || decide (c.io ≤ p.1))) then evOps c ops rest ⟨Tmps.put s.t o.dst v, s.h.puts ch, s.n + 16⟩ fun s' tr => k s' ((T, ch.map (·.1)) :: tr) else none) = some r →
              ∃ rs s', Traced P c ops (o :: rest) s rs s' ∧ k s' (rs.map StepR.tr) = some r := by
            intro s hs he
            obtain ⟨x, rs, s', h1, h2, h3, h4, h5⟩ := run he
            refine ⟨x :: rs, s', ⟨_, rs, rfl, ?_, h4⟩, h5⟩
            simp only [OkStep, hg]
            exact ⟨d, _, hd, hs, .inl ⟨rfl, h1, h2, h3⟩⟩
          rcases ifB_some he with ⟨rfl, he⟩ | ⟨rfl, he⟩
          · rw [← hb, put_self] at he
            have e : ({ s with t := s.t } : St) = s := rfl
            split at he
            · rename_i hw; exact go (by rw [hb, hw]) he
            · rename_i hw; exact skip (by rw [hb]; simp [hw]) he
          · rw [← hb, put_self] at he
            split at he
            · rename_i hw; exact skip (by rw [hb]; simp [hw]) he
            · rename_i hw
              exact go (by rw [hb]; simp [hw]) he
        · cases he
end Go.CE
