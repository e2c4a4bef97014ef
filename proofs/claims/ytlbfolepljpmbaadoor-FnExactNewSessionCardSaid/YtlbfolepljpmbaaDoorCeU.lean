/-
  A computed evaluator over the model's code, part U: a region in any of its orders.
-/
import Derived.Test.YtlbfolepljpmbaaDoorCeS
namespace Go.CE
set_option linter.all false
set_option linter.unusedSectionVars false
open Go Go.RowKit
variable [Tab]
set_option linter.unusedVariables false
set_option linter.unusedSimpArgs false

/-- A set of operations that has with each what must come before it. -/
def ClosedU (ops : Array Oper) (D : Nat → Prop) : Prop := ∀ j o, ops[j]? = some o → D j → ∀ e ∈ o.after, Region.binds .any e = true → D e.on
def Imp (ops : Array Oper) (q i : Nat) : Prop := ∀ D, ClosedU ops D → D q → D i

theorem preOf_go (ms : List Nat) (i : Nat) : ∀ (es : List Edge) (s : Nat), (es.foldl (fun s e => if Region.binds .any e then s ||| 2 ^ e.on ||| ms.getD e.on 0 else s) s).testBit i = true →
    s.testBit i = true ∨ ∃ e ∈ es, Region.binds .any e = true ∧ (i = e.on ∨ (ms.getD e.on 0).testBit i = true)
  | [], s, h => .inl h
  | e :: es, s, h => by
    rw [List.foldl_cons] at h
    rcases preOf_go ms i es _ h with h | ⟨e', he, h⟩
    · split at h
      · rename_i hb
        rw [Nat.testBit_or, Nat.testBit_or, Bool.or_eq_true, Bool.or_eq_true] at h
        rcases h with (h | h) | h
        · exact .inl h
        · exact .inr ⟨e, by simp, hb, .inl (by rw [Nat.testBit_two_pow] at h; simpa using (of_decide_eq_true h).symm)⟩
        · exact .inr ⟨e, by simp, hb, .inr h⟩
      · exact .inl h
    · exact .inr ⟨e', by simp [he], h⟩
theorem drawGo_ok {ops : Array Oper} : ∀ {l : List Oper} {j : Nat} {tr : Trace} {ms : List Nat} {acc : List (Nat × Oper × (List Nat × List Nat))}, drawGo ops j l tr ms acc = true →
    (∀ i o, l[i]? = some o → ops[j + i]? = some o) → ms.length = j → (∀ q i, (ms.getD q 0).testBit i = true → Imp ops q i) →
    (∀ i o, l[i]? = some o → ∀ e ∈ o.after, Region.binds .any e = true → e.on < j + i) ∧
    (∀ i o ti, l[i]? = some o → tr[i]? = some ti → ∀ p ∈ acc, Imp ops (j + i) p.1 ∨ apartOk ops p.2.1 o p.2.2 ti = true) ∧
    (∀ i i' o o' ti ti', i < i' → l[i]? = some o → l[i']? = some o' → tr[i]? = some ti → tr[i']? = some ti' → Imp ops (j + i') (j + i) ∨ apartOk ops o o' ti ti' = true)
  | [], j, tr, ms, acc, h, _, _, _ => ⟨fun i o h => by simp at h, fun i o ti h => by simp at h, fun i i' o o' ti ti' _ h => by simp at h⟩
  | o :: l, j, [], ms, acc, h, _, _, _ => by simp [drawGo] at h
  | o :: l, j, t :: tr, ms, acc, h, hl, hms, hI => by
    simp only [drawGo, forceN_eq, Bool.and_eq_true, List.all_eq_true, Bool.or_eq_true, Bool.not_eq_true', decide_eq_true_eq] at h
    obtain ⟨⟨h1, h2⟩, h3⟩ := h
    have hj : ops[j]? = some o := hl 0 o rfl
    have hv : ∀ i, (preOf ms o).testBit i = true → Imp ops j i := fun i hi D hD hDj => by
      rcases preOf_go ms i _ 0 hi with hz | ⟨e, he, hb, hor⟩
      · simp at hz
      · have he' := hD j o hj hDj e (by simpa using he) hb
        rcases hor with rfl | hor
        · exact he'
        · exact hI _ _ hor D hD he'
    obtain ⟨k1, k2, k3⟩ := drawGo_ok h3 (fun i o' hi => by rw [Nat.add_assoc, Nat.add_comm 1 i]; exact hl (i + 1) o' (by simpa using hi)) (by simp [hms]) (fun q i hq => by
      by_cases hlt : q < ms.length
      · rw [List.getD_eq_getElem?_getD, List.getElem?_append_left hlt, ← List.getD_eq_getElem?_getD] at hq
        exact hI q i hq
      · by_cases he : q = ms.length
        · subst he
          rw [List.getD_eq_getElem?_getD, List.getElem?_append_right (Nat.le_refl _)] at hq
          simp at hq
          rw [hms]; exact hv i hq
        · rw [List.getD_eq_getElem?_getD, List.getElem?_eq_none (by simp; omega)] at hq
          simp at hq)
    refine ⟨fun i o' hi e he hb => ?_, fun i o' ti hi hti p hp => ?_, fun i i' o1 o2 ti ti' hii hi hi' hti hti' => ?_⟩
    · cases i with
      | zero =>
        simp at hi; subst hi
        rcases h1 e (by simpa using he) with h | h
        · rw [hb] at h; cases h
        · simpa using h
      | succ i => have := k1 i o' (by simpa using hi) e he hb; omega
    · cases i with
      | zero =>
        simp at hi hti; subst hi; subst hti
        rcases h2 p hp with h | h
        · exact .inl (hv _ h)
        · exact .inr h
      | succ i =>
        have := k2 i o' ti (by simpa using hi) (by simpa using hti) p (by simp [hp])
        rw [show j + (i + 1) = j + 1 + i by omega]; exact this
    · cases i' with
      | zero => omega
      | succ i' =>
        rw [show j + (i' + 1) = j + 1 + i' by omega]
        cases i with
        | zero =>
          simp at hi hti; subst hi; subst hti
          exact k2 i' o2 ti' (by simpa using hi') (by simpa using hti') (j, o, t) (by simp)
        | succ i =>
          rw [show j + (i + 1) = j + 1 + i by omega]
          exact k3 i i' o1 o2 ti ti' (by omega) (by simpa using hi) (by simpa using hi') (by simpa using hti) (by simpa using hti')

noncomputable def tUs (l : List Oper) (rs : List StepR) : List (Upd Tmp AV) := List.zipWith (fun o x => tUpd o.dst x.av) l rs
noncomputable def hUs (l : List Oper) (rs : List StepR) : List (Upd Nat (Option AObj)) := List.zipWith (fun _ x => hUpd x.ch) l rs

section
variable {P : Program} {G : Gh}

theorem traced_at {c : Cfg} {ops : Array Oper} : ∀ {l : List Oper} {s s' : St} {rs : List StepR} (k : Nat), Traced P c ops l s rs s' →
    s'.n = s.n + 16 * l.length ∧ s'.t = foldU (fun _ => True) k (tUs l rs) s.t ∧ s'.h = foldU (fun _ => True) k (hUs l rs) s.h ∧
    ∀ i o, l[i]? = some o → ∃ x, rs[i]? = some x ∧ OkStep P c ops o (foldU (· < k + i) k (tUs l rs) s.t) (foldU (· < k + i) k (hUs l rs) s.h) (s.n + 16 * i) x
  | [], s, s', rs, k, h => by
    obtain ⟨rfl, rfl⟩ := h
    exact ⟨by simp, rfl, rfl, fun i o h => by simp at h⟩
  | o :: l, s, s', rs, k, h => by
    obtain ⟨x, rs', rfl, h1, h2⟩ := h
    obtain ⟨k1, k2, k3, k4⟩ := traced_at (k + 1) h2
    refine ⟨?_, ?_, ?_, fun i o' hi => ?_⟩
    · rw [k1]; simp only [after1, List.length_cons]; omega
    · rw [k2]; simp [tUs, foldU, after1, tUpd]
    · rw [k3]; simp [hUs, foldU, after1, hUpd]
    · cases i with
      | zero =>
        simp at hi; subst hi
        refine ⟨x, rfl, ?_⟩
        have e1 : foldU (· < k + 0) k (tUs (o :: l) (x :: rs')) s.t = s.t := funext fun y => foldU_none fun i u _ hd => by exfalso; have : k + i < k + 0 := hd; omega
        have e2 : foldU (· < k + 0) k (hUs (o :: l) (x :: rs')) s.h = s.h := funext fun y => foldU_none fun i u _ hd => by exfalso; have : k + i < k + 0 := hd; omega
        rw [e1, e2]; exact h1
      | succ i =>
        obtain ⟨y, hy, ho⟩ := k4 i o' (by simpa using hi)
        refine ⟨y, by simpa using hy, ?_⟩
        have e : (fun q => q < k + (i + 1)) = (fun q => q < k + 1 + i) := funext fun q => by rw [show k + (i + 1) = k + 1 + i by omega]
        have e1 : foldU (· < k + (i + 1)) k (tUs (o :: l) (x :: rs')) s.t = foldU (· < k + 1 + i) (k + 1) (tUs l rs') (after1 s o x.av x.ch).t := by
          rw [e]; simp only [tUs, List.zipWith_cons_cons, foldU]
          rw [if_pos (show k < k + 1 + i by omega)]; rfl
        have e2 : foldU (· < k + (i + 1)) k (hUs (o :: l) (x :: rs')) s.h = foldU (· < k + 1 + i) (k + 1) (hUs l rs') (after1 s o x.av x.ch).h := by
          rw [e]; simp only [hUs, List.zipWith_cons_cons, foldU]
          rw [if_pos (show k < k + 1 + i by omega)]; rfl
        rw [e1, e2]
        have : s.n + 16 * (i + 1) = (after1 s o x.av x.ch).n + 16 * i := by simp only [after1]; omega
        rw [this]; exact ho

theorem zip_get {A B C : Type} {f : A → B → C} {l : List A} {r : List B} {i : Nat} {u : C} (h : (List.zipWith f l r)[i]? = some u) : ∃ a b, l[i]? = some a ∧ r[i]? = some b ∧ u = f a b := by
  rw [List.getElem?_zipWith] at h
  split at h
  · rename_i a b ha hb
    injection h with h
    exact ⟨a, b, ha, hb, h.symm⟩
  · cases h

def dn (listed : Array Bool) (i : Nat) : Prop := listed.getD i false = true
theorem dn_set {listed : Array Bool} {j : Nat} (hj : j < listed.size) (i : Nat) : dn (listed.setIfInBounds j true) i ↔ dn listed i ∨ i = j := by
  unfold dn
  by_cases h : j = i
  · subst h; simp [hj]
  · rw [getD_set_ne false h]
    constructor
    · exact .inl
    · rintro (h1 | h1)
      · exact h1
      · exact absurd h1.symm h
theorem getD_tf {listed : Array Bool} {j : Nat} (h : listed.getD j true = false) : j < listed.size ∧ ¬ dn listed j := by
  have hlt : j < listed.size := by
    rcases Nat.lt_or_ge j listed.size with h' | h'
    · exact h'
    · simp [Array.getElem?_eq_none h'] at h
  refine ⟨hlt, fun hd => ?_⟩
  unfold dn at hd
  simp [hlt] at h hd
  rw [h] at hd; cases hd

def MD (s : St) (D : Nat → Prop) : Nat → Prop := fun id => id < s.n ∨ ∃ i, D i ∧ s.n + 16 * i ≤ id ∧ id < s.n + 16 * (i + 1)

theorem any_ok {c : Cfg} (hio : c.io = G.io) {ops : Array Oper} {s s' : St} {rs : List StepR} (ht : Traced P c ops ops.toList s rs s') (hd : drawOk ops (rs.map StepR.tr) = true) {Q : Exit → Act → World → Prop}
    (hQ : ∀ a w, SR P G c.nt s'.t s'.h (fun id => id < s'.n) a w → Q .normal a w) : ∀ (fuel : Nat) (listed : Array Bool) (a : Act) (w : World), listed.size = ops.size → ClosedU ops (dn listed) →
    (listed.toList.countP (fun b => !b)) ≤ fuel → SR P G c.nt (foldU (dn listed) 0 (tUs ops.toList rs) s.t) (foldU (dn listed) 0 (hUs ops.toList rs) s.h) (MD s (dn listed)) a w → wpAny P .any ops Q fuel listed a w := by
  obtain ⟨e1, e2, e3, e4⟩ := traced_at 0 ht
  obtain ⟨g1, -, g3⟩ := drawGo_ok hd (fun i o hi => by simpa using hi) rfl (fun q i hq => by simp at hq)
  have pair : ∀ i j oi oj xi xj, i < j → ops[i]? = some oi → ops[j]? = some oj → rs[i]? = some xi → rs[j]? = some xj → Imp ops j i ∨ (oi.apart ops oj = true ∧ (∀ a ∈ xi.ch.map (·.1), a ∉ xj.T ∧ a ∉ xj.ch.map (·.1)) ∧ ∀ a ∈ xj.ch.map (·.1), a ∉ xi.T) := by
    intro i j oi oj xi xj hij hi hj hxi hxj
    have := g3 i j oi oj xi.tr xj.tr hij (by simpa using hi) (by simpa using hj) (by simp [hxi]) (by simp [hxj])
    simp only [Nat.zero_add] at this
    refine this.imp id fun h => ?_
    simp only [apartOk, StepR.tr, Bool.and_eq_true, List.all_eq_true, Bool.not_eq_true', List.contains_eq_mem, decide_eq_false_iff_not] at h
    exact ⟨h.1.1, h.1.2, h.2⟩
  have full : ∀ (listed : Array Bool) (a : Act) (w : World), listed.size = ops.size → (∀ i, i < ops.size → dn listed i) → SR P G c.nt (foldU (dn listed) 0 (tUs ops.toList rs) s.t) (foldU (dn listed) 0 (hUs ops.toList rs) s.h) (MD s (dn listed)) a w → Q .normal a w := by
    intro listed a w hsz hall S
    refine hQ a w ?_
    have h1 : s'.t = foldU (dn listed) 0 (tUs ops.toList rs) s.t := by
      rw [e2]; funext x
      refine foldU_agree (fun i u hi _ => ⟨fun _ => ?_, fun _ => trivial⟩) rfl
      obtain ⟨o, y, ho, _, _⟩ := zip_get hi
      rw [Nat.zero_add]
      exact hall i (by have := (List.getElem?_eq_some_iff.1 ho).1; simpa using this)
    have h2 : s'.h = foldU (dn listed) 0 (hUs ops.toList rs) s.h := by
      rw [e3]; funext x
      refine foldU_agree (fun i u hi _ => ⟨fun _ => ?_, fun _ => trivial⟩) rfl
      obtain ⟨o, y, ho, _, _⟩ := zip_get hi
      rw [Nat.zero_add]
      exact hall i (by have := (List.getElem?_eq_some_iff.1 ho).1; simpa using this)
    rw [h1, h2]
    refine S.mono fun id hid => ?_
    rw [e1]
    rcases hid with hid | ⟨i, hi, _, hid⟩
    · omega
    · have : i < ops.size := by
        rcases Nat.lt_or_ge i ops.size with h | h
        · exact h
        · unfold dn at hi; simp [Array.getElem?_eq_none (show listed.size ≤ i by omega)] at hi
      simp only [Array.length_toList]
      omega
  have none_left : ∀ (listed : Array Bool), listed.size = ops.size → Region.ready .any ops listed = [] → ∀ i, i < ops.size → dn listed i := by
    intro listed hsz hr i
    induction i using Nat.strongRecOn with
    | _ i ih =>
      intro hi
      cases hg : listed.getD i false with
      | true => exact hg
      | false =>
        exfalso
        have : i ∈ Region.ready .any ops listed := by
          rw [mem_ready]
          refine ⟨?_, ops[i], Array.getElem?_eq_getElem hi, fun e he hb => ?_⟩
          · simp [show i < listed.size by omega] at hg ⊢; exact hg
          · have hlt := g1 i ops[i] (by simp [hi]) e he hb
            exact ih e.on (by omega) (by omega)
        rw [hr] at this; cases this
  intro fuel
  induction fuel with
  | zero =>
    intro listed a w hsz hcl hcnt S
    have hall : ∀ i, i < ops.size → dn listed i := fun i hi => by
      have h0 : listed.toList.countP (fun b => !b) = 0 := by omega
      rw [List.countP_eq_zero] at h0
      have := h0 (listed[i]'(by omega)) (by simp)
      unfold dn
      simp at this
      simp [show i < listed.size by omega, this]
    refine ⟨?_, full listed a w hsz hall S⟩
    apply List.eq_nil_iff_forall_not_mem.2
    intro j hj
    obtain ⟨h1, o, ho, _⟩ := mem_ready.1 hj
    exact (getD_tf h1).2 (hall j (by have := (getD_tf h1).1; omega))
  | succ fuel ih =>
    intro listed a w hsz hcl hcnt S
    refine ⟨fun hr => full listed a w hsz (none_left listed hsz hr) S, fun j hj => ?_⟩
    obtain ⟨h1, oj, hoj, haft⟩ := mem_ready.1 hj
    obtain ⟨hlt, hnd⟩ := getD_tf h1
    obtain ⟨xj, hxj, hstep⟩ := e4 j oj (by simpa using hoj)
    have hcl' : ClosedU ops (fun i => dn listed i ∨ i = j) := by
      rintro q o hq (hdq | rfl) e he hb
      · exact .inl (hcl q o hq hdq e he hb)
      · rw [hoj] at hq; injection hq with hq; subst hq
        exact .inl (haft e he hb)
    -- what comes earlier in the text has been done or is apart, what comes later and has been done is apart
    have low : ∀ i oi xi, i < j → ops[i]? = some oi → rs[i]? = some xi → ¬ dn listed i → oi.apart ops oj = true ∧ (∀ a ∈ xi.ch.map (·.1), a ∉ xj.T ∧ a ∉ xj.ch.map (·.1)) ∧ ∀ a ∈ xj.ch.map (·.1), a ∉ xi.T := fun i oi xi hij hi hxi hn => by
      rcases pair i j oi oj xi xj hij hi hoj hxi hxj with h | h
      · rcases h _ hcl' (.inr rfl) with h | h
        · exact absurd h hn
        · omega
      · exact h
    have high : ∀ i oi xi, j < i → ops[i]? = some oi → rs[i]? = some xi → dn listed i → oj.apart ops oi = true ∧ (∀ a ∈ xj.ch.map (·.1), a ∉ xi.T ∧ a ∉ xi.ch.map (·.1)) ∧ ∀ a ∈ xi.ch.map (·.1), a ∉ xj.T := fun i oi xi hij hi hxi hn => by
      rcases pair j i oj oi xj xi hij hoj hi hxj hxi with h | h
      · exact absurd (h _ hcl hn) hnd
      · exact h
    have agT : ∀ d ∈ oj.looksAt ops, foldU (dn listed) 0 (tUs ops.toList rs) s.t d = foldU (· < 0 + j) 0 (tUs ops.toList rs) s.t d := fun d hdl => by
      refine foldU_agree (fun i u hi hw => ?_) rfl
      obtain ⟨oi, xi, hoi, hxi, rfl⟩ := zip_get hi
      have hoi : ops[i]? = some oi := by simpa using hoi
      have hdst : oi.dst = some d := by simpa [tUpd] using hw
      rw [Nat.zero_add, Nat.zero_add]
      rcases Nat.lt_trichotomy i j with h | h | h
      · refine ⟨fun _ => h, fun _ => ?_⟩
        apply Classical.byContradiction
        intro hn
        exact (Oper.apart_spec (low i oi xi h hoi hxi hn).1).1 d hdst hdl
      · subst h; exact ⟨fun h => absurd h hnd, fun h => by omega⟩
      · refine ⟨fun hn => ?_, fun h => by omega⟩
        exact ((Oper.apart_spec (high i oi xi h hoi hxi hn).1).2.2 d hdst hdl).elim
    have agH : ∀ id ∈ xj.T, foldU (dn listed) 0 (hUs ops.toList rs) s.h id = foldU (· < 0 + j) 0 (hUs ops.toList rs) s.h id := fun id hid => by
      refine foldU_agree (fun i u hi hw => ?_) rfl
      obtain ⟨oi, xi, hoi, hxi, rfl⟩ := zip_get hi
      have hoi : ops[i]? = some oi := by simpa using hoi
      have hch : id ∈ xi.ch.map (·.1) := by simpa [hUpd] using hw
      rw [Nat.zero_add, Nat.zero_add]
      rcases Nat.lt_trichotomy i j with h | h | h
      · refine ⟨fun _ => h, fun _ => ?_⟩
        apply Classical.byContradiction
        intro hn
        exact ((low i oi xi h hoi hxi hn).2.1 id hch).1 hid
      · subst h; exact ⟨fun h => absurd h hnd, fun h => by omega⟩
      · refine ⟨fun hn => ?_, fun h => by omega⟩
        exact ((high i oi xi h hoi hxi hn).2.2 id hch hid).elim
    have hMn : ∀ id, s.n + 16 * j ≤ id → id < s.n + 16 * j + 16 → ¬ MD s (dn listed) id := fun id h2 h3 hm => by
      rcases hm with hm | ⟨i, hi, h4, h5⟩
      · omega
      · have : i = j := by omega
        subst this; exact hnd hi
    have key := step_ok hio (K := wpAny P .any ops Q fuel (listed.setIfInBounds j true)) (Q := Q) hstep agT agH S hMn fun a' w' S' => by
      refine ih _ a' w' (by simp [hsz]) ?_ ?_ ?_
      · intro q o hq hdq e he hb
        rw [dn_set hlt] at hdq ⊢
        exact hcl' q o hq hdq e he hb
      · rw [Array.toList_setIfInBounds, List.countP_set (by simpa using hlt)]
        have hf : listed.toList[j]'(by simpa using hlt) = false := by
          simp [hlt] at h1 ⊢; exact h1
        simp only [hf, Bool.not_false, if_true, Bool.not_true, Bool.false_eq_true, if_false]
        omega
      · have hD : dn (listed.setIfInBounds j true) = fun i => dn listed i ∨ i = 0 + j := funext fun i => propext (by rw [dn_set hlt, Nat.zero_add])
        have hxl : ops.toList[j]? = some oj := by simpa using hoj
        have ht1 : foldU (dn (listed.setIfInBounds j true)) 0 (tUs ops.toList rs) s.t = Tmps.put (foldU (dn listed) 0 (tUs ops.toList rs) s.t) oj.dst xj.av := by
          rw [hD]; funext x
          refine foldU_put (u := tUpd oj.dst xj.av) (by simp [tUs, List.getElem?_zipWith, hxl, hxj]) fun i v hji hv hdi hw => ?_
          obtain ⟨oi, xi, hoi, hxi, rfl⟩ := zip_get hv
          rw [Nat.zero_add] at hdi
          have hap := (Oper.apart_spec (high i oi xi hji (by simpa using hoi) hxi hdi).1).2.1
          have hdst : oj.dst = some x := by simpa [tUpd] using hw
          have := hap x hdst
          simpa [tUpd] using this
        have ht2 : foldU (dn (listed.setIfInBounds j true)) 0 (hUs ops.toList rs) s.h = AHeap.puts (foldU (dn listed) 0 (hUs ops.toList rs) s.h) xj.ch := by
          rw [hD]; funext x
          refine foldU_put (u := hUpd xj.ch) (by simp [hUs, List.getElem?_zipWith, hxl, hxj]) fun i v hji hv hdi hw => ?_
          obtain ⟨oi, xi, hoi, hxi, rfl⟩ := zip_get hv
          rw [Nat.zero_add] at hdi
          have hap := (high i oi xi hji (by simpa using hoi) hxi hdi).2.1 x (by simpa [hUpd] using hw)
          simpa [hUpd] using hap.2
        rw [ht1, ht2]
        refine S'.mono fun id hid => ?_
        rcases hid with (hid | ⟨i, hi, h4, h5⟩) | hid
        · exact .inl hid
        · exact .inr ⟨i, (dn_set hlt i).2 (.inl hi), h4, h5⟩
        · exact .inr ⟨j, (dn_set hlt j).2 (.inr rfl), by omega, by omega⟩
    unfold wpOp
    simp only [hoj]
    split
    · rename_i hw; rw [if_pos hw] at key; exact .inl key
    · rename_i hw; rw [if_neg hw] at key; exact key

/-- A region, in order or in any of its orders. -/
theorem region_ok {c : Cfg} (hio : c.io = G.io) {id : Nat} {ops : Array Oper} {draw : Bool} {s s' : St} {rs : List StepR} (hm : P.follows .mixedOrders = true) (ht : Traced P c ops ops.toList s rs s') (hd : (!draw || drawOk ops (rs.map StepR.tr)) = true)
    {Q : Exit → Act → World → Prop} {a : Act} {w : World} (S : SR P G c.nt s.t s.h (fun id => id < s.n) a w) (hQ : ∀ a w, SR P G c.nt s'.t s'.h (fun id => id < s'.n) a w → Q .normal a w) : (Code.region id ops draw).wp P Q a w := by
  cases draw with
  | false => exact wp_region_list (list_ok hio ht S hQ)
  | true =>
    refine wp_region_any hm ?_
    have hno : ∀ i, ¬ dn (Array.replicate ops.size false) i := fun i h => by
      unfold dn at h
      simp only [Array.getD_eq_getD_getElem?, Array.getElem?_replicate] at h
      split at h <;> simp at h
    refine any_ok hio ht (by simpa using hd) hQ _ _ _ _ (by simp) (fun j o _ h => absurd h (hno j)) (Nat.le_trans List.countP_le_length (by simp)) ?_
    have h1 : foldU (dn (Array.replicate ops.size false)) 0 (tUs ops.toList rs) s.t = s.t := funext fun y => foldU_none fun i u _ hd => absurd hd (hno _)
    have h2 : foldU (dn (Array.replicate ops.size false)) 0 (hUs ops.toList rs) s.h = s.h := funext fun y => foldU_none fun i u _ hd => absurd hd (hno _)
    rw [h1, h2]
    obtain ⟨F, μ, S⟩ := S
    have := S.grown (w' := { w with drawn := w.drawn + 1 }) ⟨rfl, rfl, rfl, Nat.le_refl _, fun _ _ => rfl⟩ (M' := MD s (dn (Array.replicate ops.size false))) (fun id h => .inl h) (d := none) (v := undef)
    exact ⟨F, μ, this⟩
end
end Go.CE
