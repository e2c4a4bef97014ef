/-
  A computed evaluator over the model's code, part C: what is to be shown of one operation, and what follows for a whole state.
-/
import Derived.Test.YtlbfolepljpmbaaDoorCeB
namespace Go.CE
set_option linter.all false
set_option linter.unusedSectionVars false
open Go Go.RowKit
variable [Tab]

/-- What carrying out an operation comes to. -/
def Does (P : Program) (ρ : Operand → Value) (o : Oper) (w : World) (R : Value → World → Prop) : Prop :=
  match (execOp ρ o).run P w with
  | .ok (.value v) w' => R v w'
  | .ok .skip w' => R undef w'
  | .ok (.enter f args) w' => Calls P f args w' fun e w'' => ∃ v, e = .returned v ∧ R v w''
  | _ => False
theorem Does.wp {P : Program} {a : Act} {o : Oper} {w : World} {R : Value → World → Prop} {next : Act → World → Prop} {Q : Exit → Act → World → Prop}
    (h : Does P a.eval o w R) (hn : ∀ v w', R v w' → next (a.put o.dst v) w') : o.wp P a w next Q := by
  unfold Does at h
  unfold Oper.wp
  generalize (execOp a.eval o).run P w = r at *
  cases r with
  | ok n w' =>
    cases n <;> simp only [Oper.upon] at h ⊢ <;> first
      | exact hn _ _ h
      | exact h.elim
      | (refine Calls.mono h ?_; rintro e w'' ⟨v, rfl, hr⟩; exact hn _ _ hr)
  | halt x w' => exact h.elim
theorem Does.mono {P : Program} {ρ : Operand → Value} {o : Oper} {w : World} {R R' : Value → World → Prop} (h : Does P ρ o w R) (hr : ∀ v w', R v w' → R' v w') : Does P ρ o w R' := by
  unfold Does at *
  generalize (execOp ρ o).run P w = r at *
  cases r with
  | ok n w' =>
    cases n <;> first
      | exact hr _ _ h
      | exact h.elim
      | (refine Calls.mono h ?_; rintro e w'' ⟨v, rfl, hq⟩; exact ⟨v, rfl, hr _ _ hq⟩)
  | halt x w' => exact h.elim
theorem Does.value {P : Program} {ρ : Operand → Value} {o : Oper} {w w' : World} {v : Value} {R : Value → World → Prop} (h : (execOp ρ o).run P w = .ok (.value v) w') (hr : R v w') : Does P ρ o w R := by
  unfold Does; rw [h]; exact hr
theorem Does.skip {P : Program} {ρ : Operand → Value} {o : Oper} {w w' : World} {R : Value → World → Prop} (h : (execOp ρ o).run P w = .ok .skip w') (hr : R undef w') : Does P ρ o w R := by
  unfold Does; rw [h]; exact hr

def TouchO (Own : Nat → Prop) (w w' : World) : Prop :=
  w'.os = w.os ∧ w'.tape = w.tape ∧ w'.output = w.output ∧ w.heap.size ≤ w'.heap.size ∧ ∀ b, ¬ Own b → w'.heap[b]? = w.heap[b]?
theorem TouchO.refl (Own : Nat → Prop) (w : World) : TouchO Own w w := ⟨rfl, rfl, rfl, Nat.le_refl _, fun _ _ => rfl⟩
theorem TouchO.trans {Own : Nat → Prop} {a b c : World} (h : TouchO Own a b) (k : TouchO Own b c) : TouchO Own a c :=
  ⟨k.1.trans h.1, k.2.1.trans h.2.1, k.2.2.1.trans h.2.2.1, Nat.le_trans h.2.2.2.1 k.2.2.2.1, fun i hi => (k.2.2.2.2 i hi).trans (h.2.2.2.2 i hi)⟩
theorem TouchO.of_below {Own : Nat → Prop} {w w' : World} (h : Below w.heap.size w w') (ho : ∀ b, w.heap.size ≤ b → Own b) : TouchO Own w w' :=
  ⟨h.os, h.tape, h.output, h.size, fun b hb => h.block b (Nat.lt_of_not_le fun hl => hb (ho b hl))⟩

/-- The numbers that an operation may name, behind it. -/
def more (M : Nat → Prop) (n : Nat) : Nat → Prop := fun id => M id ∨ (n ≤ id ∧ id < n + 16)

/-- A block that an object held which is no longer ours to write. -/
def Frz (hf : AHeap) (μ : Mu) (c : Chg) (b : Nat) : Prop := ∃ id o, (id, none) ∈ c ∧ hf id = some o ∧ μ id = some b
structure Post (P : Program) (Own F M : Nat → Prop) (μ : Mu) (hf : AHeap) (w : World) (n : Nat) (c : Chg) (av : AV) (v : Value) (w' : World) (F' : Nat → Prop) (μ' : Mu) : Prop where
  fresh : ∀ b, F' b → F b ∨ w.heap.size ≤ b ∨ Frz hf μ c b
  mu : ∀ id, M id → μ' id = μ id
  touch : TouchO Own w w'
  later : Later F F' M (more M n) μ μ' hf (hf.puts c) w w'
  hrel : HRel P Own F' (more M n) μ' (hf.puts c) w'
  av : avRel P F' (more M n) μ' (hf.puts c) w' av v

/-- The operation, from any state that agrees on what it looks at, yields this and changes that. -/
def LSem (P : Program) (o : Oper) (t : Tmps) (h : AHeap) (n : Nat) (av : AV) (T : List Nat) (c : Chg) : Prop :=
  (∀ p ∈ c, p.1 ∈ T ∨ n ≤ p.1) ∧ ((∀ p ∈ c, p.1 < n + 16) →
  ∀ (Own F M : Nat → Prop) (μ : Mu) (hf : AHeap) (w : World) (ρ : Operand → Value), (∀ f, ρ (.func f) = .func (.func f) #[] #[]) →
    (∀ b, w.heap.size ≤ b → Own b) → (∀ id, n ≤ id → id < n + 16 → ¬ M id) → (∀ id ∈ T, hf id = h id) →
    (∀ x ∈ o.op.operands, avRel P F M μ hf w (opdV t x) (ρ x)) → HRel P Own F M μ hf w →
    Does P ρ o w fun v w' => ∃ F' μ', Post P Own F M μ hf w n c av v w' F' μ')

theorem CapOk.of_eq {w w' : World} {b n : Nat} (h : w'.heap[b]? = w.heap[b]?) : CapOk w b n → CapOk w' b n
  | ⟨vs, e, h1, h2⟩ => ⟨vs, e, h.trans h1, h2⟩
theorem CapOk.lt {w : World} {b n : Nat} : CapOk w b n → b < w.heap.size
  | ⟨_, _, h1, _⟩ => (Array.getElem?_eq_some_iff.1 h1).1
theorem CapOk.of_below {w w' : World} {b n : Nat} (k : Below w.heap.size w w') (h : CapOk w b n) : CapOk w' b n := CapOk.of_eq (k.block b h.lt) h

theorem HRel.step {P : Program} {Own F F' M M' : Nat → Prop} {μ μ' : Mu} {h h' : AHeap} {w w' : World} (Chd : Nat → Prop)
    (H : HRel P Own F M μ h w) (k : Later F F' M M' μ μ' h h' w w') (hc : Closed F' w') (hfresh : ∀ b, F' b → F b ∨ w.heap.size ≤ b ∨ ∃ id o, h id = some o ∧ h' id = none ∧ μ id = some b) (hsz : w.heap.size ≤ w'.heap.size)
    (same : ∀ id o, ¬ Chd id → h' id = some o → h id = some o)
    (blk : ∀ id o b, ¬ Chd id → h' id = some o → μ id = some b → w'.heap[b]? = w.heap[b]?)
    (new : ∀ id o, Chd id → h' id = some o → M' id ∧ objRel P F' M' μ' h' w' id o ∧ ∀ b, μ' id = some b → b < w'.heap.size ∧ Own b ∧ ¬ F' b ∧
      ∀ id2 o2, h' id2 = some o2 → μ' id2 = some b → id2 = id) : HRel P Own F' M' μ' h' w' := by
  have old : ∀ id o, ¬ Chd id → h' id = some o → h id = some o ∧ M id ∧ μ' id = μ id := fun id o hd ho => by
    have h1 := same id o hd ho
    have h2 := H.mem id o h1
    obtain ⟨_, _, _, h3⟩ := k.live id o h2 ho
    exact ⟨h1, h2, h3⟩
  refine ⟨hc, fun id o ho => ?_, fun id o ho => ?_, fun id o b ho hm => ?_, fun id id' o o' b ho ho' hm hm' => ?_⟩
  · by_cases hd : Chd id
    · exact (new id o hd ho).1
    · exact k.mem _ (old id o hd ho).2.1
  · by_cases hd : Chd id
    · exact (new id o hd ho).2.1
    · obtain ⟨h1, h2, h3⟩ := old id o hd ho
      exact objRel_later k h3 (fun b hb => blk id o b hd ho hb) (H.obj id o h1)
  · by_cases hd : Chd id
    · exact ⟨((new id o hd ho).2.2 b hm).1, ((new id o hd ho).2.2 b hm).2.1, ((new id o hd ho).2.2 b hm).2.2.1⟩
    · obtain ⟨h1, h2, h3⟩ := old id o hd ho
      rw [h3] at hm
      obtain ⟨g1, g2, g3⟩ := H.own id o b h1 hm
      refine ⟨by omega, g2, fun hb => (hfresh b hb).elim g3 fun hl => hl.elim (fun hl => by omega) fun ⟨i, oi, e1, e2, e3⟩ => ?_⟩
      have := H.inj i id oi o b e1 h1 e3 hm
      subst this
      rw [ho] at e2; cases e2
  · by_cases hd : Chd id
    · exact (((new id o hd ho).2.2 b hm).2.2.2 id' o' ho' hm').symm
    · by_cases hd' : Chd id'
      · exact ((new id' o' hd' ho').2.2 b hm').2.2.2 id o ho hm
      · obtain ⟨h1, h2, h3⟩ := old id o hd ho
        obtain ⟨h1', h2', h3'⟩ := old id' o' hd' ho'
        rw [h3] at hm; rw [h3'] at hm'
        exact H.inj id id' o o' b h1 h1' hm hm'

theorem more_sub {M : Nat → Prop} {n : Nat} : ∀ id, M id → more M n id := fun _ h => .inl h
/-- Nothing has turned but for memory that was laid anew. -/
theorem Later.of_below {F F' M M' : Nat → Prop} {μ : Mu} {h : AHeap} {w w' : World} (hc : Closed F w) (hF : ∀ b, F b → F' b) (hM : ∀ id, M id → M' id) (k : Below w.heap.size w w') : Later F F' M M' μ μ h h w w' :=
  ⟨Ext.of_below hc k, hF, hM, fun _ o' _ ho => ⟨o', ho, o'.alike_refl, rfl⟩, fun _ _ => CapOk.of_below k⟩
theorem HRel.below {P : Program} {Own F F' M M' : Nat → Prop} {μ : Mu} {h : AHeap} {w w' : World} (H : HRel P Own F M μ h w) (k : Below w.heap.size w w')
    (hF : ∀ b, F b → F' b) (hfr : ∀ b, F' b → F b ∨ w.heap.size ≤ b) (hc : Closed F' w') (hM : ∀ id, M id → M' id) : HRel P Own F' M' μ h w' :=
  H.step (fun _ => False) (Later.of_below H.closed hF hM k) hc (fun b hb => (hfr b hb).imp id .inl) k.size (fun _ _ _ h => h) (fun id o b _ ho hm => k.block b (H.own id o b ho hm).1) (fun _ _ h => h.elim)

/-- An operation that changes no object: the world has only grown. -/
theorem Post.still {P : Program} {Own F F' M : Nat → Prop} {μ : Mu} {hf : AHeap} {w w' : World} {n : Nat} {av : AV} {v : Value} (H : HRel P Own F M μ hf w) (hown : ∀ b, w.heap.size ≤ b → Own b)
    (k : Below w.heap.size w w') (hF : ∀ b, F b → F' b) (hfr : ∀ b, F' b → F b ∨ w.heap.size ≤ b) (hc : Closed F' w') (hav : avRel P F' (more M n) μ hf w' av v) : Post P Own F M μ hf w n [] av v w' F' μ :=
  ⟨fun b hb => (hfr b hb).imp id .inl, fun _ _ => rfl, .of_below k hown, Later.of_below H.closed hF more_sub k, H.below k hF hfr hc more_sub, hav⟩
theorem Post.pure {P : Program} {Own F M : Nat → Prop} {μ : Mu} {hf : AHeap} {w : World} {n : Nat} {av : AV} {v : Value} (H : HRel P Own F M μ hf w) (hown : ∀ b, w.heap.size ≤ b → Own b)
    (hav : avRel P F M μ hf w av v) : Post P Own F M μ hf w n [] av v w F μ :=
  .still H hown (Below.refl _ _) (fun _ h => h) (fun _ h => .inl h) H.closed (avRel_later (Later.of_below H.closed (fun _ h => h) more_sub (Below.refl _ _)) hav)
theorem LSem.pure {P : Program} {o : Oper} {t : Tmps} {h : AHeap} {n : Nat} {av : AV} {T : List Nat}
    (hs : ∀ (Own F M : Nat → Prop) (μ : Mu) (hf : AHeap) (w : World) (ρ : Operand → Value), (∀ id ∈ T, hf id = h id) → (∀ x ∈ o.op.operands, avRel P F M μ hf w (opdV t x) (ρ x)) → HRel P Own F M μ hf w →
      ∃ v, (execOp ρ o).run P w = .ok (.value v) w ∧ avRel P F M μ hf w av v) : LSem P o t h n av T [] :=
  ⟨fun _ hp => (List.not_mem_nil hp).elim, fun _ Own F M μ hf w ρ _ hown _ hT hops H => by
    obtain ⟨v, hr, hv⟩ := hs Own F M μ hf w ρ hT hops H
    exact Does.value hr ⟨F, μ, .pure H hown hv⟩⟩

theorem puts_nil (h : AHeap) : h.puts [] = h := rfl
theorem AHeap.put_same (h : AHeap) (id : Nat) (o : Option AObj) : h.put id o id = o := by simp [AHeap.put]
theorem AHeap.put_ne (h : AHeap) {id i : Nat} (o : Option AObj) (hi : i ≠ id) : h.put id o i = h i := by simp [AHeap.put, hi]

/-- One new object, at number n, in block b of a world that has only grown. -/
theorem Post.made {P : Program} {Own F M : Nat → Prop} {μ : Mu} {hf : AHeap} {w w' : World} {n b : Nat} {ob : AObj} {av : AV} {v : Value} (H : HRel P Own F M μ hf w) (hown : ∀ b, w.heap.size ≤ b → Own b)
    (hM : ∀ id, n ≤ id → id < n + 16 → ¬ M id) (k : Below w.heap.size w w') (hb : w.heap.size ≤ b) (hb' : b < w'.heap.size)
    (hob : ∀ μ', μ' n = some b → (∀ id, M id → μ' id = μ id) → Later F F M (more M n) μ μ' hf (hf.put n (some ob)) w w' → objRel P F (more M n) μ' (hf.put n (some ob)) w' n ob)
    (hav : ∀ μ', μ' n = some b → (∀ id, M id → μ' id = μ id) → Later F F M (more M n) μ μ' hf (hf.put n (some ob)) w w' → avRel P F (more M n) μ' (hf.put n (some ob)) w' av v) :
    ∃ F' μ', Post P Own F M μ hf w n [(n, some ob)] av v w' F' μ' := by
  have hn : ¬ M n := hM n (Nat.le_refl _) (by omega)
  let μ' : Mu := fun id => if id = n then some b else μ id
  have hμn : μ' n = some b := if_pos rfl
  have hμ : ∀ id, M id → μ' id = μ id := fun id hi => if_neg fun (e : id = n) => hn (by rw [← e]; exact hi)
  have hL : Later F F M (more M n) μ μ' hf (hf.put n (some ob)) w w' :=
    ⟨Ext.of_below H.closed k, fun _ h => h, more_sub, fun id o' hi ho => by
      rw [AHeap.put_ne hf _ (fun (e : id = n) => hn (by rw [← e]; exact hi))] at ho
      exact ⟨o', ho, o'.alike_refl, hμ id hi⟩, fun _ _ => CapOk.of_below k⟩
  refine ⟨F, μ', fun _ h => .inl h, hμ, .of_below k hown, hL, ?_, hav μ' hμn hμ hL⟩
  refine H.step (fun id => id = n) hL (H.closed.next hL.ext (fun _ h => h) fun b hb => Nat.lt_of_lt_of_le (H.closed.1 b hb) k.size) (fun _ h => .inl h) k.size (fun id o hd ho => ?_) (fun id o b hd ho hm => ?_) (fun id o hd ho => ?_)
  · simpa [AHeap.puts, AHeap.put_ne _ _ hd] using ho
  · have ho' : hf id = some o := by simpa [AHeap.puts, AHeap.put_ne _ _ hd] using ho
    exact k.block b (H.own id o b ho' hm).1
  · subst hd
    have ho' : some ob = some o := by simpa [AHeap.puts, AHeap.put_same] using ho
    injection ho' with ho'; subst ho'
    refine ⟨.inr ⟨Nat.le_refl _, by omega⟩, hob μ' hμn hμ hL, fun b2 hm => ?_⟩
    rw [hμn] at hm; injection hm with hm; subst hm
    refine ⟨hb', hown _ hb, fun hF => absurd (H.closed.1 _ hF) (by omega), fun id2 o2 h2 hm2 => ?_⟩
    by_cases e : id2 = id
    · exact e
    · exfalso
      have h2' : hf id2 = some o2 := by simpa [AHeap.puts, AHeap.put_ne _ _ e] using h2
      have := (H.own id2 o2 b h2' (by rw [← hμ id2 (H.mem id2 o2 h2')]; exact hm2)).1
      omega
end Go.CE
