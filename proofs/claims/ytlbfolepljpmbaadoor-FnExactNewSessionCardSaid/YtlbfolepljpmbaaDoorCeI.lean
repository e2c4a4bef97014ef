/-
  A computed evaluator over the model's code, part I: what is to be shown of a function; the operations other than calls of functions.
-/
import Derived.Test.YtlbfolepljpmbaaDoorCeH
namespace Go.CE
set_option linter.all false
set_option linter.unusedSectionVars false
open Go Go.RowKit
variable [Tab]
set_option linter.unusedVariables false
set_option linter.unusedSimpArgs false

/-- What a function's description says: called with what reads as 'xs', it returns what reads as 'fn xs', where that is 'some'. -/
def Sound (P : Program) (f : FuncId) (sg : Sig) : Prop := Enters P f ∧ ∀ (w : World) (F : Nat → Prop) (μ : Mu) (xs : sg.a.den) (ys : sg.r.den) (vals : Array Value), sg.fn xs = some ys →
  a1sRel P F (fun id => id < sg.a.so.length) μ (enumO 0 (packO sg.a.so xs.2)) w (packV sg.a.sv xs.1) vals.toList →
  HRel P (fun b => w.heap.size ≤ b ∨ ∃ id, id < sg.io ∧ μ id = some b) F (fun id => id < sg.a.so.length) μ (enumO 0 (packO sg.a.so xs.2)) w →
  Calls P f vals w fun e w' => ∃ v F' μ', e = .returned v ∧ TouchO (fun b => w.heap.size ≤ b ∨ ∃ id, id < sg.io ∧ μ id = some b) w w' ∧ (∀ b, F b → F' b) ∧ (∀ b, F' b → F b ∨ w.heap.size ≤ b) ∧
    (∀ b m, CapOk w b m → CapOk w' b m) ∧ (∀ id, id < sg.io → μ' id = μ id) ∧ (∀ id b, sg.io ≤ id → id < sg.r.so.length → μ' id = some b → w.heap.size ≤ b) ∧
    HRel P (fun _ => True) F' (fun id => id < sg.r.so.length) μ' (enumO 0 (packO sg.r.so ys.2)) w' ∧ avRel P F' (fun id => id < sg.r.so.length) μ' (enumO 0 (packO sg.r.so ys.2)) w' (resAV (packV sg.r.sv ys.1)) v
def GOk (P : Program) (g : GTab) : Prop := ∀ f sg, g f = some sg → Sound P f sg

section
variable {P : Program}

theorem run_v {α : Type} {x : Sem α} {f : α → Next} {w w' : World} {a : α} (h : x.run P w = .ok a w') : (do pure (f (← x)) : Sem Next).run P w = .ok (f a) w' := by
  simp [Sem.run_bind, h]
theorem LSem.val {o : Oper} {t : Tmps} {h : AHeap} {n : Nat} {a : A1} {T : List Nat}
    (hs : ∀ (Own F M : Nat → Prop) (μ : Mu) (hf : AHeap) (w : World) (ρ : Operand → Value), (∀ id ∈ T, hf id = h id) → (∀ x ∈ o.op.operands, avRel P F M μ hf w (opdV t x) (ρ x)) → HRel P Own F M μ hf w →
      ∃ v, (execOp ρ o).run P w = .ok (.value v) w ∧ a1Rel P F M μ hf w a v) : LSem P o t h n (.v a) T [] := LSem.pure hs

theorem L_move {o : Oper} {x : Operand} (ho : o.op = .move x ∨ o.op = .assign x) {t : Tmps} {h : AHeap} {n : Nat} : LSem P o t h n (opdV t x) [] [] :=
  LSem.pure fun Own F M μ hf w ρ _ hops _ => ⟨ρ x, by rcases ho with ho | ho <;> simp only [execOp, ho] <;> rfl, hops x (by rcases ho with ho | ho <;> simp [ho, Op.operands])⟩

theorem L_pick {o : Oper} {q a b : Operand} (ho : o.op = .pick q a b) {t : Tmps} {h : AHeap} {n : Nat} {v : Bool} (hq : opd t q = .lf (.dat .b v)) {av : A1} (hav : ∀ {F M : Nat → Prop} {μ : Mu} {hf : AHeap} {w : World} {va vb : Value},
    a1Rel P F M μ hf w (opd t a) va → a1Rel P F M μ hf w (opd t b) vb → a1Rel P F M μ hf w av (if v then va else vb)) : LSem P o t h n (.v av) [] [] :=
  LSem.val fun Own F M μ hf w ρ _ hops _ => by
    have h1 := opd_rel (hops q (by simp [ho, Op.operands]))
    rw [hq] at h1
    have h1 := a1_bool h1
    refine ⟨_, ?_, hav (opd_rel (hops a (by simp [ho, Op.operands]))) (opd_rel (hops b (by simp [ho, Op.operands])))⟩
    simp only [execOp, ho, h1, asBool]
    cases v <;> rfl

theorem L_alloc {o : Oper} {ty : TypeId} (ho : o.op = .alloc ty) {ti : TI} (hti : TEnt P ty ti) {t : Tmps} {h : AHeap} {n : Nat} :
    LSem P o t h n (.v (.lf (.ref n 0))) [] [(n, some (.cells (constA1 ti.zero).leaves))] :=
  ⟨fun p hp => by simp at hp; simp [hp], fun _ Own F M μ hf w ρ _ hown hM _ _ H => by
    refine Does.value (w' := w.alloc (.cells ti.zero.cells ty)) (v := .pointer (some ⟨w.heap.size, 0, none⟩)) ?_ ?_
    · simp [execOp, ho, Instr.alloc, run_zeroT hti, newVar, newRow]
    · have hb : Below w.heap.size w (w.alloc (.cells ti.zero.cells ty)) := (Below.refl _ _).alloc (Nat.le_refl _) _
      refine Post.made H hown hM hb (Nat.le_refl _) (by simp) (fun μ' hn _ _ => ⟨w.heap.size, ti.zero.cells, ty, hn, heap_alloc_new w _, constLeaves_rel _⟩) fun μ' hn _ _ => ?_
      exact ⟨.inr ⟨Nat.le_refl _, by omega⟩, rfl, fun o ho => ⟨_, hn, rfl⟩⟩⟩

theorem L_box {o : Oper} {ty : TypeId} {x : Operand} (ho : o.op = .box ty x) {t : Tmps} {h : AHeap} {n : Nat} (hk : (opd t x).leaves.all AL.known = true) :
    LSem P o t h n (.v (.lf (.ref n 0))) [] [(n, some (.cells (opd t x).leaves))] :=
  ⟨fun p hp => by simp at hp; simp [hp], fun _ Own F M μ hf w ρ _ hown hM _ hops H => by
    have hx := opd_rel (hops x (by simp [ho, Op.operands]))
    refine Does.value (w' := w.alloc (.cells (ρ x).cells ty)) (v := .pointer (some ⟨w.heap.size, 0, none⟩)) ?_ ?_
    · simp [execOp, ho, Instr.box, newVar, newRow]
    · have hb : Below w.heap.size w (w.alloc (.cells (ρ x).cells ty)) := (Below.refl _ _).alloc (Nat.le_refl _) _
      refine Post.made H hown hM hb (Nat.le_refl _) (by simp) (fun μ' hn _ hL => ⟨w.heap.size, (ρ x).cells, ty, hn, heap_alloc_new w _, alsRel_later hL (leaves_rel hk hx).1⟩) fun μ' hn _ _ => ?_
      exact ⟨.inr ⟨Nat.le_refl _, by omega⟩, rfl, fun o ho => ⟨_, hn, rfl⟩⟩⟩

theorem tyOf_rd {F M : Nat → Prop} {μ : Mu} {hf : AHeap} {w : World} : ∀ {l : List AL} {vs : List Value} {t : Ty} {y : t.den}, alsRel P F M μ hf w l vs → tyOf l = some ⟨t, y⟩ → rd P t F w y vs
  | [], _, _, _, _, h => by simp [tyOf] at h
  | [.dat t x], vs, t', y, ⟨v, r, e, h1, h2⟩, h => by
    simp only [tyOf] at h
    split at h
    · cases h
    · injection h with h; injection h with h3 h4; subst h3; subst h4; cases h2; subst e; exact h1
  | .dat t x :: b :: l, vs, t', y, ⟨v, r, e, h1, h2⟩, h => by
    simp only [tyOf] at h
    split at h
    · cases h
    · split at h
      · rename_i t2 y2 h3
        injection h with h; injection h with h4 h5; subst h4; subst h5
        subst e
        exact ⟨[v], r, rfl, h1, tyOf_rd h2 h3⟩
      · cases h
  | .unk :: _, _, _, _, _, h => by simp [tyOf] at h
  | .nils :: _, _, _, _, _, h => by simp [tyOf] at h
  | .ref _ _ :: _, _, _, _, _, h => by simp [tyOf] at h
  | .sl _ _ :: _, _, _, _, _, h => by simp [tyOf] at h
  | .elt _ _ _ _ :: _, _, _, _, _, h => by simp [tyOf] at h
  | .rp _ _ _ :: _, _, _, _, _, h => by simp [tyOf] at h
theorem boxTy_rd {F M : Nat → Prop} {μ : Mu} {hf : AHeap} {w : World} {a : A1} {v : Value} {t : Ty} {y : t.den} (r : a1Rel P F M μ hf w a v) (h : boxTy a = some ⟨t, y⟩) : rd P t F w y v.cells.toList := by
  unfold boxTy at h
  split at h
  · rename_i t2 x
    split at h
    · cases h
    · injection h with h; injection h with h3 h4; subst h3; subst h4
      rw [cells_one (al_one (P := P) (F := F) (M := M) (μ := μ) (hf := hf) (w := w) (a := .dat t2 x) rfl r)]; exact r
  · rename_i t2 x
    split at h
    · cases h
    · injection h with h; injection h with h3 h4; subst h3; subst h4
      obtain ⟨cs, rfl, v, r, e, h1, h2⟩ := r
      cases h2
      show rd P (.one t2) F w x cs.toList
      rw [e]; exact h1
  · obtain ⟨cs, rfl, r⟩ := r
    exact tyOf_rd r h
  · cases h
theorem L_boxF {o : Oper} {ty : TypeId} {x : Operand} (ho : o.op = .box ty x) {t : Tmps} {h : AHeap} {n : Nat} {bt : Ty} {y : bt.den} (hb : boxTy (opd t x) = some ⟨bt, y⟩) :
    LSem P o t h n (.v (.lf (.rp bt y 0))) [] [] :=
  ⟨fun p hp => (List.not_mem_nil hp).elim, fun _ Own F M μ hf w ρ _ hown hM _ hops H => by
    have hx := boxTy_rd (opd_rel (hops x (by simp [ho, Op.operands]))) hb
    refine Does.value (w' := w.alloc (.cells (ρ x).cells ty)) (v := .pointer (some ⟨w.heap.size, 0, none⟩)) ?_ ?_
    · simp [execOp, ho, Instr.box, newVar, newRow]
    · have hbel : Below w.heap.size w (w.alloc (.cells (ρ x).cells ty)) := (Below.refl _ _).alloc (Nat.le_refl _) _
      refine ⟨fun b => F b ∨ b = w.heap.size, μ, Post.still H hown hbel (fun _ h => .inl h) (fun b h => h.imp id fun e => by omega) (H.closed.next (Ext.of_below H.closed hbel) (fun _ h => .inl h) fun b h => ?_) ?_⟩
      · rcases h with h | h
        · have := H.closed.1 b h; simp; omega
        · simp [h]
      · exact ⟨w.heap.size, 0, _, rfl, .inr rfl, rd_mono hx (Ext.of_below H.closed hbel) (fun _ h => .inl h), cellsAt_row (heap_alloc_new w _)⟩⟩

theorem partsRel_of {F M : Nat → Prop} {μ : Mu} {hf : AHeap} {w : World} {t : Tmps} {ρ : Operand → Value} : ∀ {ps : List (Nat × Operand)}, (∀ p ∈ ps, avRel P F M μ hf w (opdV t p.2) (ρ p.2)) →
    partsRel P F M μ hf w (ps.map fun p => (p.1, opd t p.2)) (ps.map fun p => (p.1, ρ p.2))
  | [], _ => rfl
  | p :: ps, h => ⟨ρ p.2, _, rfl, opd_rel (h p (by simp)), partsRel_of fun q hq => h q (by simp [hq])⟩

theorem L_build {o : Oper} {ty : TypeId} {ps : Array (Nat × Operand)} (ho : o.op = .build ty ps) {tt : TTab} (hT : TOk P tt) {ti : TI} (hti : tt ty = some ti) {fs : Array Field} (hu : ti.u = .struct fs) {pl : List (Nat × Nat)}
    (hpl : places tt fs.toList = some pl) {t : Tmps} {h : AHeap} {n : Nat} {l : List AL} (hl : fillParts pl (constA1 ti.zero).leaves (ps.toList.map fun p => (p.1, opd t p.2)) = some l) : LSem P o t h n (.v (.ag l)) [] [] :=
  LSem.val fun Own F M μ hf w ρ _ hops _ => by
    have hE := hT _ _ hti
    obtain ⟨i, hi, _, _, hz⟩ := hE.info
    obtain ⟨cells, hc, hr⟩ := fillParts_ok (P := P) (F := F) (M := M) (μ := μ) (hf := hf) (w := w) (partsRel_of (ρ := ρ) (ps := ps.toList) fun p hp => hops p.2 (by
      simp only [ho, Op.operands, List.mem_toArray, List.mem_map]; exact ⟨p, hp, rfl⟩)) (constLeaves_rel ti.zero) hl
    refine ⟨.agg cells, ?_, cells, rfl, hr⟩
    have hb : P.built ty ((ps.map fun (i, x) => (i, ρ x)).toList) = some cells := by
      unfold Program.built
      have := places_ok hT hpl
      simp only [hi, hE.u, hu, hz, this]
      simpa using hc
    simp only [execOp, ho]
    exact run_v (run_build w ty _ cells hb)

theorem L_buildSlice {o : Oper} {ty : TypeId} {len : Nat} {ps : Array (Nat × Operand)} (ho : o.op = .buildSlice ty len ps) {tt : TTab} (hT : TOk P tt) {ti te : TI} (hti : tt ty = some ti) {el : TypeId} (hu : ti.u = .slice el) (hte : tt el = some te) {et : Ty}
    (hsz : te.sz = et.sz) (hsmall : len * te.sz ≤ 2 ^ 20) (hps : ps.size = len) {t : Tmps} {h : AHeap} {n : Nat} {l : List et.den} (hl : fillElems h et 0 (ps.toList.map fun p => (p.1, opd t p.2)) = some l) (hpos : 0 < et.sz) :
    LSem P o t h n (.v (.lf (.sl et n))) [] [(n, some (.arr el et l))] :=
  ⟨fun p hp => by simp at hp; simp [hp], fun _ Own F M μ hf w ρ _ hown hM _ hops H => by
    have hE := hT _ _ hte
    obtain ⟨i, hi, hs, _, hz⟩ := hE.info
    have hu' : P.underlying ty = some (.slice el) := by rw [(hT _ _ hti).u, hu]
    have hps' : (ps.toList.map fun p => (p.1, opd t p.2)).length = len := by simpa using hps
    have hparts := partsRel_of (P := P) (F := F) (M := M) (μ := μ) (hf := hf) (w := w) (t := t) (ρ := ρ) (ps := ps.toList) fun p hp => hops p.2 (by
      simp only [ho, Op.operands, List.mem_toArray, List.mem_map]; exact ⟨p, hp, rfl⟩)
    obtain ⟨cells, cs, h2, h3, h4, h6, hz2⟩ : ∃ cells cs, cells.size = len * te.sz ∧ l.length = (ps.toList.map fun p => (p.1, opd t p.2)).length ∧ RdAll (rd P et F w) l cs ∧ (cells.toList.drop (0 * et.sz)).take cs.length = cs ∧
        (Instr.buildSlice ty len (ps.map fun (i, x) => (i, ρ x))).run P w = .ok (.slice (some ⟨w.heap.size, 0, none⟩) len len) (w.alloc (.cells cells el)) := by
      by_cases h0 : len * i.size = 0
      · have hl0 : len = 0 := by
          rcases Nat.mul_eq_zero.1 h0 with h | h
          · exact h
          · omega
        subst hl0
        have hps0 : ps = #[] := Array.eq_empty_of_size_eq_zero hps
        subst hps0
        simp only [fillElems, List.map_nil, Option.some.injEq] at hl
        subst hl
        refine ⟨#[], [], by simp, rfl, rfl, rfl, ?_⟩
        unfold Instr.buildSlice
        simp [run_underlying hu', run_sizeOfT hE, Instr.fill, newRow]
        rw [Array.eq_empty_of_size_eq_zero (xs := Array.map (fun x => default) (Array.range 0)) (by simp)]
      · obtain ⟨cells, cs, h1, h2, h3, h4, _, h6⟩ := fillElems_ok (pos := hpos) H (cells := (Array.range (len * i.size)).map (te.zero.cells[· % te.zero.cells.size]!)) hparts hl (by simp [hps, hs, hsz])
        refine ⟨cells, cs, by rw [h2]; simp [hs], h3, h4, h6, ?_⟩
        refine run_buildSlice w ty el len _ cells i te.zero hu' hi hz (by rw [hs]; omega) h0 ?_
        rw [hs, hsz] at *
        simpa using h1
    have hlen : l.length = len := by rw [h3, hps']
    have h4len := h4.length (fun _ _ r => rd_len r)
    refine Does.value (w' := w.alloc (.cells cells el)) (v := .slice (some ⟨w.heap.size, 0, none⟩) len len) (by simp only [execOp, ho]; exact run_v hz2) ?_
    have hb : Below w.heap.size w (w.alloc (.cells cells el)) := (Below.refl _ _).alloc (Nat.le_refl _) _
    have hml : len ≤ maxLen := by
      have : len ≤ len * te.sz := Nat.le_mul_of_pos_right _ (by omega)
      unfold maxLen; omega
    refine Post.made H hown hM hb (Nat.le_refl _) (by simp) (fun μ' hn _ hL => .inr ⟨w.heap.size, cells, cs, hn, heap_alloc_new w _, h4.mono fun _ _ r => rd_mono r hL.ext hL.sub, ?_⟩) fun μ' hn _ _ => ?_
    · rw [← h4len]; simpa using h6
    · refine ⟨.inr ⟨Nat.le_refl _, by omega⟩, rfl, fun e' l' hl' => .inr ⟨w.heap.size, len, hn, ?_, ?_, hml, cells, el, heap_alloc_new w _, by rw [h2, hsz]⟩⟩
      all_goals
        rw [AHeap.put_same] at hl'; injection hl' with hl'; injection hl' with _ _ hl'; cases hl'
      · rw [hlen]
      · omega⟩

theorem L_load {o : Oper} {ty : TypeId} {a : Operand} (ho : o.op = .load ty a) {ti : TI} (hti : TEnt P ty ti) {t : Tmps} {h : AHeap} {n : Nat} {R : Type} {k : A1 → List Nat → Option R} {r : R} (he : evLoad ti h (opd t a) k = some r) :
    ∃ v T, k v T = some r ∧ LSem P o t h n (.v v) T [] := by
  obtain ⟨v, T, hk, hs⟩ := evLoad_sound hti he
  refine ⟨v, T, hk, LSem.val fun Own F M μ hf w ρ hT hops H => ?_⟩
  obtain ⟨val, h1, h2⟩ := hs Own F M μ hf w (ρ a) hT H (opd_rel (hops a (by simp [ho, Op.operands])))
  exact ⟨val, by simp only [execOp, ho]; exact run_v h1, h2⟩
theorem L_store {o : Oper} {ty : TypeId} {a v : Operand} (ho : o.op = .store ty a v) {ti : TI} (hti : TEnt P ty ti) {t : Tmps} {h : AHeap} {n : Nat} {R : Type} {k : K R} {r : R} (he : evStore ti h (opd t a) (opd t v) k = some r) :
    ∃ T c, k (.v (.lf .unk)) T c = some r ∧ LSem P o t h n (.v (.lf .unk)) T c := by
  obtain ⟨T, c, hk, hc, hs⟩ := evStore_sound hti he
  refine ⟨T, c, hk, fun p hp => .inl (hc p hp), fun _ Own F M μ hf w ρ _ hown hM hT hops H => ?_⟩
  obtain ⟨w', h1, h2⟩ := hs Own F M μ hf w n (ρ a) (ρ v) hT H (opd_rel (hops a (by simp [ho, Op.operands]))) (opd_rel (hops v (by simp [ho, Op.operands])))
  refine Does.skip (w' := w') ?_ ⟨F, μ, h2⟩
  simp only [execOp, ho, Sem.run_bind, h1, Result.andThen_ok]; rfl
end
end Go.CE
