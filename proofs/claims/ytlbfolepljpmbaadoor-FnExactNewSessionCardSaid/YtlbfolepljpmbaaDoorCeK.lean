/-
  A computed evaluator over the model's code, part K: slices of slices, elements, append as an operation.
-/
import Derived.Test.YtlbfolepljpmbaaDoorCeJ
import Derived.Laws.BytesArg
namespace Go.CE
set_option linter.all false
set_option linter.unusedSectionVars false
open Go Go.RowKit
variable [Tab]
set_option linter.unusedVariables false
set_option linter.unusedSimpArgs false

section
variable {P : Program}

theorem elem_eq {t el : TypeId} (h : P.underlying t = some (.slice el)) : P.elem t = el := by simp [Program.elem, h]
theorem run_sliceStr {ty : TypeId} (hu : P.underlying ty = some .string) (w : World) (s : ByteArray) {lo hi : Option Value} {i j : Int} (hlo : (lo = none ∧ i = 0) ∨ ∃ k, lo = some (.int k i)) (hhi : (hi = none ∧ j = s.size) ∨ ∃ k, hi = some (.int k j))
    (h0 : 0 ≤ i) (h1 : i ≤ j) (h2 : j ≤ (s.size : Int)) : (Instr.sliceAt ty (.string s) lo hi none).run P w = .ok (.string (cutS s i j)) w := by
  rw [run_sliceAt_string _ _ _ _ _ _ hu]
  rcases hlo with ⟨rfl, rfl⟩ | ⟨k, rfl⟩ <;> rcases hhi with ⟨rfl, rfl⟩ | ⟨k', rfl⟩
  · exact run_slice_string_all _ _ _ hu
  · exact run_slice_string_h _ _ _ hu _ _ h1 h2
  · exact run_slice_string_l _ _ _ hu _ _ h0 h1
  · exact run_slice_string _ _ _ _ _ _ _ hu h0 h1 h2
theorem run_sliceSl {ty el : TypeId} {te : TI} (hu : P.underlying ty = some (.slice el)) (hte : TEnt P el te) (w : World) (ad : Option Addr) (len cap : Nat) {lo hi : Option Value} {i j : Int} (hlo : (lo = none ∧ i = 0) ∨ ∃ k, lo = some (.int k i)) (hhi : (hi = none ∧ j = len) ∨ ∃ k, hi = some (.int k j))
    (h0 : 0 ≤ i) (h1 : i ≤ j) (h2 : j ≤ (len : Int)) (h3 : len ≤ cap) : (Instr.sliceAt ty (.slice ad len cap) lo hi none).run P w = .ok (sliced ad i.toNat j.toNat cap te.sz) w := by
  have hu' : P.underlying ty = some (.slice (P.elem ty)) := by rw [elem_eq hu]; exact hu
  rw [run_sliceAt_slice _ _ _ _ _ _ hu']
  have hs : (sizeOf (P.elem ty)).run P w = .ok te.sz w := by rw [elem_eq hu]; exact run_sizeOfT hte w
  rcases hlo with ⟨rfl, rfl⟩ | ⟨k, rfl⟩ <;> rcases hhi with ⟨rfl, rfl⟩ | ⟨k', rfl⟩
  · rw [run_slice_all _ _ _ _ _ hu', hs]; rfl
  · rw [run_slice_h _ _ _ _ _ hu' _ _ h1 (by omega), hs]; rfl
  · rw [run_slice_l _ _ _ _ _ hu' _ _ h0 h1, hs]; rfl
  · rw [run_slice_lh _ _ _ _ _ hu' _ _ _ _ h0 h1 (by omega), hs]; rfl

theorem opt_val {F M : Nat → Prop} {μ : Mu} {hf : AHeap} {w : World} {t : Tmps} {ρ : Operand → Value} {d i : Int} {lo : Option Operand} (h : optInt d (lo.map (opd t)) = some i) (hr : ∀ x, lo = some x → avRel P F M μ hf w (opdV t x) (ρ x)) :
    (lo.map ρ = none ∧ i = d) ∨ ∃ k, lo.map ρ = some (.int k i) := by
  cases lo with
  | none => simp [optInt] at h; exact .inl ⟨rfl, h.symm⟩
  | some x =>
    simp only [Option.map_some, optInt] at h
    split at h
    · rename_i e; cases e
    · rename_i k j e
      injection h with h; subst h
      injection e with e
      have := opd_rel (hr x rfl)
      rw [e] at this
      exact .inr ⟨k, by simp [a1_int this]⟩
    · cases h

theorem L_slice {o : Oper} {ty : TypeId} {x : Operand} {lo hi : Option Operand} (ho : o.op = .slice ty x lo hi none) {tt : TTab} (hT : TOk P tt) {ti : TI} (hti : tt ty = some ti) {t : Tmps} {h : AHeap} {n : Nat} {R : Type} {k : AL → Option R} {r : R}
    (hu : ti.u = .string ∨ ∃ el te, ti.u = .slice el ∧ tt el = some te ∧ ∀ et l, opd t x = .lf (.dat (.sl et) l) → te.sz = et.sz) (hs : ti.u = .string ∨ ∀ s, opd t x ≠ .lf (.dat .s s)) (hs2 : (∃ el, ti.u = .slice el) ∨ ∀ et l, opd t x ≠ .lf (.dat (.sl et) l))
    (he : evSlice (opd t x) (lo.map (opd t)) (hi.map (opd t)) k = some r) : ∃ a, k a = some r ∧ LSem P o t h n (.v (.lf a)) [] [] := by
  have hE := hT _ _ hti
  unfold evSlice at he
  split at he
  · rename_i s hx
    split at he
    · rename_i i j hi1 hj1
      obtain ⟨hc, he⟩ := chk_some he
      have hc := of_decide_eq_true hc
      have hus : ti.u = .string := hs.resolve_right fun h => h s hx
      refine ⟨_, he, LSem.val fun Own F M μ hf w ρ _ hops H => ⟨.string (cutS s i j), ?_, str_rel⟩⟩
      have h1 := opd_rel (hops x (by simp [ho, Op.operands])); rw [hx] at h1; have h1 := a1_str h1
      simp only [execOp, ho, h1]
      exact run_v (run_sliceStr (by rw [hE.u, hus]) w s (opt_val hi1 fun y hy => hops y (by simp [ho, Op.operands, hy])) (opt_val hj1 fun y hy => hops y (by simp [ho, Op.operands, hy])) hc.1 hc.2.1 hc.2.2)
    · cases he
  · rename_i et l hx
    split at he
    · rename_i i j hi1 hj1
      obtain ⟨hc, he⟩ := chk_some he
      have hc := of_decide_eq_true hc
      obtain ⟨el0, hel0⟩ : ∃ el, ti.u = .slice el := hs2.resolve_right fun h => h et l hx
      rcases hu with hu | ⟨el, te, hel, hte, hsz⟩
      · rw [hu] at hel0; cases hel0
      · refine ⟨_, he, LSem.val fun Own F M μ hf w ρ _ hops H => ?_⟩
        have h1 := opd_rel (hops x (by simp [ho, Op.operands])); rw [hx] at h1
        have h1 : rd P (.sl et) F w l [ρ x] := h1
        have h2 := h1
        obtain ⟨ad, cap, e, hcap, _⟩ := h2
        injection e with e _
        rw [e] at h1
        refine ⟨_, ?_, cutL_rd (hsz et l hx) h1 hc.1 hc.2.1 hc.2.2⟩
        simp only [execOp, ho, e]
        exact run_v (run_sliceSl (by rw [hE.u, hel]) (hT _ _ hte) w ad _ cap (opt_val hi1 fun y hy => hops y (by simp [ho, Op.operands, hy])) (opt_val hj1 fun y hy => hops y (by simp [ho, Op.operands, hy])) hc.1 hc.2.1 hc.2.2 hcap)
    · cases he
  · cases he

theorem L_sliceOwn {o : Oper} {ty : TypeId} {x : Operand} {lo hi : Option Operand} (ho : o.op = .slice ty x lo hi none) {ti te : TI} (hti : TEnt P ty ti) {el : TypeId} (hu : ti.u = .slice el) (hte : TEnt P el te) {et : Ty} (hsz : te.sz = et.sz) {t : Tmps} {h : AHeap} {n id : Nat} (hx : opd t x = .lf (.sl et id)) {R : Type} {k : K R} {r : R}
    (he : evSliceOwn h n et id (lo.map (opd t)) (hi.map (opd t)) k = some r) : ∃ av T c, k av T c = some r ∧ LSem P o t h n av T c := by
  have hu' : P.underlying ty = some (.slice el) := by rw [hti.u, hu]
  unfold evSliceOwn at he
  split at he
  · rename_i e t2 l hid
    split at he
    · rename_i e1; subst e1
      split at he
      · rename_i hlo
        split at he
        · rename_i kj j0 hhi
          obtain ⟨j, rfl⟩ : ∃ j : Int, j = j0 := ⟨_, rfl⟩
          obtain ⟨hc, he⟩ := chk_some he
          have hc : 0 ≤ (0 : Int) ∧ 0 ≤ j ∧ j ≤ (l.length : Int) := of_decide_eq_true hc
          have hlen : (cutL l 0 j).length = j.toNat := by simp [cutL]; omega
          refine ⟨_, _, _, he, fun p hp => by simp at hp; rcases hp with rfl | rfl <;> simp, fun _ Own F M μ hf w ρ _ hown hM hT hops H => ?_⟩
          have hid' := (hT id (by simp)).trans hid
          have h1 := opd_rel (hops x (by simp [ho, Op.operands])); rw [hx] at h1
          obtain ⟨hm, _, hr⟩ := h1
          have hlo' : lo.map ρ = none := by cases lo <;> simp at hlo ⊢
          have hhi' : (hi.map ρ = none ∧ j = l.length) ∨ ∃ k, hi.map ρ = some (.int k j) := by
            have h2 : optInt (l.length : Int) (hi.map (opd t)) = some j := by rw [hhi]; rfl
            exact opt_val h2 fun y hy => hops y (by simp [ho, Op.operands, hy])
          obtain ⟨ad, cap, hv, hcap⟩ : ∃ ad cap, ρ x = .slice ad l.length cap ∧ l.length ≤ cap := by
            rcases hr _ _ hid' with ⟨_, g2, g3⟩ | ⟨b, cap, _, g2, g3, _⟩
            · subst g2; exact ⟨none, 0, g3, Nat.le_refl _⟩
            · exact ⟨_, _, g2, g3⟩
          refine Does.value (w' := w) (v := sliced ad 0 j.toNat cap te.sz) ?_ ?_
          · simp only [execOp, ho, hv]
            exact run_v (by
              have := run_sliceSl hu' hte w ad l.length cap (lo := lo.map ρ) (hi := hi.map ρ) (i := 0) (j := j) (.inl ⟨hlo', rfl⟩) hhi' (by omega) hc.2.1 hc.2.2 hcap
              simpa using this)
          · have hrow := hr _ _ hid'
            refine Post.repl (kill := some id) (o := .arr e et (cutL l 0 j)) (nb := μ id) H hown hM rfl rfl rfl (Nat.le_refl _) (fun k hk => by injection hk with hk; subst hk; exact ⟨_, hid'⟩) (fun _ _ _ => rfl) (fun _ _ h => h) (fun b hb => ⟨(H.own id _ b hid' hb).1, .inr ⟨id, rfl, hb⟩⟩) rfl (fun μ' hn hμ hL => ?_) (fun μ' hn hμ hL hp => ?_)
            · rcases H.obj id _ hid' with ⟨f1, f2⟩ | ⟨b, cur, cs, f1, f2, f3, f4⟩
              · refine .inl ⟨hn.trans f1, ?_⟩
                subst f2; simp [cutL]
              · refine .inr ⟨b, cur, cs.take (j.toNat * et.sz), hn.trans f1, f2, ?_, ?_⟩
                · have := f3.take (fun _ _ r => rd_len r) j.toNat
                  have e2 : cutL l 0 j = l.take j.toNat := by simp [cutL]
                  rw [e2]; exact this
                · have h5 := f3.length (fun _ _ r => rd_len r)
                  rw [hlen, ← f4, List.take_take, Nat.min_eq_left]
                  exact Nat.mul_le_mul_right _ (by omega)
            · refine ⟨.inr ⟨Nat.le_refl _, by omega⟩, rfl, fun e2 l2 h2 => ?_⟩
              rw [hp] at h2; injection h2 with h2; injection h2 with h2 h3 h4; subst h4
              rw [hlen]
              rcases hrow with ⟨g1, g2, g3⟩ | ⟨b, cap', g1, g2, g3, g4, g5⟩
              · subst g2
                rw [hv] at g3
                simp only [Value.slice.injEq] at g3
                obtain ⟨rfl, -, rfl⟩ := g3
                have : j.toNat = 0 := by simp at hc; omega
                exact .inl ⟨hn.trans g1, by simp [cutL], by simp [sliced, this]⟩
              · rw [hv] at g2
                simp only [Value.slice.injEq, true_and] at g2
                obtain ⟨rfl, rfl⟩ := g2
                refine .inr ⟨b, cap, hn.trans g1, ?_, by omega, g4, g5⟩
                by_cases h0 : cap = 0
                · subst h0; simp [sliced]
                · simp [sliced, h0, add_lit]
        · cases he
      · rename_i lo0 hlo
        split at he
        · rename_i i j hi1 hj1
          obtain ⟨hc, he⟩ := chk_some he
          have hc : 0 ≤ i ∧ i ≤ j ∧ j ≤ (l.length : Int) := of_decide_eq_true hc
          refine ⟨_, _, _, he, LSem.val fun Own F M μ hf w ρ hT hops H => ?_⟩
          have hid' := (hT id (by simp)).trans hid
          have h1 := opd_rel (hops x (by simp [ho, Op.operands])); rw [hx] at h1
          obtain ⟨hm, _, hr⟩ := h1
          have hrow := hr _ _ hid'
          have hi1 : optInt 0 (lo.map (opd t)) = some i := by rw [hlo]; exact hi1
          obtain ⟨ad, cap, hv, hcap, hbase⟩ : ∃ ad cap, ρ x = .slice ad l.length cap ∧ l.length ≤ cap ∧ ((μ id = none ∧ l = [] ∧ ad = none ∧ cap = 0) ∨ ∃ b, μ id = some b ∧ ad = some ⟨b, 0, none⟩ ∧ l.length ≤ cap ∧ cap ≤ maxLen ∧ CapOk w b (cap * et.sz)) := by
            rcases hrow with ⟨g1, g2, g3⟩ | ⟨b, cap, g1, g2, g3, g4, g5⟩
            · subst g2; exact ⟨none, 0, g3, Nat.le_refl _, .inl ⟨g1, rfl, rfl, rfl⟩⟩
            · exact ⟨_, _, g2, g3, .inr ⟨b, g1, rfl, g3, g4, g5⟩⟩
          refine ⟨sliced ad i.toNat j.toNat cap te.sz, ?_, hm, rfl, fun e2 l2 h2 => ?_⟩
          · simp only [execOp, ho, hv]
            exact run_v (run_sliceSl hu' hte w ad _ cap (opt_val hi1 fun y hy => hops y (by simp [ho, Op.operands, hy])) (opt_val hj1 fun y hy => hops y (by simp [ho, Op.operands, hy])) hc.1 hc.2.1 hc.2.2 hcap)
          · rw [hid'] at h2; injection h2 with h2; injection h2 with h2 h3 h4; subst h4
            exact ⟨hc.1, hc.2.1, hc.2.2, ad, cap, by rw [hsz], hbase⟩
        · cases he
    · cases he
  · cases he

theorem run_indexAtT {ty el : TypeId} {te : TI} (hu : P.underlying ty = some (.slice el)) (hte : TEnt P el te) (w : World) (b o len cap : Nat) (k : IntKind) (j : Int) (h0 : 0 ≤ j) (h1 : j < (len : Int)) :
    (Instr.indexAt ty (.slice (some ⟨b, o, none⟩) len cap) (.int k j)).run P w = .ok (.pointer (some ⟨b, o + j.toNat * te.sz, none⟩)) w := by
  have hu' : P.underlying ty = some (.slice (P.elem ty)) := by rw [elem_eq hu]; exact hu
  rw [run_indexAt_slice _ _ _ _ _ _ _ hu', if_pos ⟨h0, h1⟩, elem_eq hu, run_sizeOfT hte]
  simp [add_lit]

theorem L_indexAddr {o : Oper} {ty : TypeId} {x i : Operand} (ho : o.op = .indexAddr ty x i) {ti te : TI} {el : TypeId} (hti : TEnt P ty ti) (hu : ti.u = .slice el) (hte : TEnt P el te) {t : Tmps} {h : AHeap} {n : Nat} {R : Type} {k : AL → List Nat → Option R} {r : R}
    (hsz : ∀ et, (∃ l, opd t x = .lf (.dat (.sl et) l)) ∨ (∃ id, opd t x = .lf (.sl et id)) → te.sz = et.sz) (he : evIndexAddr h (opd t x) (opd t i) k = some r) : ∃ a T, k a T = some r ∧ LSem P o t h n (.v (.lf a)) T [] := by
  unfold evIndexAddr at he
  have hu' : P.underlying ty = some (.slice el) := by rw [hti.u, hu]
  split at he
  · rename_i et l kj j0 hx hi
    obtain ⟨j, rfl⟩ : ∃ j : Int, j = j0 := ⟨_, rfl⟩
    obtain ⟨hc, he⟩ := chk_some he
    have hc : 0 ≤ j ∧ j < (l.length : Int) := of_decide_eq_true hc
    have hlt : j.toNat < l.length := by omega
    refine ⟨_, [], he, LSem.val fun Own F M μ hf w ρ _ hops H => ?_⟩
    have h1 := opd_rel (hops x (by simp [ho, Op.operands])); rw [hx] at h1
    have h1 : rd P (.sl et) F w l [ρ x] := h1
    have h2 := opd_rel (hops i (by simp [ho, Op.operands])); rw [hi] at h2; have h2 := a1_int h2
    obtain ⟨ad, cap, e, hcap, hr⟩ := h1
    injection e with e _
    rcases hr with rfl | ⟨b, o', cs, rfl, hb, hr, hcs⟩
    · simp at hlt
    · refine ⟨.pointer (some ⟨b, o' + j.toNat * te.sz, none⟩), ?_, b, o' + j.toNat * te.sz, (cs.drop (j.toNat * et.sz)).take et.sz, rfl, hb, ?_, ?_⟩
      · simp only [execOp, ho, e, h2]
        exact run_v (run_indexAtT hu' hte w b o' _ cap kj j hc.1 hc.2)
      · have := hr.get (fun _ _ r => rd_len r) j.toNat hlt
        unfold at_
        rw [getD_lt hlt]; exact this
      · rw [hsz et (.inl ⟨l, hx⟩)]
        exact cellsAt_take (cellsAt_drop hcs)
  · rename_i et id kj j0 hx hi
    obtain ⟨j, rfl⟩ : ∃ j : Int, j = j0 := ⟨_, rfl⟩
    split at he
    · rename_i e t' l hid
      split at he
      · rename_i e1; subst e1
        obtain ⟨hc, he⟩ := chk_some he
        have hc : 0 ≤ j ∧ j < (l.length : Int) := of_decide_eq_true hc
        have hlt : j.toNat < l.length := by omega
        refine ⟨_, [id], he, LSem.val fun Own F M μ hf w ρ hT hops H => ?_⟩
        have hid' := (hT id (by simp)).trans hid
        have h1 := opd_rel (hops x (by simp [ho, Op.operands])); rw [hx] at h1
        have h2 := opd_rel (hops i (by simp [ho, Op.operands])); rw [hi] at h2; have h2 := a1_int h2
        obtain ⟨hm, _, h1⟩ := h1
        rcases h1 _ _ hid' with ⟨_, e1, _⟩ | ⟨b, cap, hb, hv, hcap, _⟩
        · subst e1; simp at hlt
        · refine ⟨.pointer (some ⟨b, 0 + j.toNat * te.sz, none⟩), ?_, hm, rfl, fun e' l' hl' => ?_⟩
          · simp only [execOp, ho, hv, h2]
            exact run_v (run_indexAtT hu' hte w b 0 _ cap kj j hc.1 hc.2)
          · rw [hid'] at hl'; injection hl' with hl'; injection hl' with _ _ hl'; cases hl'
            exact ⟨hlt, b, hb, by rw [hsz et (.inr ⟨id, hx⟩)]; simp⟩
      · cases he
    · cases he
  · cases he

/-- What is appended. -/
theorem src_ok {Own F M : Nat → Prop} {μ : Mu} {hf : AHeap} {w : World} (H : HRel P Own F M μ hf w) {et : Ty} {sz : Nat} (hsz : sz = et.sz) {h : AHeap} {x : A1} {vx : Value} {l2 : List et.den} {ids : List Nat}
    (hl : (match x with | .lf (.dat .s str) => (castT (.sl (.i .u8)) (.sl et) (u8s str)).map fun l => (l, []) | _ => listOf h et x) = some (l2, ids)) (hT : ∀ id ∈ ids, hf id = h id) (r : a1Rel P F M μ hf w x vx) :
    ∃ news, RdAll (rd P et F w) l2 news ∧ (∀ w', (Builtin.lenOf vx).run P w' = .ok l2.length w') ∧ (Builtin.firstCells sz l2.length vx).run P w = .ok news.toArray w ∧ (Builtin.firstCells sz l2.length vx).run P w.drew = .ok news.toArray w.drew := by
  have slice_case : ∀ {b o n cap : Nat} {cs : List Value}, n = l2.length → RdAll (rd P et F w) l2 cs → cellsAt w b o cs → vx = .slice (some ⟨b, o, none⟩) n cap →
      ∃ news, RdAll (rd P et F w) l2 news ∧ (∀ w', (Builtin.lenOf vx).run P w' = .ok l2.length w') ∧ (Builtin.firstCells sz l2.length vx).run P w = .ok news.toArray w ∧ (Builtin.firstCells sz l2.length vx).run P w.drew = .ok news.toArray w.drew := by
    intro b o n cap cs hn hr hcs hv
    have hlen := hr.length (fun _ _ r => rd_len r)
    have hc' : ∀ j v, cs[j]? = some v → w.cell? ((⟨b, o, none⟩ : Addr).add j) = some v := fun j v hj => by
      obtain ⟨hj1, hj2⟩ := List.getElem?_eq_some_iff.1 hj
      rw [add_lit, hcs j hj1, hj2]
    subst hn hv hsz
    exact ⟨cs, hr, fun _ => rfl, run_firstCells_some w et.sz _ _ _ _ cs hlen hc', run_firstCells_some w.drew et.sz _ _ _ _ cs hlen hc'⟩
  have nil_case : ∀ {n cap : Nat}, n = 0 → l2 = [] → vx = .slice none n cap →
      ∃ news, RdAll (rd P et F w) l2 news ∧ (∀ w', (Builtin.lenOf vx).run P w' = .ok l2.length w') ∧ (Builtin.firstCells sz l2.length vx).run P w = .ok news.toArray w ∧ (Builtin.firstCells sz l2.length vx).run P w.drew = .ok news.toArray w.drew := by
    intro n cap hn hl hv
    subst hn hl hv
    exact ⟨[], rfl, fun _ => rfl, rfl, rfl⟩
  split at hl
  · rename_i str
    obtain rfl := a1_str r
    simp only [Option.map_eq_some_iff] at hl
    obtain ⟨y, hy, he⟩ := hl
    injection he with e1 e2; subst e1 e2
    obtain ⟨e, hy⟩ := castT_some hy
    injection e with e; subst e
    subst hy
    have hlen : (u8s str).length = str.size := by simp [u8s]
    have hext : (str.extract 0 str.size).data.map (fun b : UInt8 => Value.int .u8 b.toNat) = str.data.map fun b => Value.int .u8 b.toNat := by
      rw [show (str.extract 0 str.size) = str by simp]
    refine ⟨(u8s str).map fun n => Value.int .u8 n, ?_, fun _ => by simp [Builtin.lenOf, u8s], ?_, ?_⟩
    · have : ∀ l : List Int, RdAll (rd P (.i .u8) F w) l (l.map fun n => Value.int .u8 n) := by
        intro l
        induction l with
        | nil => rfl
        | cons y l ih => exact ⟨[.int .u8 y], _, rfl, by simp only [rd], ih⟩
      exact this _
    all_goals
      show (Builtin.firstCells sz (u8s str).length (.string str)).run P _ = _
      rw [hlen]
      simp only [Builtin.firstCells, Sem.run_pure, hext]
      congr 1
      apply Array.ext'
      simp [u8s]
  · cases x with
    | ag _ => simp [listOf] at hl
    | lf a =>
      simp only [listOf] at hl
      cases a with
      | dat t' y =>
        simp only [leafTo, Option.map_eq_some_iff] at hl
        obtain ⟨z, hz, he⟩ := hl
        obtain ⟨e, hz⟩ := castT_some hz
        injection he with e1 e2; subst e1 e2
        subst e hz
        have r : rd P (.sl et) F w y [vx] := r
        obtain ⟨ad, cap, e, hcap, hr⟩ := r
        injection e with e _
        rcases hr with rfl | ⟨b, o, cs, rfl, hb, hr, hcs⟩
        · cases ad with
          | none => exact nil_case rfl rfl e
          | some a =>
            subst e
            refine ⟨[], rfl, fun _ => rfl, ?_, ?_⟩ <;> simp [Builtin.firstCells, loadCells, loadCellsFrom]
        · exact slice_case rfl hr hcs e
      | anyb => simp [leafTo] at hl
      | nils =>
        simp only [leafTo, Option.some.injEq, Prod.mk.injEq] at hl
        obtain ⟨e1, e2⟩ := hl; subst e1 e2
        exact nil_case rfl rfl r
      | sl t' id =>
        simp only [leafTo] at hl
        split at hl
        · rename_i e t2 l hid
          split at hl
          · rename_i e2; subst e2
            simp only [Option.map_eq_some_iff] at hl
            obtain ⟨z, hz, he⟩ := hl
            obtain ⟨e3, hz⟩ := castT_some hz
            injection he with e1 e2; subst e1 e2
            injection e3 with e3; subst e3
            subst hz
            have hid' := (hT id (by simp)).trans hid
            obtain ⟨hm, _, r⟩ := r
            rcases r _ _ hid' with ⟨_, e1, e2⟩ | ⟨b, cap, hb, hv, hcap, _⟩
            · subst e1; exact nil_case rfl rfl e2
            · rcases H.obj id _ hid' with ⟨f1, f2⟩ | ⟨b', cur, cs, f1, f2, f3, f4⟩
              · rw [hb] at f1; cases f1
              · rw [hb] at f1; injection f1 with f1; subst f1
                exact slice_case rfl f3 (f4 ▸ cellsAt_take (cellsAt_row f2)) hv
          · cases hl
        · cases hl
      | vw t' id i j =>
        simp only [leafTo] at hl
        split at hl
        · rename_i e t2 l hid
          split at hl
          · rename_i e2; subst e2
            simp only [Option.map_eq_some_iff] at hl
            obtain ⟨z, hz, he⟩ := hl
            obtain ⟨e3, hz⟩ := castT_some hz
            injection he with e1 e2; subst e1 e2
            injection e3 with e3; subst e3
            subst hz
            have hid' := (hT id (by simp)).trans hid
            obtain ⟨hm, _, r⟩ := r
            obtain ⟨g1, g2, g3, ad, cap, hv, g4⟩ := r _ _ hid'
            have hlen : (cutL l i j).length = j.toNat - i.toNat := by simp [cutL]; omega
            rcases g4 with ⟨h1, h2, h3, h4⟩ | ⟨b, h1, h2, h3, _, _⟩
            · subst h2 h3 h4
              have : j.toNat - i.toNat = 0 := by simp at g3; omega
              refine nil_case (n := j.toNat - i.toNat) (cap := 0 - i.toNat) this (by simp [cutL]) ?_
              rw [hv]; simp [sliced]
            · subst h2
              rcases H.obj id _ hid' with ⟨f1, f2⟩ | ⟨b', cur, cs, f1, f2, f3, f4⟩
              · rw [h1] at f1; cases f1
              · rw [h1] at f1; injection f1 with f1; subst f1
                by_cases h0 : cap = i.toNat
                · have h5 : j.toNat - i.toNat = 0 := by omega
                  have h6 : cutL l i j = [] := List.eq_nil_of_length_eq_zero (by omega)
                  change ∃ news, RdAll (rd P t' F w) (cutL l i j) news ∧ (∀ w', (Builtin.lenOf vx).run P w' = .ok (cutL l i j).length w') ∧ (Builtin.firstCells sz (cutL l i j).length vx).run P w = .ok news.toArray w ∧ (Builtin.firstCells sz (cutL l i j).length vx).run P w.drew = .ok news.toArray w.drew
                  rw [h6]
                  have hv' : vx = .slice (some ⟨b, 0, none⟩) 0 (cap - i.toNat) := by rw [hv]; simp [sliced, h0, h5]
                  rw [hv']
                  refine ⟨[], rfl, fun _ => rfl, ?_, ?_⟩ <;> simp [Builtin.firstCells, loadCells, loadCellsFrom]
                · refine slice_case rfl ((f3.drop (fun _ _ r => rd_len r) i.toNat).take (fun _ _ r => rd_len r) (j.toNat - i.toNat)) (cellsAt_take (cellsAt_drop (f4 ▸ cellsAt_take (cellsAt_row f2)))) (b := b) (o := 0 + i.toNat * t'.sz) ?_ (cap := cap - i.toNat)
                  rw [hv]
                  simp [sliced, h0, add_lit]
                  exact hlen.symm
          · cases hl
        · cases hl
      | unk => simp [leafTo] at hl
      | ref _ _ => simp [leafTo] at hl
      | elt _ _ _ _ => simp [leafTo] at hl
      | rp _ _ _ => simp [leafTo] at hl

theorem rdAll_int {F : Nat → Prop} {w : World} {k : IntKind} : ∀ {l : List Int} {cs : List Value}, RdAll (rd P (.i k) F w) l cs → cs = l.map (Value.int k)
  | [], _, h => h
  | x :: l, _, ⟨a, r, e, h1, h2⟩ => by
    have h1 : a = [Value.int k x] := by simpa only [rd] using h1
    rw [e, h1, rdAll_int h2]; rfl
theorem L_convBytes {o : Oper} {src dst : TypeId} {x : Operand} (ho : o.op = .convert src dst x) {ts td te : TI} (hs : TEnt P src ts) (hd : TEnt P dst td) {el : TypeId} (hus : ts.u = .slice el) (hud : td.u = .string) (hte : TEnt P el te) (hue : te.u = .int .u8)
    {t : Tmps} {h : AHeap} {n : Nat} {l : List Int} {i : List Nat} (hl : listOf h (.i .u8) (opd t x) = some (l, i)) : LSem P o t h n (.v (.lf (.dat .s (s8 l)))) i [] :=
  LSem.val fun Own F M μ hf w ρ hT hops H => by
    have h1 := opd_rel (hops x (by simp [ho, Op.operands]))
    have hr : rd P (.sl (.i .u8)) (plus F μ i) w l [ρ x] := by
      unfold listOf at hl
      split at hl
      · rename_i a hx
        rw [hx] at h1
        exact leafTo_rd (t := .sl (.i .u8)) H h1 hl hT
      · cases hl
    obtain ⟨ad, cap, e, hcap, hr⟩ := hr
    injection e with e _
    refine ⟨.string (s8 l), ?_, str_rel⟩
    simp only [execOp, ho, e]
    refine run_v ?_
    have hs' : P.underlying src = some (.slice el) := by rw [hs.u, hus]
    have he' : P.underlying el = some (.int .u8) := by rw [hte.u, hue]
    have hd' : P.underlying dst = some .string := by rw [hd.u, hud]
    rcases hr with rfl | ⟨b, o', cs, rfl, hb, hr, hcs⟩
    · cases ad with
      | none => exact run_convert_bytes_nil w src el hs' he' _ _ dst hd'
      | some a =>
        rw [run_convert_bytes_string w src dst el _ _ cap hs' he' hd', run_bytesToString w a _ cap [] (by simp [loadCells, loadCellsFrom])]
        rfl
    · obtain rfl := rdAll_int hr
      exact run_convert_bytes_arg w src el hs' he' b o' l.length cap l rfl (fun j hj => by
        have := hcs j (by simpa using hj)
        rw [this]
        have hj' : j < l.length := hj
        simp [List.getD, List.getElem?_eq_getElem hj']) dst hd'
theorem L_append {o : Oper} {s x : Operand} {ty tx : TypeId} (ho : o.op = .call ⟨.builtin .append, #[s, x], #[ty, tx]⟩) {ti te : TI} {el : TypeId} (hti : TEnt P ty ti) (hu : ti.u = .slice el) (hte : TEnt P el te) {du : TypeDesc} (hux : P.underlying tx = some du) (hdu : ∀ k, du ≠ .int k)
    {et : Ty} (hsz : te.sz = et.sz) (hby : te.bytes ≤ 256) {t : Tmps} {h : AHeap} {n : Nat} {R : Type} {k : K R} {r : R} (he : evAppend el et h n (opd t s) (opd t x) k = some r) : ∃ av T c, k av T c = some r ∧ LSem P o t h n av T c := by
  have hu' : P.underlying ty = some (.slice el) := by rw [hti.u, hu]
  unfold evAppend at he
  split at he
  · cases he
  · rename_i l2 i2 hsrc
    split at he
    · rename_i hs
      obtain ⟨hc, he⟩ := chk_some he
      refine ⟨_, i2, _, he, fun p hp => by simp at hp; simp [hp], fun _ Own F M μ hf w ρ _ hown hM hT hops H => ?_⟩
      have h1 := opd_rel (hops s (by simp [ho, Op.operands, Call.operands])); rw [hs] at h1
      have h1 : ρ s = .slice none 0 0 := h1
      have h2 := opd_rel (hops x (by simp [ho, Op.operands, Call.operands]))
      obtain ⟨news, g1, g2, g3, g4⟩ := src_ok H hsz hsrc hT h2
      obtain ⟨v', w', hrun, hp⟩ := append_post (ty := o.type) hte hu' hux hdu hsz hby (n := n) (kill := none) (l := []) (l2 := l2) (v := .slice none 0 0) (x := ρ x) H hown hM ⟨rfl, rfl⟩ g2 g3 g4 g1 (by simpa using of_decide_eq_true hc)
      refine Does.value (w' := w') (v := v') ?_ hp
      simp only [execOp, ho, resolve, invoke, builtin]
      simp [h1, hrun]
    · rename_i t' id hs
      split at he
      · rename_i e2 t2 l hid
        split at he
        · rename_i e3; obtain ⟨e3, e4⟩ := e3; subst e3 e4
          split at he
          · rename_i l1 hl1
            obtain ⟨e5, hl1⟩ := castT_some hl1
            injection e5 with e5; subst e5
            subst hl1
            obtain ⟨hc, he⟩ := chk_some he
            refine ⟨_, id :: i2, _, he, fun p hp => by simp at hp; rcases hp with rfl | rfl <;> simp, fun _ Own F M μ hf w ρ _ hown hM hT hops H => ?_⟩
            have hid' := (hT id (by simp)).trans hid
            have h1 := opd_rel (hops s (by simp [ho, Op.operands, Call.operands])); rw [hs] at h1
            have h2 := opd_rel (hops x (by simp [ho, Op.operands, Call.operands]))
            obtain ⟨news, g1, g2, g3, g4⟩ := src_ok H hsz hsrc (fun k hk => hT k (by simp [hk])) h2
            obtain ⟨v', w', hrun, hp⟩ := append_post (ty := o.type) hte hu' hux hdu hsz hby (n := n) (kill := some id) (l := l) (l2 := l2) (v := ρ s) (x := ρ x) H hown hM ⟨hid', h1⟩ g2 g3 g4 g1 (of_decide_eq_true hc)
            refine Does.value (w' := w') (v := v') ?_ hp
            simp only [execOp, ho, resolve, invoke, builtin]
            simp [hrun]
          · cases he
        · cases he
      · cases he
    · cases he
end
end Go.CE
