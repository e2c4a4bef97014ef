/-
  A computed evaluator over the model's code, part J: more operations.
-/
import Derived.Test.YtlbfolepljpmbaaDoorCeI
import Derived.Laws.Slices
import Derived.Laws.Strings3
namespace Go.CE
set_option linter.all false
set_option linter.unusedSectionVars false
open Go Go.RowKit
variable [Tab]
set_option linter.unusedVariables false
set_option linter.unusedSimpArgs false

section
variable {P : Program}

theorem L_bin {o : Oper} {op : BinOp} {ty yt : TypeId} {x y : Operand} (ho : o.op = .binOp op ty x y yt) {u : Option TypeDesc} (hu : ∀ d, u = some d → P.underlying ty = some d) {t : Tmps} {h : AHeap} {n : Nat} {R : Type} {k : A1 → Option R} {r : R}
    (he : evBin u (match y with | .const _ => true | _ => false) op (opd t x) (opd t y) k = some r) : ∃ v, k v = some r ∧ LSem P o t h n (.v v) [] [] := by
  obtain ⟨v, hk, hs⟩ := evBin_sound (P := P) (t := ty) (ox := x) (oy := y) hu (by cases y <;> intro h <;> first | exact ⟨_, rfl⟩ | cases h) he
  refine ⟨v, hk, LSem.val fun Own F M μ hf w ρ _ hops H => ?_⟩
  obtain ⟨val, h1, h2⟩ := hs F M μ hf w (ρ x) (ρ y) (opd_rel (hops x (by simp [ho, Op.operands]))) (opd_rel (hops y (by simp [ho, Op.operands])))
  exact ⟨val, by simp only [execOp, ho]; exact run_v h1, h2⟩

theorem L_un {o : Oper} {op : UnOp} {ty : TypeId} {x : Operand} (ho : o.op = .unOp op ty x) {t : Tmps} {h : AHeap} {n : Nat} {R : Type} {k : A1 → Option R} {r : R} (he : evUn op (opd t x) k = some r) :
    ∃ v, k v = some r ∧ LSem P o t h n (.v v) [] [] := by
  unfold evUn at he
  split at he
  · rename_i a hx
    refine ⟨_, he, LSem.val fun Own F M μ hf w ρ _ hops H => ⟨.bool (!a), ?_, bool_rel⟩⟩
    have h1 := opd_rel (hops x (by simp [ho, Op.operands])); rw [hx] at h1; have h1 := a1_bool h1
    simp only [execOp, ho, h1]; rfl
  · rename_i kx a hx
    refine ⟨_, he, LSem.val fun Own F M μ hf w ρ _ hops H => ⟨.int kx (kx.wrap (0 - a)), ?_, int_rel⟩⟩
    have h1 := opd_rel (hops x (by simp [ho, Op.operands])); rw [hx] at h1; have h1 := a1_int h1
    simp only [execOp, ho, h1]; rfl
  · cases he

theorem L_convInt {o : Oper} {src dst : TypeId} {x : Operand} (ho : o.op = .convert src dst x) {ts td : TI} (hs : TEnt P src ts) (hd : TEnt P dst td) {ks kd kx : IntKind} (hus : ts.u = .int ks) (hud : td.u = .int kd) {t : Tmps} {h : AHeap} {n : Nat} {a : Int}
    (hx : opd t x = .lf (.dat (.i kx) a)) : LSem P o t h n (.v (.lf (.dat (.i kd) (kd.wrap a)))) [] [] :=
  LSem.val fun Own F M μ hf w ρ _ hops H => by
    have h1 := opd_rel (hops x (by simp [ho, Op.operands])); rw [hx] at h1; have h1 := a1_int h1
    refine ⟨.int kd (kd.wrap a), ?_, int_rel⟩
    simp only [execOp, ho, h1]
    refine run_v ?_
    simp [convert, run_underlying hs.u, run_underlying hd.u, hus, hud, Conv.intToInt]
theorem L_convStr {o : Oper} {src dst : TypeId} {x : Operand} (ho : o.op = .convert src dst x) {ts td : TI} (hs : TEnt P src ts) (hd : TEnt P dst td) (hus : ts.u = .string) (hud : td.u = .string) {t : Tmps} {h : AHeap} {n : Nat} {a : ByteArray}
    (hx : opd t x = .lf (.dat .s a)) : LSem P o t h n (.v (.lf (.dat .s a))) [] [] :=
  LSem.val fun Own F M μ hf w ρ _ hops H => by
    have h1 := opd_rel (hops x (by simp [ho, Op.operands])); rw [hx] at h1; have h1 := a1_str h1
    refine ⟨.string a, ?_, str_rel⟩
    simp only [execOp, ho, h1]
    refine run_v ?_
    simp [convert, run_underlying hs.u, run_underlying hd.u, hus, hud]

theorem L_nilRef {o : Oper} {x : Operand} (ho : o.op = .nilCheck x) {t : Tmps} {h : AHeap} {n id off : Nat} {l : List AL} (hx : opd t x = .lf (.ref id off)) (hid : h id = some (.cells l)) : LSem P o t h n (.v (.lf (.ref id off))) [id] [] :=
  LSem.val fun Own F M μ hf w ρ hT hops H => by
    have h1 := opd_rel (hops x (by simp [ho, Op.operands])); rw [hx] at h1
    obtain ⟨b, hb, hv⟩ := h1.2.2 _ ((hT id (by simp)).trans hid)
    exact ⟨ρ x, by simp only [execOp, ho, hv]; rfl, h1⟩
theorem L_nilRp {o : Oper} {x : Operand} (ho : o.op = .nilCheck x) {t : Tmps} {h : AHeap} {n : Nat} {ty : Ty} {y : ty.den} {off : Nat} (hx : opd t x = .lf (.rp ty y off)) : LSem P o t h n (.v (.lf (.rp ty y off))) [] [] :=
  LSem.val fun Own F M μ hf w ρ hT hops H => by
    have h1 := opd_rel (hops x (by simp [ho, Op.operands])); rw [hx] at h1
    obtain ⟨b, o', cs, hv, h2⟩ := h1
    exact ⟨ρ x, by simp only [execOp, ho, hv]; rfl, b, o', cs, hv, h2⟩

theorem run_fieldAt {s : TypeId} {ti tf : TI} {fs : Array Field} {f : Nat} {fi : Field} (hti : TEnt P s ti) (hu : ti.u = .struct fs) (hf : fs[f]? = some fi) (htf : TEnt P fi.type tf) (h0 : tf.sz ≠ 0) (w : World) (b o : Nat) :
    (Instr.fieldAt s (.pointer (some ⟨b, o, none⟩)) f).run P w = .ok (.pointer (some ⟨b, o + fi.offset, none⟩)) w := by
  unfold Instr.fieldAt
  simp [run_underlying hti.u, hu, hf, Instr.sureAddr, fieldPlace, run_sizeOfT htf, h0, add_lit]
theorem fld_struct {u : TypeDesc} {f : Nat} {fi : Field} (h : fld u f = some fi) : ∃ fs, u = .struct fs ∧ fs[f]? = some fi := by
  unfold fld at h
  split at h
  · exact ⟨_, rfl, h⟩
  · cases h
theorem L_field1 {o : Oper} {s : TypeId} {x : Operand} {f : Nat} (ho : o.op = .fieldAddr s x f) {ti tf : TI} {fi : Field} (hti : TEnt P s ti) (hfl : fld ti.u f = some fi) (htf : TEnt P fi.type tf) (h0 : tf.sz ≠ 0) {t : Tmps} {h : AHeap} {n : Nat} {a a' : AL} {T : List Nat}
    (hx : opd t x = .lf a) (ha : ∀ {Own F M : Nat → Prop} {μ : Mu} {hf : AHeap} {w : World} {v : Value}, (∀ id ∈ T, hf id = h id) → alRel P F M μ hf w a v → ∃ b o, v = .pointer (some ⟨b, o, none⟩) ∧ alRel P F M μ hf w a' (.pointer (some ⟨b, o + fi.offset, none⟩))) :
    LSem P o t h n (.v (.lf a')) T [] :=
  LSem.val fun Own F M μ hf w ρ hT hops H => by
    have h1 := opd_rel (hops x (by simp [ho, Op.operands])); rw [hx] at h1
    obtain ⟨b, o', hv, hr⟩ := ha (Own := Own) hT h1
    obtain ⟨fs, hu, hfs⟩ := fld_struct hfl
    exact ⟨_, by simp only [execOp, ho, hv]; exact run_v (run_fieldAt hti hu hfs htf h0 w b o'), hr⟩

theorem L_field {o : Oper} {s : TypeId} {x : Operand} {f : Nat} (ho : o.op = .field s x f) {ti tf : TI} {fi : Field} (hti : TEnt P s ti) (hfl : fld ti.u f = some fi) (htf : TEnt P fi.type tf) {t : Tmps} {h : AHeap} {n : Nat} {l : List AL} {v : A1}
    (hx : opd t x = .ag l) (hp : partOf tf l fi.offset = some v) : LSem P o t h n (.v v) [] [] :=
  LSem.val fun Own F M μ hf w ρ _ hops H => by
    have h1 := opd_rel (hops x (by simp [ho, Op.operands])); rw [hx] at h1
    obtain ⟨cs, hv, hr⟩ := h1
    obtain ⟨fs, hu, hfs⟩ := fld_struct hfl
    have hlen := alsRel_len hr
    unfold partOf at hp
    split at hp
    · rename_i hA
      split at hp
      · rename_i hle
        injection hp with hp; subst hp
        refine ⟨.agg (cs.extract fi.offset (fi.offset + tf.sz)), ?_, _, rfl, ?_⟩
        · simp only [execOp, ho, hv]
          refine run_v ?_
          unfold Instr.field
          simp [run_underlying hti.u, hu, hfs, asAgg, part, run_isAggU htf, hA, run_sizeOfT htf]
        · have := alsRel_take tf.sz (alsRel_drop fi.offset hr)
          simpa [Array.toList_extract, List.extract_eq_take_drop] using this
      · cases hp
    · rename_i hA
      simp only [Option.map_eq_some_iff] at hp
      obtain ⟨a, ha, rfl⟩ := hp
      obtain ⟨u, hu1, hu2⟩ := alsRel_get hr _ a ha
      refine ⟨u, ?_, hu2⟩
      simp only [execOp, ho, hv]
      refine run_v ?_
      have hu1' : cs[fi.offset]? = some u := by simpa using hu1
      unfold Instr.field
      simp [run_underlying hti.u, hu, hfs, asAgg, part, run_isAggU htf, hA, hu1']

theorem L_extract {o : Oper} {x : Operand} {i : Nat} (ho : o.op = .extract x i) {t : Tmps} {h : AHeap} {n : Nat} {l : List A1} {a : A1} (hx : opdV t x = .tp l) (ha : l[i]? = some a) : LSem P o t h n (.v a) [] [] :=
  LSem.val fun Own F M μ hf w ρ _ hops H => by
    have h1 := hops x (by simp [ho, Op.operands]); rw [hx] at h1
    obtain ⟨vs, hv, hr⟩ := h1
    have : ∀ {l : List A1} {vs : List Value}, a1sRel P F M μ hf w l vs → ∀ (i : Nat) (a : A1), l[i]? = some a → ∃ v, vs[i]? = some v ∧ a1Rel P F M μ hf w a v := by
      intro l
      induction l with
      | nil => intro vs _ i a h; simp at h
      | cons y l ih =>
        rintro vs ⟨v, r, rfl, h1, h2⟩ i a h
        cases i with
        | zero => simp at h; subst h; exact ⟨v, rfl, h1⟩
        | succ i => simpa using ih h2 i a (by simpa using h)
    obtain ⟨v, h2, h3⟩ := this hr i a ha
    have h2' : vs[i]? = some v := by simpa using h2
    refine ⟨v, ?_, h3⟩
    simp only [execOp, ho, hv]
    refine run_v ?_
    simp [Instr.extract, h2']

theorem L_index {o : Oper} {ty : TypeId} {x i : Operand} (ho : o.op = .index ty x i) {ti : TI} (hti : TEnt P ty ti) (hu : ti.u = .string) {t : Tmps} {h : AHeap} {n : Nat} {s : ByteArray} {kx : IntKind} {j : Int} (hx : opd t x = .lf (.dat .s s)) (hi : opd t i = .lf (.dat (.i kx) j))
    (hj : decide (0 ≤ j ∧ j < (s.size : Int)) = true) : LSem P o t h n (.v (.lf (.dat (.i .u8) (byteAt s j)))) [] [] :=
  LSem.val fun Own F M μ hf w ρ _ hops H => by
    have h1 := opd_rel (hops x (by simp [ho, Op.operands])); rw [hx] at h1; have h1 := a1_str h1
    have h2 := opd_rel (hops i (by simp [ho, Op.operands])); rw [hi] at h2; have h2 := a1_int h2
    have hj' := of_decide_eq_true hj
    have hlt : j.toNat < s.size := by omega
    have hu' : P.underlying ty = some .string := by rw [hti.u, hu]
    refine ⟨.int .u8 (byteAt s j), ?_, int_rel⟩
    simp only [execOp, ho, h1, h2]
    refine run_v ?_
    have e : s[j.toNat]? = some s[j.toNat] := ByteArray.getElem?_lt' s j.toNat hlt
    have e2 : byteAt s j = (s[j.toNat].toNat : Int) := by
      unfold byteAt
      have : s.data.toList.getD j.toNat 0 = s[j.toNat] := by
        rw [List.getD_eq_getElem?_getD, List.getElem?_eq_getElem (by simpa using hlt)]
        rfl
      rw [this]
    unfold Instr.index
    simp [asIntOf, run_underlying hu', hj'.1, hj'.2, e, e2]

theorem L_len {o : Oper} {x : Operand} {ty : TypeId} (ho : o.op = .call ⟨.builtin .len, #[x], #[ty]⟩) {t : Tmps} {h : AHeap} {n : Nat} {l : Int} {T : List Nat} {u : TypeDesc} (hu : P.underlying ty = some u)
    (hl : ∀ {Own F M : Nat → Prop} {μ : Mu} {hf : AHeap} {w : World} {v : Value}, (∀ id ∈ T, hf id = h id) → a1Rel P F M μ hf w (opd t x) v → (∃ e a m, u = .slice e ∧ v = .slice a m 0 ∧ l = m) ∨ (∃ e a m c, u = .slice e ∧ v = .slice a m c ∧ l = m) ∨ (∃ s, u = .string ∧ v = .string s ∧ l = s.size)) :
    LSem P o t h n (.v (.lf (.dat (.i .i64) l))) T [] :=
  LSem.val fun Own F M μ hf w ρ hT hops H => by
    have h1 := opd_rel (hops x (by simp [ho, Op.operands, Call.operands]))
    refine ⟨.int .i64 l, ?_, int_rel⟩
    rcases hl (Own := Own) hT h1 with ⟨e, a, m, rfl, hv, rfl⟩ | ⟨e, a, m, c, rfl, hv, rfl⟩ | ⟨s, rfl, hv, rfl⟩
    all_goals simp [execOp, ho, resolve, invoke, builtin, Builtin.len_, hv, run_underlying hu, goInt]

theorem L_minmax {o : Oper} {x y : Operand} {tys : Array TypeId} {t : Tmps} {h : AHeap} {n : Nat} {kx : IntKind} {a c : Int} (hx : opd t x = .lf (.dat (.i kx) a)) (hy : opd t y = .lf (.dat (.i kx) c)) :
    (o.op = .call ⟨.builtin .min, #[x, y], tys⟩ → LSem P o t h n (.v (.lf (.dat (.i kx) (if c < a then c else a)))) [] []) ∧
    (o.op = .call ⟨.builtin .max, #[x, y], tys⟩ → LSem P o t h n (.v (.lf (.dat (.i kx) (if c > a then c else a)))) [] []) := by
  constructor <;> intro ho <;> refine LSem.val fun Own F M μ hf w ρ hT hops H => ?_
  all_goals
    have h1 := opd_rel (hops x (by simp [ho, Op.operands, Call.operands])); rw [hx] at h1; have h1 := a1_int h1
    have h2 := opd_rel (hops y (by simp [ho, Op.operands, Call.operands])); rw [hy] at h2; have h2 := a1_int h2
    refine ⟨.int kx _, ?_, int_rel⟩
    simp [execOp, ho, resolve, invoke, builtin, Builtin.min_, Builtin.max_, Builtin.min2, Builtin.max2, h1, h2]
end
end Go.CE
