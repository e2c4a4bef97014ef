/-
  A computed evaluator over the model's code, part E: the operations, one by one: arithmetic, loads and stores.
-/
import Derived.Test.YtlbfolepljpmbaaDoorCeD
import Derived.Laws.Bits
import Derived.Laws.StructEq
import Derived.Tactics
namespace Go.CE
set_option linter.all false
set_option linter.unusedSectionVars false
open Go Go.RowKit
variable [Tab]

structure TEnt (P : Program) (t : TypeId) (ti : TI) : Prop where
  u : P.underlying t = some ti.u
  info : ∃ i, P.info? t = some i ∧ i.size = ti.sz ∧ i.bytes = ti.bytes ∧ i.zero = some ti.zero
  zsz : ti.zero.cells.size = ti.sz
  leaf : isAggU ti.u = false → ti.sz = 1
def TOk (P : Program) (tt : TTab) : Prop := ∀ t ti, tt t = some ti → TEnt P t ti

section
variable {P : Program} {Own F M : Nat → Prop} {μ : Mu} {h : AHeap} {w : World}

theorem opd_rel {t : Tmps} {x : Operand} {v : Value} (r : avRel P F M μ h w (opdV t x) v) : a1Rel P F M μ h w (opd t x) v := by
  unfold opd
  split
  · rename_i a e; rw [e] at r; exact r
  · trivial
theorem chk_some {R : Type} {b : Bool} {o : Option R} {r : R} (h : chk b o = some r) : b = true ∧ o = some r := by
  cases b
  · cases h
  · exact ⟨rfl, h⟩
theorem lf_some {R : Type} {k : K R} {a : AL} {r : R} (h : lf k a = some r) : k (.v (.lf a)) [] [] = some r := h

theorem a1_int {k : IntKind} {n : Int} {v : Value} (r : a1Rel P F M μ h w (.lf (.dat (.i k) n)) v) : v = .int k n := by
  have : [v] = [.int k n] := r
  injection this
theorem a1_bool {n : Bool} {v : Value} (r : a1Rel P F M μ h w (.lf (.dat .b n)) v) : v = .bool n := by
  have : [v] = [.bool n] := r
  injection this
theorem a1_str {n : ByteArray} {v : Value} (r : a1Rel P F M μ h w (.lf (.dat .s n)) v) : v = .string n := by
  have : [v] = [.string n] := r
  injection this
theorem int_rel {k : IntKind} {n : Int} : a1Rel P F M μ h w (.lf (.dat (.i k) n)) (.int k n) := show rd P (.i k) F w n [.int k n] by simp only [rd]
theorem bool_rel {n : Bool} : a1Rel P F M μ h w (.lf (.dat .b n)) (.bool n) := show rd P .b F w n [.bool n] by simp only [rd]
theorem str_rel {n : ByteArray} : a1Rel P F M μ h w (.lf (.dat .s n)) (.string n) := show rd P .s F w n [.string n] by simp only [rd]
theorem a1_err {n : Bool} {v : Value} (r : a1Rel P F M μ h w (.lf (.dat .e n)) v) : (n = true ∧ v = .nilIface) ∨ (n = false ∧ ∃ t u, v = .iface t u) := by
  have : (n = true ∧ [v] = [Value.nilIface]) ∨ (n = false ∧ ∃ t u, [v] = [Value.iface t u]) := r
  simpa using this
end

theorem beqBytes (a c : ByteArray) : (a.toList == c.toList) = decide (a = c) := by
  rw [Bool.eq_iff_iff, ByteArray.toList_eq, ByteArray.toList_eq, beq_iff_eq, decide_eq_true_iff]
  constructor
  · intro h
    cases a; cases c; simp only at h
    rw [Array.toList_inj] at h
    rw [h]
  · rintro rfl; rfl

section
variable {P : Program} (w : World) {t : TypeId} {ms : Array (String × TypeId)} (he : P.underlying t = some (.interface ms))
include he
theorem run_eqIn_nn (d : Nat) : (Op.equalIn (d + 1) t .nilIface .nilIface).run P w = .ok true w := by simp [Op.equalIn, run_underlying he]
theorem run_eqIn_in (d : Nat) (tx : TypeId) (vx : Value) : (Op.equalIn (d + 1) t (.iface tx vx) .nilIface).run P w = .ok false w := by simp [Op.equalIn, run_underlying he]
theorem run_eq_nn : (Op.equal t .nilIface .nilIface).run P w = .ok true w := run_eqIn_nn w he 9999
theorem run_eq_in (tx : TypeId) (vx : Value) : (Op.equal t (.iface tx vx) .nilIface).run P w = .ok false w := run_eqIn_in w he 9999 tx vx
end
theorem run_eqIn_slnil {P : Program} (w : World) {t el : TypeId} (he : P.underlying t = some (.slice el)) (d : Nat) (ad : Option Addr) (n c : Nat) : (Op.equalIn (d + 1) t (.slice ad n c) (.slice none 0 0)).run P w = .ok ad.isNone w := by
  cases ad <;> simp [Op.equalIn, run_underlying he]
theorem run_eq_slnil {P : Program} (w : World) {t el : TypeId} (he : P.underlying t = some (.slice el)) {ad : Option Addr} {n c : Nat} : (Op.equal t (.slice ad n c) (.slice none 0 0)).run P w = .ok ad.isNone w := run_eqIn_slnil w he 9999 ad n c
theorem ifB_some {R : Type} {b : Bool} {x y : Option R} {r : R} (h : ifB b x y = some r) : (b = true ∧ x = some r) ∨ (b = false ∧ y = some r) := by
  cases b
  · exact .inr ⟨rfl, h⟩
  · exact .inl ⟨rfl, h⟩
theorem rd_sl_inv {P : Program} {t : Ty} {F M : Nat → Prop} {μ : Mu} {hf : AHeap} {w : World} {l : List t.den} {v : Value} (r : a1Rel P F M μ hf w (.lf (.dat (.sl t) l)) v) :
    ∃ ad cap, [v] = [.slice ad l.length cap] ∧ l.length ≤ cap ∧ (l = [] ∨ ∃ b o cs, ad = some ⟨b, o, none⟩ ∧ F b ∧ RdAll (rd P t F w) l cs ∧ cellsAt w b o cs) := by
  have r : rd P (.sl t) F w l [v] := r
  simpa only [rd] using r
theorem run_int2 {P : Program} (w : World) (t : TypeId) (k : IntKind) (a c : Int) :
    (binOp .add t (.int k a) (.int k c)).run P w = .ok (.int k (k.wrap (a + c))) w ∧ (binOp .sub t (.int k a) (.int k c)).run P w = .ok (.int k (k.wrap (a - c))) w ∧
    (binOp .mul t (.int k a) (.int k c)).run P w = .ok (.int k (k.wrap (a * c))) w ∧ (binOp .and t (.int k a) (.int k c)).run P w = .ok (.int k (band k a c)) w ∧
    (binOp .or t (.int k a) (.int k c)).run P w = .ok (.int k (bor k a c)) w ∧ (binOp .xor t (.int k a) (.int k c)).run P w = .ok (.int k (bxor k a c)) w ∧
    (binOp .andNot t (.int k a) (.int k c)).run P w = .ok (.int k (bandNot k a c)) w := by
  cases k <;> exact ⟨rfl, rfl, rfl, rfl, rfl, rfl, rfl⟩
theorem run_cmp2 {P : Program} (w : World) (t : TypeId) (k : IntKind) (a c : Int) (op : BinOp) (v : Bool) (hv : cmpOp op a c = some v) : (binOp op t (.int k a) (.int k c)).run P w = .ok (.bool v) w := by
  cases op <;> simp only [cmpOp, Option.some.injEq, reduceCtorEq] at hv <;> subst hv <;> cases k <;> rfl
theorem run_shift2 {P : Program} (w : World) (t : TypeId) (k k' : IntKind) (a c : Int) (h : ¬ c < 0) :
    (binOp .shl t (.int k a) (.int k' c)).run P w = .ok (.int k (bshl k a c)) w ∧ (binOp .shr t (.int k a) (.int k' c)).run P w = .ok (.int k (bshr k a c)) w := by
  constructor <;> simp only [binOp, Op.shift, h, if_false] <;> rfl
theorem run_div2 {P : Program} (w : World) (t : TypeId) (k : IntKind) (a c : Int) (h : ¬ c = 0) :
    (binOp .quo t (.int k a) (.int k c)).run P w = .ok (.int k (k.wrap (a.tdiv c))) w ∧ (binOp .rem t (.int k a) (.int k c)).run P w = .ok (.int k (a.tmod c)) w := by
  constructor <;> simp only [binOp, Op.intDiv, ne_eq, not_true, h, if_false] <;> rfl
theorem run_guard {P : Program} {w w' : World} {op : BinOp} {t : TypeId} {ox oy : Operand} {vx vy val : Value} (hg : (eqGuard op t ox oy vx vy).run P w = .ok () w) (hb : (binOp op t vx vy).run P w = .ok val w') :
    (do eqGuard op t ox oy vx vy; binOp op t vx vy : Sem Value).run P w = .ok val w' := by
  rw [Sem.run_bind, hg]; exact hb
theorem run_guard_easy {P : Program} {w : World} {op : BinOp} {t : TypeId} {ox oy : Operand} {vx vy : Value} (hg : vx ≠ .nilIface ∧ ∀ cs, vx ≠ .agg cs) : (eqGuard op t ox oy vx vy).run P w = .ok () w := by
  cases vx <;> first
    | exact (hg.1 rfl).elim
    | exact (hg.2 _ rfl).elim
    | (cases op <;> rfl)
theorem run_guard_nil {P : Program} {w : World} {op : BinOp} {t : TypeId} {ox : Operand} {cv : Value} : (eqGuard op t ox (.const cv) .nilIface .nilIface).run P w = .ok () w := by
  cases op <;> first | rfl | (cases ox <;> rfl)

theorem evBin_sound {P : Program} {R : Type} {t : TypeId} {u : Option TypeDesc} (hu : ∀ d, u = some d → P.underlying t = some d) {ox oy : Operand} {yc : Bool} (hyc : yc = true → ∃ v, oy = .const v) {op : BinOp} {x y : A1} {k : A1 → Option R} {r : R}
    (h : evBin u yc op x y k = some r) : ∃ v, k v = some r ∧ ∀ (F M : Nat → Prop) (μ : Mu) (hf : AHeap) (w : World) (vx vy : Value), a1Rel P F M μ hf w x vx → a1Rel P F M μ hf w y vy →
      ∃ val, (do eqGuard op t ox oy vx vy; binOp op t vx vy : Sem Value).run P w = .ok val w ∧ a1Rel P F M μ hf w v val := by
  unfold evBin at h
  split at h
  · rename_i kx a0 ky c0
    obtain ⟨a, rfl⟩ : ∃ a : Int, a = a0 := ⟨_, rfl⟩
    obtain ⟨c, rfl⟩ : ∃ c : Int, c = c0 := ⟨_, rfl⟩
    have hg : ∀ (w : World) (op : BinOp), (eqGuard op t ox oy (.int kx a) (.int ky c)).run P w = .ok () w := fun w op => run_guard_easy ⟨by simp, by simp⟩
    have fin : ∀ {v : A1} {val : Value}, k v = some r → (∀ (w : World), (binOp op t (.int kx a) (.int ky c)).run P w = .ok val w) →
        (∀ (F M : Nat → Prop) (μ : Mu) (hf : AHeap) (w : World), a1Rel P F M μ hf w v val) →
        ∃ v, k v = some r ∧ ∀ (F M : Nat → Prop) (μ : Mu) (hf : AHeap) (w : World) (vx vy : Value), a1Rel P F M μ hf w (.lf (.dat (.i kx) a)) vx → a1Rel P F M μ hf w (.lf (.dat (.i ky) c)) vy →
          ∃ val, (do eqGuard op t ox oy vx vy; binOp op t vx vy : Sem Value).run P w = .ok val w ∧ a1Rel P F M μ hf w v val :=
      fun {v val} hk hr hv => ⟨v, hk, fun F M μ hf w vx vy rx ry => by obtain rfl := a1_int rx; obtain rfl := a1_int ry; exact ⟨val, run_guard (hg w op) (hr w), hv F M μ hf w⟩⟩
    split at h
    · obtain ⟨h1, h⟩ := chk_some h
      have h2 : ¬ c < 0 := by have h3 : (0 : Int) ≤ c := of_decide_eq_true h1; omega
      exact fin h (fun w => (run_shift2 w t kx ky a c h2).1) fun _ _ _ _ _ => int_rel
    · obtain ⟨h1, h⟩ := chk_some h
      have h2 : ¬ c < 0 := by have h3 : (0 : Int) ≤ c := of_decide_eq_true h1; omega
      exact fin h (fun w => (run_shift2 w t kx ky a c h2).2) fun _ _ _ _ _ => int_rel
    · split at h
      · rename_i hk; subst hk
        split at h
        · exact fin h (fun w => (run_int2 w t kx a c).1) fun _ _ _ _ _ => int_rel
        · exact fin h (fun w => (run_int2 w t kx a c).2.1) fun _ _ _ _ _ => int_rel
        · exact fin h (fun w => (run_int2 w t kx a c).2.2.1) fun _ _ _ _ _ => int_rel
        · obtain ⟨h1, h⟩ := chk_some h
          have h2 : ¬ c = 0 := by simpa using h1
          exact fin h (fun w => (run_div2 w t kx a c h2).1) fun _ _ _ _ _ => int_rel
        · obtain ⟨h1, h⟩ := chk_some h
          have h2 : ¬ c = 0 := by simpa using h1
          exact fin h (fun w => (run_div2 w t kx a c h2).2) fun _ _ _ _ _ => int_rel
        · exact fin h (fun w => (run_int2 w t kx a c).2.2.2.1) fun _ _ _ _ _ => int_rel
        · exact fin h (fun w => (run_int2 w t kx a c).2.2.2.2.1) fun _ _ _ _ _ => int_rel
        · exact fin h (fun w => (run_int2 w t kx a c).2.2.2.2.2.1) fun _ _ _ _ _ => int_rel
        · exact fin h (fun w => (run_int2 w t kx a c).2.2.2.2.2.2) fun _ _ _ _ _ => int_rel
        · split at h
          · rename_i v hv
            exact fin h (fun w => run_cmp2 w t kx a c _ v hv) fun _ _ _ _ _ => bool_rel
          · cases h
      · cases h
  · rename_i a c
    have hg : ∀ (w : World) (op : BinOp), (eqGuard op t ox oy (.bool a) (.bool c)).run P w = .ok () w := fun w op => run_guard_easy ⟨by simp, by simp⟩
    split at h
    · exact ⟨_, h, fun F M μ hf w vx vy rx ry => by obtain rfl := a1_bool rx; obtain rfl := a1_bool ry; exact ⟨_, run_guard (hg w _) (run_eql_bool w t a c (hu _ rfl)), bool_rel⟩⟩
    · exact ⟨_, h, fun F M μ hf w vx vy rx ry => by obtain rfl := a1_bool rx; obtain rfl := a1_bool ry; exact ⟨_, run_guard (hg w _) (run_neq_bool w t a c (hu _ rfl)), bool_rel⟩⟩
    · cases h
  · rename_i a0 c0
    obtain ⟨a, rfl⟩ : ∃ a : ByteArray, a = a0 := ⟨_, rfl⟩
    obtain ⟨c, rfl⟩ : ∃ c : ByteArray, c = c0 := ⟨_, rfl⟩
    have hg : ∀ (w : World) (op : BinOp), (eqGuard op t ox oy (.string a) (.string c)).run P w = .ok () w := fun w op => run_guard_easy ⟨by simp, by simp⟩
    split at h
    · obtain ⟨h1, h⟩ := chk_some h
      have h2 : ¬ (((a.size + c.size : Nat) : Int) > IntKind.i64.max) := by
        have := of_decide_eq_true h1
        have e : IntKind.i64.max = 9223372036854775807 := rfl
        rw [e]; omega
      refine ⟨_, h, fun F M μ hf w vx vy rx ry => ?_⟩
      obtain rfl := a1_str rx; obtain rfl := a1_str ry
      exact ⟨.string (a ++ c), run_guard (hg w _) (by simp only [binOp, Op.stringOp, h2, if_false]; rfl), str_rel⟩
    · exact ⟨_, h, fun F M μ hf w vx vy rx ry => by obtain rfl := a1_str rx; obtain rfl := a1_str ry; exact ⟨_, run_guard (hg w _) (by rw [binOp_string_eql, beqBytes]; rfl), bool_rel⟩⟩
    · exact ⟨_, h, fun F M μ hf w vx vy rx ry => by obtain rfl := a1_str rx; obtain rfl := a1_str ry; exact ⟨_, run_guard (hg w _) (by rw [binOp_string_neq, beqBytes]; rfl), bool_rel⟩⟩
    · cases h
  · rename_i a
    have hy : ∀ {F M : Nat → Prop} {μ : Mu} {hf : AHeap} {w : World} {vy : Value}, a1Rel P F M μ hf w (.lf (.dat .e true)) vy → vy = .nilIface := fun ry => by
      rcases a1_err ry with ⟨_, e⟩ | ⟨e, _⟩
      · exact e
      · cases e
    split at h
    · rename_i ms
      obtain ⟨cv, rfl⟩ := hyc rfl
      refine ⟨_, h, fun F M μ hf w vx vy rx ry => ?_⟩
      obtain rfl := hy ry
      have he : P.underlying t = some (.interface ms) := hu _ rfl
      rcases a1_err rx with ⟨rfl, rfl⟩ | ⟨rfl, tx, vx, rfl⟩
      · exact ⟨.bool true, run_guard run_guard_nil (by simp only [binOp, Sem.run_bind, run_eq_nn w he, Result.andThen_ok]; rfl), bool_rel⟩
      · exact ⟨.bool false, run_guard (run_guard_easy ⟨by simp, by simp⟩) (by simp only [binOp, Sem.run_bind, run_eq_in w he, Result.andThen_ok]; rfl), bool_rel⟩
    · rename_i ms
      obtain ⟨cv, rfl⟩ := hyc rfl
      refine ⟨_, h, fun F M μ hf w vx vy rx ry => ?_⟩
      obtain rfl := hy ry
      have he : P.underlying t = some (.interface ms) := hu _ rfl
      rcases a1_err rx with ⟨rfl, rfl⟩ | ⟨rfl, tx, vx, rfl⟩
      · exact ⟨.bool false, run_guard run_guard_nil (by simp only [binOp, Sem.run_bind, run_eq_nn w he, Result.andThen_ok]; rfl), bool_rel⟩
      · exact ⟨.bool true, run_guard (run_guard_easy ⟨by simp, by simp⟩) (by simp only [binOp, Sem.run_bind, run_eq_in w he, Result.andThen_ok]; rfl), bool_rel⟩
    · cases h
  · rename_i et l
    split at h
    · rename_i el
      have he : P.underlying t = some (.slice el) := hu _ rfl
      rcases ifB_some h with ⟨h1, h⟩ | ⟨h1, h⟩
      · refine ⟨_, h, fun F M μ hf w vx vy rx ry => ?_⟩
        obtain rfl : vy = .slice none 0 0 := ry
        obtain ⟨ad, cap, hv, -⟩ := rd_sl_inv rx
        obtain rfl : vx = .slice ad l.length cap := by injection hv
        exact ⟨.bool ad.isNone, run_guard (run_guard_easy ⟨by simp, by simp⟩) (by simp only [binOp, Sem.run_bind, run_eq_slnil w he, Result.andThen_ok]; rfl), _, rfl⟩
      · refine ⟨_, h, fun F M μ hf w vx vy rx ry => ?_⟩
        obtain rfl : vy = .slice none 0 0 := ry
        obtain ⟨ad, cap, hv, -, hi⟩ := rd_sl_inv rx
        obtain rfl : vx = .slice ad l.length cap := by injection hv
        rcases hi with rfl | ⟨b, o, cs, rfl, -⟩
        · cases h1
        exact ⟨.bool false, run_guard (run_guard_easy ⟨by simp, by simp⟩) (by simp only [binOp, Sem.run_bind, run_eq_slnil w he, Result.andThen_ok]; rfl), bool_rel⟩
    · rename_i el
      have he : P.underlying t = some (.slice el) := hu _ rfl
      rcases ifB_some h with ⟨h1, h⟩ | ⟨h1, h⟩
      · refine ⟨_, h, fun F M μ hf w vx vy rx ry => ?_⟩
        obtain rfl : vy = .slice none 0 0 := ry
        obtain ⟨ad, cap, hv, -⟩ := rd_sl_inv rx
        obtain rfl : vx = .slice ad l.length cap := by injection hv
        exact ⟨.bool !ad.isNone, run_guard (run_guard_easy ⟨by simp, by simp⟩) (by simp only [binOp, Sem.run_bind, run_eq_slnil w he, Result.andThen_ok]; rfl), _, rfl⟩
      · refine ⟨_, h, fun F M μ hf w vx vy rx ry => ?_⟩
        obtain rfl : vy = .slice none 0 0 := ry
        obtain ⟨ad, cap, hv, -, hi⟩ := rd_sl_inv rx
        obtain rfl : vx = .slice ad l.length cap := by injection hv
        rcases hi with rfl | ⟨b, o, cs, rfl, -⟩
        · cases h1
        exact ⟨.bool true, run_guard (run_guard_easy ⟨by simp, by simp⟩) (by simp only [binOp, Sem.run_bind, run_eq_slnil w he, Result.andThen_ok]; rfl), bool_rel⟩
    · cases h
  · cases h
end Go.CE
