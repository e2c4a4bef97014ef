/-
  A computed evaluator over the model's code, part S: the state of a frame; one operation; a region in order.
-/
import Derived.Test.YtlbfolepljpmbaaDoorCeR
namespace Go.CE
set_option linter.all false
set_option linter.unusedSectionVars false
open Go Go.RowKit
variable [Tab]
set_option linter.unusedVariables false
set_option linter.unusedSimpArgs false

/-- What a frame began with. -/
structure Gh where
  w0 : World
  F0 : Nat → Prop
  μ0 : Mu
  io : Nat
def Gh.Own (G : Gh) (b : Nat) : Prop := G.w0.heap.size ≤ b ∨ ∃ id, id < G.io ∧ G.μ0 id = some b

structure SRx (P : Program) (G : Gh) (nt : Nat) (t : Tmps) (h : AHeap) (F M : Nat → Prop) (μ : Mu) (a : Act) (w : World) : Prop where
  size : a.tmps.size = nt
  defers : a.defers = []
  tmp : ∀ d, avRel P F M μ h w (t d) (a.tmps.getD d undef)
  hrel : HRel P G.Own F M μ h w
  touch : TouchO G.Own G.w0 w
  fsub : ∀ b, G.F0 b → F b
  ffr : ∀ b, F b → G.F0 b ∨ G.w0.heap.size ≤ b
  cap : ∀ b m, CapOk G.w0 b m → CapOk w b m
  io : ∀ id, id < G.io → M id ∧ μ id = G.μ0 id
  live : ∀ id, id < G.io → ∃ o, h id = some o
def SR (P : Program) (G : Gh) (nt : Nat) (t : Tmps) (h : AHeap) (M : Nat → Prop) (a : Act) (w : World) : Prop := ∃ F μ, SRx P G nt t h F M μ a w

section
variable {P : Program} {G : Gh} {nt : Nat}

theorem SRx.own {t : Tmps} {h : AHeap} {F M : Nat → Prop} {μ : Mu} {a : Act} {w : World} (S : SRx P G nt t h F M μ a w) : ∀ b, w.heap.size ≤ b → G.Own b :=
  fun b hb => .inl (Nat.le_trans S.touch.2.2.2.1 hb)
theorem getD_put {a : Act} {d : Option Tmp} {v : Value} {i : Nat} : (a.put d v).tmps.getD i undef = if d = some i ∧ i < a.tmps.size then v else a.tmps.getD i undef := by
  cases d with
  | none => simp [Act.put]
  | some d =>
    simp only [Act.put, Array.getD_eq_getD_getElem?]
    by_cases h : d = i
    · subst h
      by_cases hl : d < a.tmps.size
      · simp [hl]
      · simp [hl]
    · simp [h, Array.getElem?_setIfInBounds_ne h]
theorem put_size {a : Act} {d : Option Tmp} {v : Value} : (a.put d v).tmps.size = a.tmps.size := by cases d <;> simp [Act.put]
theorem put_defers {a : Act} {d : Option Tmp} {v : Value} : (a.put d v).defers = a.defers := by cases d <;> rfl

theorem puts_live {id : Nat} : ∀ {ch : Chg} {h : AHeap}, (∃ o, h id = some o) → (∀ p ∈ ch, p.2 = none → id ≠ p.1) → ∃ o, (h.puts ch) id = some o
  | [], _, hl, _ => hl
  | (i, o) :: ch, h, hl, hn => by
    refine puts_live (ch := ch) (h := h.put i o) ?_ fun p hp => hn p (List.mem_cons_of_mem _ hp)
    by_cases e : id = i
    · subst e
      cases o with
      | none => exact absurd rfl (hn (id, none) List.mem_cons_self rfl)
      | some o => exact ⟨o, AHeap.put_same _ _ _⟩
    · rw [AHeap.put_ne _ _ e]; exact hl
theorem SRx.post {t : Tmps} {h : AHeap} {F M : Nat → Prop} {μ : Mu} {a : Act} {w w' : World} (S : SRx P G nt t h F M μ a w) {n : Nat} {ch : Chg} {av : AV} {v : Value} {F' : Nat → Prop} {μ' : Mu}
    (p : Post P G.Own F M μ h w n ch av v w' F' μ') {d : Option Tmp} (hd : ∀ i, d = some i → i < nt) (hch : ∀ p ∈ ch, p.2 = none → G.io ≤ p.1) : SRx P G nt (t.put d av) (h.puts ch) F' (more M n) μ' (a.put d v) w' := by
  refine ⟨put_size.trans S.size, put_defers.trans S.defers, fun i => ?_, p.hrel, S.touch.trans p.touch, fun b hb => p.later.sub b (S.fsub b hb), fun b hb => ?_, fun b m hc => p.later.cap b m (S.cap b m hc), fun id hid => ⟨.inl (S.io id hid).1, (p.mu id (S.io id hid).1).trans (S.io id hid).2⟩, fun id hid => puts_live (S.live id hid) fun p hp hn => by have := hch p hp hn; omega⟩
  · rw [getD_put]
    cases d with
    | none => simpa [Tmps.put] using avRel_later p.later (S.tmp i)
    | some d =>
      by_cases e : i = d
      · subst e
        simp only [Tmps.put, if_true, true_and, S.size, hd i rfl]
        exact p.av
      · have e' : ¬ (some d = some i ∧ i < a.tmps.size) := fun h => e (Option.some.inj h.1).symm
        simp only [Tmps.put, if_neg e, if_neg e']
        exact avRel_later p.later (S.tmp i)
  · rcases p.fresh b hb with hb | hb | ⟨id, o, h1, h2, h3⟩
    · exact S.ffr b hb
    · exact .inr (Nat.le_trans S.touch.2.2.2.1 hb)
    · rcases (S.hrel.own id o b h2 h3).2.1 with h4 | ⟨k, hk, hkb⟩
      · exact .inr h4
      · exfalso
        obtain ⟨ok, hok⟩ := S.live k hk
        have := S.hrel.inj id k o ok b h2 hok h3 ((S.io k hk).2.trans hkb)
        subst this
        have := hch _ h1 rfl
        omega
theorem SRx.grown {t : Tmps} {h : AHeap} {F M M' : Nat → Prop} {μ : Mu} {a : Act} {w w' : World} (S : SRx P G nt t h F M μ a w) (k : Below w.heap.size w w') (hM : ∀ id, M id → M' id) {d : Option Tmp} {v : Value} :
    SRx P G nt (t.put d (.v (.lf .unk))) h F M' μ (a.put d v) w' := by
  have hl : Later F F M M' μ μ h h w w' := Later.of_below S.hrel.closed (fun _ h => h) hM k
  refine ⟨put_size.trans S.size, put_defers.trans S.defers, fun i => ?_, S.hrel.below k (fun _ h => h) (fun _ h => .inl h) (S.hrel.closed.next (Ext.of_below S.hrel.closed k) (fun _ h => h) fun b hb => Nat.lt_of_lt_of_le (S.hrel.closed.1 b hb) k.size) hM,
    S.touch.trans (.of_below k S.own), S.fsub, S.ffr, fun b m hc => CapOk.of_below k (S.cap b m hc), fun id hid => ⟨hM _ (S.io id hid).1, (S.io id hid).2⟩, S.live⟩
  rw [getD_put]
  cases d with
  | none => simpa [Tmps.put] using avRel_later hl (S.tmp i)
  | some d =>
    by_cases e : i = d
    · subst e
      simp only [Tmps.put, if_true]
      trivial
    · have e' : ¬ (some d = some i ∧ i < a.tmps.size) := fun h => e (Option.some.inj h.1).symm
      simp only [Tmps.put, if_neg e, if_neg e']
      exact avRel_later hl (S.tmp i)

theorem eval_rel {t : Tmps} {h : AHeap} {F M : Nat → Prop} {μ : Mu} {a : Act} {w : World} (S : SRx P G nt t h F M μ a w) : ∀ x, avRel P F M μ h w (opdV t x) (a.eval x)
  | .tmp d => S.tmp d
  | .const v => constA1_rel v
  | .global _ => trivial
  | .func _ => trivial

theorem step_ok {c : Cfg} (hio : c.io = G.io) {ops : Array Oper} {o : Oper} {t t0 : Tmps} {h h0 : AHeap} {n : Nat} {x : StepR} (hO : OkStep P c ops o t0 h0 n x) (hT : ∀ d ∈ o.looksAt ops, t d = t0 d) (hH : ∀ id ∈ x.T, h id = h0 id)
    {M : Nat → Prop} {a : Act} {w : World} (S : SR P G c.nt t h M a w) (hM : ∀ id, n ≤ id → id < n + 16 → ¬ M id) {K : Act → World → Prop} {Q : Exit → Act → World → Prop}
    (hK : ∀ a' w', SR P G c.nt (t.put o.dst x.av) (h.puts x.ch) (more M n) a' w' → K a' w') :
    if Region.wanted o (yielded ops a.tmps) then o.wp P a w K Q else K (a.put o.dst undef) w := by
  obtain ⟨F, μ, S⟩ := S
  have hops : ∀ y ∈ o.op.operands, avRel P F M μ h w (opdV t0 y) (a.eval y) := fun y hy => by
    have e : opdV t0 y = opdV t y := by
      cases y with
      | tmp d => exact (hT d (List.mem_append_left _ (List.mem_filterMap.2 ⟨.tmp d, by simpa using hy, rfl⟩))).symm
      | _ => rfl
    rw [e]; exact eval_rel S y
  have run : (∀ d, o.dst = some d → d < c.nt) → (∀ p ∈ x.ch, p.1 < n + 16 ∧ (p.2 = none → c.io ≤ p.1)) → LSem P o t0 h0 n x.av x.T x.ch → o.wp P a w K Q := fun hd hc hL =>
    (hL.2 (fun p hp => (hc p hp).1) G.Own F M μ h w a.eval (fun _ => rfl) S.own hM hH hops S.hrel).wp fun v w' hp => by
      obtain ⟨F', μ', hp⟩ := hp
      exact hK _ _ ⟨F', μ', S.post hp hd fun p hp hn => hio ▸ (hc p hp).2 hn⟩
  unfold OkStep at hO
  split at hO
  · rename_i hg
    simp only [Region.wanted, hg, if_true]
    exact run hO.1 hO.2.1 hO.2.2
  · rename_i j want hg
    obtain ⟨d, b, hd, hb, hO⟩ := hO
    have hdo : (ops[j]?).bind (·.dst) = some d := hd
    have e : t d = t0 d := hT d (List.mem_append_right _ (by simp [hg, hdo]))
    have h1 : rd P .b F w b [a.tmps.getD d undef] := by
      have := S.tmp d; rw [e, hb] at this; exact this
    have h2 : a.tmps.getD d undef = .bool b := by
      have h1 : [a.tmps.getD d undef] = [Value.bool b] := h1
      injection h1
    have hy : yielded ops a.tmps j = some b := by
      unfold yielded
      rw [hdo]
      simp only [Option.bind_some]
      rw [Array.getD_eq_getD_getElem?] at h2
      cases hq : a.tmps[d]? with
      | none => rw [hq] at h2; simp [undef] at h2
      | some u => rw [hq] at h2; simp only [Option.getD_some] at h2; subst h2; rfl
    rcases hO with ⟨rfl, hd', hc, hL⟩ | ⟨hne, rfl⟩
    · have : Region.wanted o (yielded ops a.tmps) = true := by simp [Region.wanted, hg, hy]
      rw [if_pos this]
      exact run hd' hc hL
    · have : ¬ Region.wanted o (yielded ops a.tmps) = true := by simp [Region.wanted, hg, hy, hne]
      rw [if_neg this]
      exact hK _ _ ⟨F, μ, S.grown (Below.refl _ _) more_sub⟩

/-- The numbers that have been given, from n on. -/
def ids (M : Nat → Prop) (n n' : Nat) : Nat → Prop := fun id => M id ∨ (n ≤ id ∧ id < n')
theorem SR.mono {t : Tmps} {h : AHeap} {M M' : Nat → Prop} {a : Act} {w : World} (S : SR P G nt t h M a w) (hM : ∀ id, M id → M' id) : SR P G nt t h M' a w := by
  obtain ⟨F, μ, S⟩ := S
  have := S.grown (Below.refl _ _) hM (d := none) (v := undef)
  exact ⟨F, μ, this⟩

theorem list_ok {c : Cfg} (hio : c.io = G.io) {ops : Array Oper} {Q : Exit → Act → World → Prop} : ∀ {l : List Oper} {s s' : St} {rs : List StepR}, Traced P c ops l s rs s' → ∀ {a : Act} {w : World},
    SR P G c.nt s.t s.h (fun id => id < s.n) a w → (∀ a w, SR P G c.nt s'.t s'.h (fun id => id < s'.n) a w → Q .normal a w) → wpList P ops Q l a w
  | [], s, s', rs, ht, a, w, S, hQ => by
    obtain ⟨_, rfl⟩ := ht
    exact hQ _ _ S
  | o :: l, s, s', rs, ht, a, w, S, hQ => by
    obtain ⟨x, rs', rfl, h1, h2⟩ := ht
    unfold wpList
    have := step_ok hio (K := wpList P ops Q l) (Q := Q) h1 (fun _ _ => rfl) (fun _ _ => rfl) S (fun id h _ => by omega) fun a' w' S' =>
      list_ok hio h2 (S'.mono fun id hid => by
        simp only [after1]
        rcases hid with hid | hid
        · omega
        · omega) hQ
    split
    · rename_i hw; rw [if_pos hw] at this; exact .inl this
    · rename_i hw; rw [if_neg hw] at this; exact this
end
end Go.CE
