/-
  A computed evaluator over the model's code, part V: code.
-/
import Derived.Test.YtlbfolepljpmbaaDoorCeU
import Derived.Scope
namespace Go.CE
set_option linter.all false
set_option linter.unusedSectionVars false
open Go Go.RowKit
variable [Tab]
set_option linter.unusedVariables false
set_option linter.unusedSimpArgs false

theorem wp_loop_n {P : Program} {c : Code} {Q : Exit → Act → World → Prop} (J : Nat → Act → World → Prop)
    (round : ∀ n a w, J n a w → c.wp P (Exit.then (fun a' w' => ∃ m, m < n ∧ J m a' w') Q) a w) {n : Nat} {a : Act} {w : World} (h : J n a w) : (Code.loop c).wp P Q a w := by
  intro b k cs
  have key : ∀ n a w, J n a w →
      ∃ e a' w', Q e a' w' ∧ Arrives P (lone (b.at a (.code c :: .inLoop c :: k)) cs w) b k cs e a' w' := by
    intro n
    induction n using Nat.strongRecOn with
    | _ n ih =>
      intro a w hI
      obtain ⟨e, a₁, w₁, hq, harr⟩ := round n a w hI b (.inLoop c :: k) cs
      cases e with
      | normal =>
        obtain ⟨m, hm, hI₁⟩ := hq
        obtain ⟨e₂, a₂, w₂, hq₂, harr₂⟩ := ih m hm a₁ w₁ hI₁
        exact ⟨e₂, a₂, w₂, hq₂, .of_steps (Steps.trans harr (.one step_inLoop)) harr₂⟩
      | exit id => exact ⟨_, a₁, w₁, hq, .pass (x := .inLoop c) rfl (fun _ _ => .inl (by simp)) harr⟩
      | goto l => exact ⟨_, a₁, w₁, hq, .pass (x := .inLoop c) rfl (fun _ _ => .inl (by simp)) harr⟩
      | ret => exact ⟨_, a₁, w₁, hq, .pass (x := .inLoop c) rfl (fun _ _ => .inl (by simp)) harr⟩
      | panic ch => exact ⟨_, a₁, w₁, hq, .pass (x := .inLoop c) rfl (fun _ _ => .inl (by simp)) harr⟩
      | outgrown => exact ⟨_, a₁, w₁, hq, .pass (x := .inLoop c) rfl (fun _ _ => .inl (by simp)) harr⟩
  obtain ⟨e, a', w', hq, harr⟩ := key n a w h
  exact ⟨e, a', w', hq, .of_steps (.one step_loop) harr⟩

theorem iter_some {A B : Type} {f : A → Option (A ⊕ B)} {x : A} {r : B} (h : iter f x = some r) : ∃ n, iterN f n x = some r := by
  unfold iter at h
  split at h
  · exact ⟨_, h⟩
  · cases h
theorem toInl_some {Y R : Type} {o : Option Y} {z : Y ⊕ R} (h : toInl (R := R) o = some z) : ∃ y, o = some y ∧ z = .inl y := by
  unfold toInl at h
  obtain ⟨y, h1, h2⟩ := Option.map_eq_some_iff.1 h
  exact ⟨y, h1, h2.symm⟩
theorem toInr_some {Y R : Type} {o : Option R} {z : Y ⊕ R} (h : toInr (Y := Y) o = some z) : ∃ y, o = some y ∧ z = .inr y := by
  unfold toInr at h
  obtain ⟨y, h1, h2⟩ := Option.map_eq_some_iff.1 h
  exact ⟨y, h1, h2.symm⟩

theorem both_some {R : Type} {x y : Option R} {r : R} (h : both x y = some r) : x = some r ∧ y = some r := by
  unfold both at h
  split at h
  · rename_i e; exact ⟨h, e ▸ h⟩
  · cases h

section
variable {P : Program} {G : Gh}

theorem putAll_rel {F M : Nat → Prop} {μ : Mu} {h : AHeap} {w : World} {f : Nat → Value} : ∀ {ds : List Tmp} {as : List A1} {t : Tmps}, (∀ d, avRel P F M μ h w (t d) (f d)) → a1sRel P F M μ h w as (ds.map f) → ∀ d, avRel P F M μ h w (putAll t ds as d) (f d)
  | [], as, t, ht, r => by cases as <;> exact ht
  | d :: ds, as, t, ht, r => by
    cases as with
    | nil => exact ht
    | cons a as =>
      obtain ⟨v, rs, e, r1, r2⟩ := r
      simp only [List.map_cons, List.cons.injEq] at e
      obtain ⟨rfl, rfl⟩ := e
      refine putAll_rel (ds := ds) (as := as) (t := Tmps.put t (some d) (.v a)) (fun i => ?_) r2
      by_cases hi : i = d
      · subst hi
        have e : Tmps.put t (some i) (.v a) i = .v a := by simp [Tmps.put]
        rw [e]; exact r1
      · have e : Tmps.put t (some d) (.v a) i = t i := by simp [Tmps.put, hi]
        rw [e]; exact ht i
theorem slots_rel {F M : Nat → Prop} {μ : Mu} {h : AHeap} {w : World} {t : Tmps} {f : Nat → Value} (ht : ∀ d, avRel P F M μ h w (t d) (f d)) : ∀ ds : List Tmp, a1sRel P F M μ h w (ds.map (slotA1 t)) (ds.map f)
  | [] => rfl
  | d :: ds => by
    refine ⟨_, _, rfl, ?_, slots_rel ht ds⟩
    have := ht d
    unfold slotA1
    split
    · rename_i a e; rw [e] at this; exact this
    · trivial

theorem unpackS_ok {c : Cfg} (hio : c.io = G.io) {l : LShp} {s : St} {x : l.s.den} (hu : unpackS c l s = some x) {a : Act} {w : World} (S : SR P G c.nt s.t s.h (fun id => id < s.n) a w) :
    SR P G c.nt (packS l x).t (packS l x).h (fun id => id < (packS l x).n) a w := by
  unfold unpackS at hu
  split at hu
  · cases hu
  · rename_i y m ds hup
    split at hu
    · rename_i hc
      injection hu with hu; subst hu
      simp only [Bool.and_eq_true] at hc
      obtain ⟨F, μ, S⟩ := S
      obtain ⟨r1, r2⟩ := unpack_rel S.hrel hup (fun _ _ => rfl) (slots_rel (f := fun d => a.tmps.getD d undef) S.tmp l.at_)
      obtain ⟨m1, i, j, -, -, hij, hnd, hdis, hlt⟩ := unpack_parts hup
      have hsame : ∀ k, k < G.io → m.get k = some (some k) := fun k hk => by
        have h1 := hc.1
        simp only [ioSame, List.all_eq_true, List.mem_range] at h1
        have := h1 k (by omega)
        split at this
        · rename_i a ha
          rw [ha]; simpa using this
        · cases this
      refine ⟨plus F μ ds, mapMu m μ, S.size, S.defers, putAll_rel (fun d => trivial) r1, r2, S.touch, fun b hb => plus_sub b (S.fsub b hb), fun b hb => ?_, S.cap, fun id hid => ?_, fun id hid => ?_⟩
      · rcases hb with hb | ⟨id, hid, hb⟩
        · exact S.ffr b hb
        · obtain ⟨o, ho⟩ : ∃ o, s.h id = some o := by
            rw [hij] at hid
            have h1 := unpack_parts hup
            obtain ⟨m1', i', j', e1, e2, e3, _⟩ := h1
            rw [← hij, e3] at hid
            rcases List.mem_append.1 hid with hid | hid
            · exact unV_live e1 id hid
            · exact unO_live e2 id hid
          rcases (S.hrel.own id o b ho hb).2.1 with h | ⟨k, hk, hkb⟩
          · exact .inr h
          · exfalso
            have hgk := hsame k hk
            have hkl := hlt _ (Map.get_mem hgk)
            have hkl : k < (packO l.s.so y.2).length := by rw [packO_len]; exact hkl
            obtain ⟨a', g1, g2⟩ := unpack_like hup k _ (by rw [enumO_zero]; exact List.getElem?_eq_getElem hkl)
            rw [hgk] at g1; injection g1 with g1; subst g1
            obtain ⟨o', ho', _⟩ := g2
            have hk' : μ k = some b := by rw [(S.io k hk).2]; exact hkb
            have := S.hrel.inj id k o o' b ho ho' hb hk'
            subst this
            exact hdis _ (Map.ids_mem hgk) hid
      · have hgk := hsame id hid
        refine ⟨hlt _ (Map.get_mem hgk), ?_⟩
        simp only [mapMu, hgk]
        exact (S.io id hid).2
      · have hkl := hlt _ (Map.get_mem (hsame id hid))
        have hkl : id < (packO l.s.so y.2).length := by rw [packO_len]; exact hkl
        exact ⟨_, by show enumO 0 (packO l.s.so y.2) id = _; rw [enumO_zero]; exact List.getElem?_eq_getElem hkl⟩
    · cases hu

theorem join_some {R : Type} {l : LShp} {E : Option (l.s.den ⊕ R)} {kn : St → Option R} {r : R} (h : joined l E kn = some r) : ∃ z, E = some z ∧ ((∃ y, z = .inl y ∧ kn (packS l y) = some r) ∨ z = .inr r) := by
  unfold joined at h
  obtain ⟨z, h1, h2⟩ := Option.bind_eq_some_iff.1 h
  refine ⟨z, h1, ?_⟩
  cases z with
  | inl y => exact .inl ⟨y, rfl, h2⟩
  | inr r' => injection h2 with h2; exact .inr (by rw [h2])
theorem inl_z {R : Type} {c : Cfg} (hio : c.io = G.io) {l : LShp} {z : l.s.den ⊕ R} {kn : St → Option R} {r : R} (hz : (∃ y, z = .inl y ∧ kn (packS l y) = some r) ∨ z = .inr r) {Q : Act → World → Prop}
    (hn : ∀ s' a' w', kn s' = some r → SR P G c.nt s'.t s'.h (fun id => id < s'.n) a' w' → Q a' w') {s' : St} {a' : Act} {w' : World} (h : toInl (R := R) (unpackS c l s') = some z) (S : SR P G c.nt s'.t s'.h (fun id => id < s'.n) a' w') : Q a' w' := by
  obtain ⟨y, hy, rfl⟩ := toInl_some h
  rcases hz with ⟨y', e, hk⟩ | e
  · injection e with e; subst e
    exact hn _ _ _ hk (unpackS_ok hio hy S)
  · cases e
theorem inr_z {Y R : Type} {z : Y ⊕ R} {kn : Y → Option R} {r : R} (hz : (∃ y, z = .inl y ∧ kn y = some r) ∨ z = .inr r) {o : Option R} (h : toInr (Y := Y) o = some z) : o = some r := by
  obtain ⟨y, hy, rfl⟩ := toInr_some h
  rcases hz with ⟨y', e, hk⟩ | e
  · cases e
  · injection e with e; subst e; exact hy

theorem frzS_ok {c : Cfg} (hio : c.io = G.io) {ds : List Tmp} {s s2 : St} (hs : frzS c ds s = some s2) {a : Act} {w : World} (S : SR P G c.nt s.t s.h (fun id => id < s.n) a w) :
    SR P G c.nt s2.t s2.h (fun id => id < s2.n) a w := by
  unfold frzS at hs
  simp only at hs
  split at hs
  · rename_i hc
    injection hs with hs; subst hs
    obtain ⟨F, μ, S⟩ := S
    have hl : ∀ id ∈ (ds.map fun d => avIds (s.t d)).flatten, (∃ o, s.h id = some o) ∧ c.io ≤ id := fun id hid => by
      have := List.all_eq_true.1 hc id hid
      simp only [Bool.and_eq_true, decide_eq_true_eq, Option.isSome_iff_exists] at this
      exact this
    generalize (ds.map fun d => avIds (s.t d)).flatten = ids at *
    refine ⟨plus F μ ids, μ, S.size, S.defers, fun d => frzV_rel S.hrel (fun _ _ => rfl) (S.tmp d), S.hrel.freeze (fun id hid => (hl id hid).1), S.touch, fun b hb => plus_sub b (S.fsub b hb), fun b hb => ?_, S.cap, S.io, fun id hid => ?_⟩
    · rcases hb with hb | ⟨id, hid, hb⟩
      · exact S.ffr b hb
      · obtain ⟨⟨o, ho⟩, hge⟩ := hl id hid
        rcases (S.hrel.own id o b ho hb).2.1 with h | ⟨k, hk, hkb⟩
        · exact .inr h
        · exfalso
          obtain ⟨o', ho'⟩ := S.live k hk
          have := S.hrel.inj id k o o' b ho ho' hb (((S.io k hk).2).trans hkb)
          omega
    · obtain ⟨o, ho⟩ := S.live id hid
      refine ⟨o, ?_⟩
      have : id ∉ ids := fun h => by have := (hl id h).2; omega
      show (s.h.puts (killAll ids)) id = some o
      rw [kill_out this]; exact ho
  · cases hs
/-- Code, from a state of which the evaluator says something. -/
theorem ev_sound {c : Cfg} (hT : TOk P c.tt) (hG : GOk P c.g) (hm : P.follows .mixedOrders = true) (hio : c.io = G.io) : ∀ (code : Code) (ann : Ann) {R : Type} {s : St} {kn : St → Option R} {ke : Nat → St → Option R} {kr : St → Option R} {r : R} {Q : Exit → Act → World → Prop} {a : Act} {w : World},
    ev c code ann s kn ke kr = some r → SR P G c.nt s.t s.h (fun id => id < s.n) a w →
    (∀ s' a' w', kn s' = some r → SR P G c.nt s'.t s'.h (fun id => id < s'.n) a' w' → Q .normal a' w') →
    (∀ i s' a' w', ke i s' = some r → SR P G c.nt s'.t s'.h (fun id => id < s'.n) a' w' → Q (.exit i) a' w') →
    (∀ s' a' w', kr s' = some r → SR P G c.nt s'.t s'.h (fun id => id < s'.n) a' w' → Q .ret a' w') → code.wp P Q a w := by
  intro code
  induction code with
  | skip =>
    intro ann R s kn ke kr r Q a w he S hn _ _
    exact wp_skip (hn _ _ _ (by simpa only [ev] using he) S)
  | region id ops draw =>
    intro ann R s kn ke kr r Q a w he S hn hx hr
    have plain : ∀ {R' : Type} {r' : R'} {kn' : St → Option R'}, (evOps c ops ops.toList s fun s' tr => if !draw || drawOk ops tr then kn' s' else none) = some r' → (∀ s' a' w', kn' s' = some r' → SR P G c.nt s'.t s'.h (fun id => id < s'.n) a' w' → Q .normal a' w') → (Code.region id ops draw).wp P Q a w := by
      intro R' r' kn' he hn
      obtain ⟨rs, s', h1, h2⟩ := evOps_sound hT hG he
      split at h2
      · rename_i hd
        exact region_ok hio hm h1 hd S fun a' w' S' => hn s' a' w' h2 S'
      · cases h2
    cases ann with
    | join l ann =>
      simp only [ev] at he
      obtain ⟨z, h1, hz⟩ := join_some he
      exact plain h1 fun s' a' w' hk S' => inl_z hio hz hn hk S'
    | frz ds =>
      simp only [ev] at he
      split at he
      · rename_i s2 hs2
        have S2 := frzS_ok hio hs2 S
        obtain ⟨rs, s', h1, h2⟩ := evOps_sound hT hG he
        split at h2
        · rename_i hd
          exact region_ok hio hm h1 hd S2 fun a' w' S' => hn _ a' w' h2 S'
        · cases h2
      · cases he
    | _ => exact plain (by simpa only [ev] using he) hn
  | seq x y ihx ihy =>
    intro ann R s kn ke kr r Q a w he S hn hx hr
    have plain : ∀ {ann : Ann} {R' : Type} {r' : R'} {kn' : St → Option R'} {ke' : Nat → St → Option R'} {kr' : St → Option R'}, ev c x ann.fst s (fun s' => ev c y ann.snd s' kn' ke' kr') ke' kr' = some r' →
        (∀ s' a' w', kn' s' = some r' → SR P G c.nt s'.t s'.h (fun id => id < s'.n) a' w' → Q .normal a' w') →
        (∀ i s' a' w', ke' i s' = some r' → SR P G c.nt s'.t s'.h (fun id => id < s'.n) a' w' → Q (.exit i) a' w') →
        (∀ s' a' w', kr' s' = some r' → SR P G c.nt s'.t s'.h (fun id => id < s'.n) a' w' → Q .ret a' w') → (Code.seq x y).wp P Q a w := by
      intro ann R' r' kn' ke' kr' he hn hx hr
      exact wp_seq (ihx _ he S (fun s' a' w' h1 S' => ihy _ h1 S' hn hx hr) hx hr)
    cases ann with
    | join l ann =>
      simp only [ev] at he
      obtain ⟨z, h1, hz⟩ := join_some he
      exact plain h1 (fun s' a' w' hk S' => inl_z hio hz hn hk S') (fun i s' a' w' hk S' => hx i s' a' w' (inr_z (kn := fun y => kn (packS l y)) hz hk) S') (fun s' a' w' hk S' => hr s' a' w' (inr_z (kn := fun y => kn (packS l y)) hz hk) S')
    | _ => exact plain (by simpa only [ev] using he) hn hx hr
  | cond q x y ihx ihy =>
    intro ann R s kn ke kr r Q a w he S hn hx hr
    have plain : ∀ {ann : Ann} {v : Bool} {R' : Type} {r' : R'} {kn' : St → Option R'} {ke' : Nat → St → Option R'} {kr' : St → Option R'}, opd s.t q = .lf (.dat .b v) → ifB v (ev c x ann.fst s kn' ke' kr') (ev c y ann.snd s kn' ke' kr') = some r' →
        (∀ s' a' w', kn' s' = some r' → SR P G c.nt s'.t s'.h (fun id => id < s'.n) a' w' → Q .normal a' w') →
        (∀ i s' a' w', ke' i s' = some r' → SR P G c.nt s'.t s'.h (fun id => id < s'.n) a' w' → Q (.exit i) a' w') →
        (∀ s' a' w', kr' s' = some r' → SR P G c.nt s'.t s'.h (fun id => id < s'.n) a' w' → Q .ret a' w') → (Code.cond q x y).wp P Q a w := by
      intro ann v R' r' kn' ke' kr' hq he hn hx hr
      have hv : a.eval q = .bool v := by
        obtain ⟨F, μ, S⟩ := S
        have := opd_rel (eval_rel S q)
        rw [hq] at this
        have this : [a.eval q] = [Value.bool v] := this
        injection this
      rcases ifB_some he with ⟨rfl, he⟩ | ⟨rfl, he⟩
      · exact wp_cond_true hv (ihx _ he S hn hx hr)
      · exact wp_cond_false hv (ihy _ he S hn hx hr)
    cases ann with
    | join l ann =>
      simp only [ev] at he
      split at he
      · rename_i v hq
        obtain ⟨z, h1, hz⟩ := join_some he
        exact plain hq h1 (fun s' a' w' hk S' => inl_z hio hz hn hk S') (fun i s' a' w' hk S' => hx i s' a' w' (inr_z (kn := fun y => kn (packS l y)) hz hk) S') (fun s' a' w' hk S' => hr s' a' w' (inr_z (kn := fun y => kn (packS l y)) hz hk) S')
      · cases he
    | _ =>
      simp only [ev] at he
      split at he
      · rename_i v hq
        exact plain hq he hn hx hr
      · rename_i hq
        obtain ⟨v, hv⟩ : ∃ v, a.eval q = .bool v := by
          obtain ⟨F, μ, S⟩ := S
          have := opd_rel (eval_rel S q)
          rw [hq] at this
          exact this
        obtain ⟨e1, e2⟩ := both_some he
        cases v
        · exact wp_cond_false hv (ihy _ e2 S hn hx hr)
        · exact wp_cond_true hv (ihx _ e1 S hn hx hr)
      · cases he
  | block id body ih =>
    intro ann R s kn ke kr r Q a w he S hn hx hr
    cases ann with
    | join l ann =>
      simp only [ev] at he
      obtain ⟨z, h1, hz⟩ := join_some he
      refine wp_block (ih _ h1 S (fun s' a' w' hk S' => inl_z (Q := fun a w => Q .normal a w) hio hz hn hk S') (fun i s' a' w' hk S' => ?_) (fun s' a' w' hk S' => hr s' a' w' (inr_z (kn := fun y => kn (packS l y)) hz hk) S'))
      show if i = id then Q .normal a' w' else Q (.exit i) a' w'
      split at hk
      · rename_i hi; rw [if_pos hi]; exact inl_z (Q := fun a w => Q .normal a w) hio hz hn hk S'
      · rename_i hi; rw [if_neg hi]; exact hx i s' a' w' (inr_z (kn := fun y => kn (packS l y)) hz hk) S'
    | _ =>
      simp only [ev] at he
      refine wp_block (ih _ he S hn (fun i s' a' w' hk S' => ?_) hr)
      show if i = id then Q .normal a' w' else Q (.exit i) a' w'
      split at hk
      · rename_i hi; rw [if_pos hi]; exact hn _ _ _ hk S'
      · rename_i hi; rw [if_neg hi]; exact hx _ _ _ _ hk S'
  | loop body ih =>
    intro ann R s kn ke kr r Q a w he S hn hx hr
    cases ann with
    | loop l ann =>
      simp only [ev] at he
      split at he
      · cases he
      · rename_i x hux
        obtain ⟨n, hn'⟩ := iter_some he
        refine wp_loop_n (fun n a w => ∃ y, iterN (fun y => ev c body ann (packS l y) (fun s'' => toInl (unpackS c l s'')) (fun i s'' => toInr (ke i s'')) (fun s'' => toInr (kr s''))) n y = some r ∧ SR P G c.nt (packS l y).t (packS l y).h (fun id => id < (packS l y).n) a w) ?_ (n := n) ⟨x, hn', unpackS_ok hio hux S⟩
        rintro n a w ⟨y, hy, S⟩
        cases n with
        | zero => cases hy
        | succ n =>
          simp only [iterN] at hy
          split at hy
          · cases hy
          · rename_i y' hf
            refine ih _ hf S (fun s' a' w' hk S' => ?_) (fun i s' a' w' hk S' => ?_) (fun s' a' w' hk S' => ?_)
            · obtain ⟨y2, hy2, e⟩ := toInl_some hk
              injection e with e; subst e
              exact ⟨n, by omega, _, hy, unpackS_ok hio hy2 S'⟩
            · obtain ⟨y2, hy2, e⟩ := toInr_some hk; cases e
            · obtain ⟨y2, hy2, e⟩ := toInr_some hk; cases e
          · rename_i r' hf
            injection hy with hy; subst hy
            refine ih _ hf S (fun s' a' w' hk S' => ?_) (fun i s' a' w' hk S' => ?_) (fun s' a' w' hk S' => ?_)
            · obtain ⟨y2, hy2, e⟩ := toInl_some hk; cases e
            · obtain ⟨y2, hy2, e⟩ := toInr_some hk
              injection e with e; subst e
              exact hx _ _ _ _ hy2 S'
            · obtain ⟨y2, hy2, e⟩ := toInr_some hk
              injection e with e; subst e
              exact hr _ _ _ hy2 S'
    | _ => simp [ev] at he
  | rangeFunc f ps as b => intro ann R s kn ke kr r Q a w he; simp [ev] at he
  | exit id =>
    intro ann R s kn ke kr r Q a w he S _ hx _
    exact wp_exit (hx _ _ _ _ (by simpa only [ev] using he) S)
  | scope body ih =>
    intro ann R s kn ke kr r Q a w he S hn hx hr
    exact wp_scope_straight (ih _ (by simpa only [ev] using he) S hn hx hr)
  | label l => intro ann R s kn ke kr r Q a w he; simp [ev] at he
  | goto l => intro ann R s kn ke kr r Q a w he; simp [ev] at he
  | ret =>
    intro ann R s kn ke kr r Q a w he S _ _ hr
    exact wp_ret (hr _ _ _ (by simpa only [ev] using he) S)
  | refuse why => intro ann R s kn ke kr r Q a w he; simp [ev] at he
end
end Go.CE
