/-
  A computed evaluator over the model's code, part W: functions.
-/
import Derived.Test.YtlbfolepljpmbaaDoorCeV
namespace Go.CE
set_option linter.all false
set_option linter.unusedSectionVars false
open Go Go.RowKit
variable [Tab]
set_option linter.unusedVariables false
set_option linter.unusedSimpArgs false

theorem ioMap_get : ∀ {n k : Nat}, k < n → (ioMap n).get k = some (some k) := by
  have app : ∀ (m : Map) (a k : Nat) (v : Option (Option Nat)), m.get k = v → v.isSome = true → Map.get (m ++ [(a, some a)]) k = v := by
    intro m
    induction m with
    | nil => intro a k v h hv; simp [Map.get] at h; subst h; cases hv
    | cons p m ih =>
      intro a k v h hv
      obtain ⟨x, y⟩ := p
      simp only [List.cons_append, Map.get] at h ⊢
      split
      · rename_i e; rw [if_pos e] at h; exact h
      · rename_i e; rw [if_neg e] at h; exact ih a k v h hv
  have new : ∀ (m : Map) (a : Nat), (∀ p ∈ m, p.1 ≠ a) → Map.get (m ++ [(a, some a)]) a = some (some a) := by
    intro m
    induction m with
    | nil => intro a _; simp [Map.get]
    | cons p m ih =>
      intro a h
      obtain ⟨x, y⟩ := p
      simp only [List.cons_append, Map.get]
      rw [if_neg (h (x, y) (by simp)), ih a fun p hp => h p (by simp [hp])]
  have keys : ∀ n, ∀ p ∈ ioMap n, p.1 < n := by
    intro n
    induction n with
    | zero => intro p hp; cases hp
    | succ n ih =>
      intro p hp
      simp only [ioMap, List.mem_append, List.mem_singleton] at hp
      rcases hp with hp | rfl
      · have := ih p hp; omega
      · simp
  intro n
  induction n with
  | zero => intro k h; omega
  | succ n ih =>
    intro k h
    simp only [ioMap]
    by_cases e : k = n
    · subst e; exact new _ _ fun p hp => by have := keys _ p hp; omega
    · exact app _ _ _ _ (ih (by omega)) rfl

section
variable {P : Program}

def packRes : List Value → Value
  | [v] => v
  | l => .tuple l.toArray
def resOf (tmps : Array Value) : ResultVar → Sem Value
  | .tmp t => pure (tmps.getD t undef)
  | .cell a t => do loadVar t (← asAddr (tmps.getD a undef))
theorem run_results {fn : Func} {tmps : Array Value} {w : World} {vs : List Value} (k2 : (fn.results.toList.mapM (resOf tmps)).run P w = .ok vs w) : (results fn tmps).run P w = .ok (packRes vs) w := by
  have e : (results fn tmps) = (do
      let l ← fn.results.toList.mapM (resOf tmps)
      pure (if h : l.toArray.size = 1 then l.toArray[0] else .tuple l.toArray)) := by
    unfold results
    rw [Array.mapM_eq_mapM_toList]
    simp only [map_eq_pure_bind, bind_assoc, pure_bind]
    rfl
  rw [e, Sem.run_bind, k2, Result.andThen_ok, Sem.run_pure]
  congr 1
  match vs with
  | [] => rfl
  | [v] => rfl
  | a :: b :: l => simp [packRes]

theorem resA1_sound {c : Cfg} (hT : TOk P c.tt) {R : Type} {s : St} {r : R} {Own F M : Nat → Prop} {μ : Mu} {w : World} {tmps : Array Value} (H : HRel P Own F M μ s.h w) (ht : ∀ d, avRel P F M μ s.h w (s.t d) (tmps.getD d undef)) :
    ∀ {l : List ResultVar} {k : List A1 → Option R}, resA1 c s l k = some r → ∃ as vs, k as = some r ∧ a1sRel P F M μ s.h w as vs ∧ (l.mapM (resOf tmps)).run P w = .ok vs w
  | [], k, h => ⟨[], [], h, rfl, rfl⟩
  | .tmp d :: l, k, h => by
    obtain ⟨as, vs, h1, h2, h3⟩ := resA1_sound hT H ht (l := l) (by simpa only [resA1] using h)
    have hd := slots_rel (f := fun d => tmps.getD d undef) ht [d]
    obtain ⟨v, rs, e, h4, h5⟩ := hd
    simp only [List.map_cons, List.map_nil, List.cons.injEq] at e
    obtain ⟨rfl, rfl⟩ := e
    exact ⟨_, _, h1, ⟨_, vs, rfl, h4, h2⟩, by simp only [List.mapM_cons, Sem.run_bind, Sem.run_pure, Result.andThen_ok, h3, resOf]⟩
  | .cell a t :: l, k, h => by
    simp only [resA1] at h
    split at h
    · rename_i ti id off hti hsl
      split at h
      · rename_i cl hcl
        split at h
        · rename_i v hv
          obtain ⟨as, vs, h1, h2, h3⟩ := resA1_sound hT H ht (l := l) h
          have hd := slots_rel (f := fun d => tmps.getD d undef) ht [a]
          obtain ⟨va, rs, e, h4, h5⟩ := hd
          simp only [List.map_cons, List.map_nil, List.cons.injEq] at e
          obtain ⟨rfl, rfl⟩ := e
          rw [hsl] at h4
          obtain ⟨v', T', e', hrun⟩ := evLoad_sound (hT _ _ hti) (h := s.h) (a := .lf (.ref id off)) (k := fun v T => some (v, T)) (r := (v, [id])) (by simp [evLoad, hcl, hv])
          injection e' with e'; injection e' with e1 e2; subst e1 e2
          obtain ⟨val, g1, g2⟩ := hrun Own F M μ s.h w _ (fun _ _ => rfl) H h4
          obtain ⟨_, _, g3⟩ := h4
          obtain ⟨b, _, hp⟩ := g3 _ hcl
          refine ⟨_, _, h1, ⟨val, vs, rfl, g2, h2⟩, ?_⟩
          have g4 : (resOf tmps (.cell a t)).run P w = .ok val w := by
            simp only [resOf, hp, asAddr, pure_bind]
            rw [hp] at g1
            simpa only [Instr.loadAt, Instr.sureAddr, pure_bind] using g1
          simp only [List.mapM_cons, Sem.run_bind, Sem.run_pure, Result.andThen_ok, h3, g4]
        · cases h
      · cases h
    · cases h

theorem resAV_rel {F M : Nat → Prop} {μ : Mu} {h : AHeap} {w : World} {l : List A1} {vs : List Value} (r : a1sRel P F M μ h w l vs) : avRel P F M μ h w (resAV l) (packRes vs) := by
  match l, vs, r with
  | [], vs, r => cases r; exact ⟨#[], rfl, rfl⟩
  | [a], vs, r => obtain ⟨v, r', rfl, h1, h2⟩ := r; cases h2; exact h1
  | a :: b :: l, vs, r =>
    obtain ⟨v, r', rfl, h1, v2, r2, rfl, h2, h3⟩ := r
    exact ⟨(v :: v2 :: r2).toArray, rfl, v, _, rfl, h1, v2, r2, rfl, h2, h3⟩

theorem startT_rel {F M : Nat → Prop} {μ : Mu} {h : AHeap} {w : World} : ∀ {as : List A1} {vs : List Value}, a1sRel P F M μ h w as vs → ∀ (n d : Nat), avRel P F M μ h w (startT as d) ((vs.toArray ++ Array.replicate n undef).getD d undef) := by
  have get : ∀ {as : List A1} {vs : List Value}, a1sRel P F M μ h w as vs → ∀ (d : Nat) (a : A1), as[d]? = some a → ∃ v, vs[d]? = some v ∧ a1Rel P F M μ h w a v := by
    intro as
    induction as with
    | nil => intro vs _ d a h; simp at h
    | cons x as ih =>
      intro vs r d a hd
      obtain ⟨v, rs, rfl, h1, h2⟩ := r
      cases d with
      | zero => simp at hd; subst hd; exact ⟨v, rfl, h1⟩
      | succ d => exact ih h2 d a (by simpa using hd)
  intro as vs r n d
  unfold startT
  split
  · rename_i a ha
    obtain ⟨v, hv, h1⟩ := get r d a ha
    have hl : d < vs.length := (List.getElem?_eq_some_iff.1 hv).1
    have : (vs.toArray ++ Array.replicate n undef).getD d undef = v := by
      rw [Array.getD_eq_getD_getElem?, Array.getElem?_append_left (by simpa using hl)]
      simp [hv]
    rw [this]; exact h1
  · trivial

/-- A function's contract from what the evaluator says of it. -/
theorem sound_of {c : Cfg} (hT : TOk P c.tt) (hG : GOk P c.g) (hm : P.follows .mixedOrders = true) {f : FuncId} {fn : Func} {code : Code} (hf : P.funcs[f]? = some fn) (hb : fn.body = some code) (hname : (fn.name == "runtime.NumGoroutine") = false) {ann : Ann} {a r : Shp} {g : a.den → Option r.den}
    (hg : ∀ x y, g x = some y → evFn c fn ann a r x = some y) : Sound P f ⟨a, r, g⟩ := by
  refine ⟨⟨fn, code, hf, hb, hname⟩, fun w F μ xs ys vals hy hr H => ?_⟩
  have he := hg xs ys hy
  unfold evFn at he
  rw [hb] at he
  simp only at he
  split at he
  · rename_i hlen
    refine calls_of_wp hf hb ?_
    let G : Gh := ⟨w, F, μ, a.so.length⟩
    have hsz : vals.size ≤ fn.ntmps := by
      have h1 := a1sRel_len hr
      have h3 : vals.size = (packV a.sv xs.1).length := by simpa using h1
      omega
    have S : SR P G fn.ntmps (startT (packV a.sv xs.1)) (enumO 0 (packO a.so xs.2)) (fun id => id < a.so.length) { tmps := vals ++ Array.replicate (fn.ntmps - vals.size) undef, defers := [] } w := by
      refine ⟨F, μ, by simp; omega, rfl, fun d => ?_, H, TouchO.refl _ _, fun _ h => h, fun _ h => .inl h, fun _ _ h => h, fun id h => ⟨h, rfl⟩, fun id h => ⟨_, by rw [enumO_zero]; exact List.getElem?_eq_getElem (by rw [packO_len]; exact h)⟩⟩
      have := startT_rel hr (fn.ntmps - vals.size) d
      simpa using this
    have fin : ∀ (s' : St) (a' : Act) (w' : World), (resA1 { c with nt := fn.ntmps, io := a.so.length } s' fn.results.toList fun l => (unpack r s'.h l (ioMap a.so.length)).map fun p => p.1) = some ys → SR P G fn.ntmps s'.t s'.h (fun id => id < s'.n) a' w' →
        a'.defers = [] ∧ ∃ v, (results fn a'.tmps).run P w' = .ok v w' ∧ (∃ v2 F' μ', Ending.returned v = .returned v2 ∧ TouchO (fun b => w.heap.size ≤ b ∨ ∃ id, id < a.so.length ∧ μ id = some b) w w' ∧ (∀ b, F b → F' b) ∧ (∀ b, F' b → F b ∨ w.heap.size ≤ b) ∧
          (∀ b m, CapOk w b m → CapOk w' b m) ∧ (∀ id, id < a.so.length → μ' id = μ id) ∧ (∀ id b, a.so.length ≤ id → id < r.so.length → μ' id = some b → w.heap.size ≤ b) ∧
          HRel P (fun _ => True) F' (fun id => id < r.so.length) μ' (enumO 0 (packO r.so ys.2)) w' ∧ avRel P F' (fun id => id < r.so.length) μ' (enumO 0 (packO r.so ys.2)) w' (resAV (packV r.sv ys.1)) v2) := by
      intro s' a' w' hres S'
      obtain ⟨F2, μ2, S'⟩ := S'
      obtain ⟨as, vs, hun, hvs, hrun⟩ := resA1_sound (c := { c with nt := fn.ntmps, io := a.so.length }) hT S'.hrel S'.tmp hres
      obtain ⟨⟨y, m, fr⟩, hup, rfl⟩ := Option.map_eq_some_iff.1 hun
      obtain ⟨r1, r2⟩ := unpack_rel S'.hrel hup (fun _ _ => rfl) hvs
      obtain ⟨m1, i, j, e1, e2, hij, hnd, hdis, hlt⟩ := unpack_parts hup
      have hsame : ∀ k, k < a.so.length → m.get k = some (some k) := fun k hk => unO_get e2 _ _ (unV_get e1 _ _ (ioMap_get hk))
      have hlive : ∀ k a', m.get k = some (some a') → ∃ o, s'.h a' = some o := fun k a' hk => by
        have hkl := hlt _ (Map.get_mem hk)
        have hkl : k < (packO r.so y.2).length := by rw [packO_len]; exact hkl
        obtain ⟨a2, g1, g2⟩ := unpack_like hup k _ (by rw [enumO_zero]; exact List.getElem?_eq_getElem hkl)
        rw [hk] at g1; injection g1 with g1; subst g1
        obtain ⟨o', ho', _⟩ := g2
        exact ⟨o', ho'⟩
      have hio : ∀ k id o b, k < a.so.length → μ k = some b → s'.h id = some o → μ2 id = some b → id = k := fun k id o b hk hb ho hb2 => by
        obtain ⟨o', ho'⟩ := hlive k k (hsame k hk)
        exact S'.hrel.inj id k o o' b ho ho' hb2 (((S'.io k hk).2).trans hb)
      refine ⟨S'.defers, packRes vs, run_results hrun, _, plus F2 μ2 fr, mapMu m μ2, rfl, S'.touch, fun b hb => plus_sub b (S'.fsub b hb), ?_, S'.cap, ?_, ?_, ?_, resAV_rel r1⟩
      · rintro b (hb | ⟨id, hid, hb⟩)
        · exact S'.ffr b hb
        · obtain ⟨o, ho⟩ : ∃ o, s'.h id = some o := by
            rw [hij] at hid
            rcases List.mem_append.1 hid with hid | hid
            · exact unV_live e1 id hid
            · exact unO_live e2 id hid
          rcases (S'.hrel.own id o b ho hb).2.1 with h | ⟨k, hk, hkb⟩
          · exact .inr h
          · exfalso
            have := hio k id o b hk hkb ho hb
            subst this
            exact hdis _ (Map.ids_mem (hsame _ hk)) hid
      · intro id hid
        simp only [mapMu, hsame id hid]
        exact (S'.io id hid).2
      · intro id b hid hid2 hb
        simp only [mapMu] at hb
        split at hb
        · rename_i a2 ha2
          obtain ⟨o, ho⟩ := hlive id a2 ha2
          rcases (S'.hrel.own a2 o b ho hb).2.1 with h | ⟨k, hk, hkb⟩
          · exact h
          · exfalso
            have := hio k a2 o b hk hkb ho hb
            subst this
            have := Map.inj hnd (Map.get_mem ha2) (Map.get_mem (hsame _ hk))
            have hk' : a2 < a.so.length := hk
            omega
        · cases hb
      · exact ⟨r2.closed, r2.mem, r2.obj, fun id o b h1 h2 => ⟨(r2.own id o b h1 h2).1, trivial, (r2.own id o b h1 h2).2.2⟩, r2.inj⟩
    refine ev_sound (G := G) (c := { c with nt := fn.ntmps, io := a.so.length }) hT hG hm rfl code ann he S (fun s' a' w' h1 S' => fin s' a' w' h1 S') (fun i s' a' w' h1 S' => by cases h1) (fun s' a' w' h1 S' => fin s' a' w' h1 S')
  · cases he
end
end Go.CE
