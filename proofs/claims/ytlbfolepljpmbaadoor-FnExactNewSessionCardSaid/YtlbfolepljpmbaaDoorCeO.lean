/-
  A computed evaluator over the model's code, part O: a call of a function that is described, of a function value; function values.
-/
import Derived.Test.YtlbfolepljpmbaaDoorCeN
namespace Go.CE
set_option linter.all false
set_option linter.unusedSectionVars false
open Go Go.RowKit
variable [Tab]
set_option linter.unusedVariables false
set_option linter.unusedSimpArgs false

section
variable {P : Program}

theorem run_enter {f : FuncId} (hE : Enters P f) (args : Array Value) (w : World) : (callFunc f args).run P w = .ok (.enter f args) w := by
  obtain ⟨fn, c, h1, h2, h3⟩ := hE
  unfold callFunc
  simp [h1, h2]
  simpa using h3
theorem Does.enter {ρ : Operand → Value} {o : Oper} {w : World} {f : FuncId} {args : Array Value} {R : Value → World → Prop} (h : (execOp ρ o).run P w = .ok (.enter f args) w)
    (hc : Calls P f args w fun e w' => ∃ v, e = .returned v ∧ R v w') : Does P ρ o w R := by
  unfold Does; rw [h]; exact hc
theorem a1sRel_of_ops {F M : Nat → Prop} {μ : Mu} {hf : AHeap} {w : World} {t : Tmps} {ρ : Operand → Value} : ∀ {l : List Operand}, (∀ x ∈ l, avRel P F M μ hf w (opdV t x) (ρ x)) → a1sRel P F M μ hf w (l.map (opd t)) (l.map ρ)
  | [], _ => rfl
  | x :: l, h => ⟨ρ x, _, rfl, opd_rel (h x (by simp)), a1sRel_of_ops fun y hy => h y (by simp [hy])⟩

theorem call_post {sg : Sig} {f : FuncId} (hS : Sound P f sg) {Own F M : Nat → Prop} {μ : Mu} {hf h : AHeap} {w : World} {n : Nat} (H : HRel P Own F M μ hf w) (hown : ∀ b, w.heap.size ≤ b → Own b) (hM : ∀ id, n ≤ id → id < n + 16 → ¬ M id)
    {as : List A1} {vals : Array Value} (r : a1sRel P F M μ hf w as vals.toList) {xs : sg.a.den} {m : Map} {ds : List Nat} (hu : unpack sg.a h as [] = some (xs, m, ds)) (hT : ∀ id ∈ m.ids ++ ds, hf id = h id)
    (hsome : ∀ p ∈ m, p.2.isSome = true) (hflat : sg.r.flat = true ∨ ds = []) (hio : sg.io ≤ sg.r.so.length) {ys : sg.r.den} (hy : sg.fn xs = some ys)
    (hls : ∀ p ∈ (zipIds 0 (callMap m sg.io n) (packO sg.r.so ys.2)).take sg.io, ∃ o o', p.2 = some o' ∧ h p.1 = some o ∧ o.alike o') (hn16 : ∀ p ∈ zipIds 0 (callMap m sg.io n) (packO sg.r.so ys.2), p.1 < n + 16) :
    Calls P f vals w fun e w' => ∃ v, e = .returned v ∧ ∃ F' μ', Post P Own F M μ hf w n (zipIds 0 (callMap m sg.io n) (packO sg.r.so ys.2)) (resAV ((packV sg.r.sv ys.1).map (renA (callMap m sg.io n)))) v w' F' μ' := by
  have hlike := unpack_like hu
  have hparts := unpack_parts hu
  obtain ⟨_, _, _, _, _, _, hnod, hdis, hkeys⟩ := hparts
  obtain ⟨r0, H0⟩ := unpack_rel H hu hT r
  -- the objects that are handed over
  have hin : ∀ k, k < sg.io → ∃ a o, m.get k = some (some a) ∧ hf a = some o ∧ M a ∧ mapMu m μ k = μ a ∧ callMap m sg.io n k = a := fun k hk => by
    have hk' : k < (packO sg.a.so xs.2).length := by rw [packO_len]; exact hk
    obtain ⟨a, g1, g2⟩ := hlike k _ (by rw [enumO_zero]; exact List.getElem?_eq_getElem hk')
    have := hsome _ (Map.get_mem g1)
    cases a with
    | none => cases this
    | some a =>
      obtain ⟨o, g3, _⟩ := g2
      have g4 := (hT a (List.mem_append_left _ (Map.ids_mem g1))).trans g3
      exact ⟨a, o, g1, g4, H.mem a o g4, by simp [mapMu, g1], by simp [callMap, hk, g1]⟩
  have hout : ∀ k, ¬ k < sg.io → callMap m sg.io n k = n + (k - sg.io) := fun k hk => by simp [callMap, hk]
  have hOwn0 : ∀ b, (w.heap.size ≤ b ∨ ∃ id, id < sg.io ∧ mapMu m μ id = some b) → Own b := fun b hb => by
    rcases hb with hb | ⟨k, hk, hb⟩
    · exact hown b hb
    · obtain ⟨a, o, _, g2, _, g4, _⟩ := hin k hk
      rw [g4] at hb; exact (H.own a o b g2 hb).2.1
  have H0' : HRel P (fun b => w.heap.size ≤ b ∨ ∃ id, id < sg.io ∧ mapMu m μ id = some b) (plus F μ ds) (fun id => id < sg.a.so.length) (mapMu m μ) (enumO 0 (packO sg.a.so xs.2)) w :=
    ⟨H0.closed, H0.mem, H0.obj, fun k o b ho hb => by
      obtain ⟨q1, q2, q3⟩ := H0.own k o b ho hb
      exact ⟨q1, .inr ⟨k, H0.mem k o ho, hb⟩, q3⟩, H0.inj⟩
  refine (hS.2 w (plus F μ ds) (mapMu m μ) xs ys vals hy r0 H0').mono ?_
  rintro e w' ⟨v, F1, μ1, rfl, htouch, hsub, hfresh, hcap, hmu, hnew, H1, hav⟩
  refine ⟨v, rfl, ?_⟩
  -- names
  let objs := packO sg.r.so ys.2
  have hobjs : objs.length = sg.r.so.length := packO_len
  let ρ := callMap m sg.io n
  have hρin : ∀ k, k < sg.io → ρ k = callMap m sg.io n k := fun _ _ => rfl
  have hnotM : ∀ k, ¬ k < sg.io → k < objs.length → ¬ M (ρ k) := fun k hk hlt => by
    have : ρ k < n + 16 := hn16 (ρ (0 + k), _) (by
      have hmem : ∀ {objs : List AObj} {k0 j : Nat} (hj : j < objs.length), (ρ (k0 + j), some (renO ρ objs[j])) ∈ zipIds k0 ρ objs := fun {objs k0 j} hj => by
        have := zip_take (ρ := ρ) (k := k0) (n := objs.length) hj hj
        exact List.mem_of_mem_take this
      exact hmem hlt) |> fun h => by simpa using h
    exact hM _ (by show n ≤ callMap m sg.io n k; rw [hout k hk]; omega) this
  have hinj : ∀ i j, i < objs.length → j < objs.length → ρ (0 + i) = ρ (0 + j) → i = j := by
    intro i j hi hj e
    rw [Nat.zero_add, Nat.zero_add] at e
    by_cases h1 : i < sg.io <;> by_cases h2 : j < sg.io
    · obtain ⟨a, _, g1, _, _, _, g5⟩ := hin i h1
      obtain ⟨a', _, g1', _, _, _, g5'⟩ := hin j h2
      have : a = a' := by rw [← g5, ← g5']; exact e
      subst this
      exact Map.inj hnod (Map.get_mem g1) (Map.get_mem g1')
    · obtain ⟨a, _, _, _, g3, _, g5⟩ := hin i h1
      exact (hnotM j h2 hj (by rw [← e]; show M (callMap m sg.io n i); rw [g5]; exact g3)).elim
    · obtain ⟨a, _, _, _, g3, _, g5⟩ := hin j h2
      exact (hnotM i h1 hi (by rw [e]; show M (callMap m sg.io n j); rw [g5]; exact g3)).elim
    · have e1 := hout i h1; have e2 := hout j h2
      have : n + (i - sg.io) = n + (j - sg.io) := by rw [← e1, ← e2]; exact e
      omega
  let F' : Nat → Prop := fun b => F b ∨ (F1 b ∧ w.heap.size ≤ b)
  let μ' : Mu := fun id => open Classical in if M id then μ id else μ1 (sg.io + (id - n))
  have hμM : ∀ id, M id → μ' id = μ id := fun id hi => if_pos hi
  have hμρ : ∀ k, k < objs.length → μ' (ρ k) = μ1 k := fun k hk => by
    by_cases h1 : k < sg.io
    · obtain ⟨a, _, _, _, g3, g4, g5⟩ := hin k h1
      show μ' (callMap m sg.io n k) = _
      rw [g5, hμM a g3, hmu k h1, g4]
    · have h2 := hnotM k h1 hk
      show (open Classical in if M (ρ k) then μ (ρ k) else μ1 (sg.io + (ρ k - n))) = _
      rw [if_neg h2]
      have : ρ k = n + (k - sg.io) := hout k h1
      rw [this]; congr 1; omega
  have hputin : ∀ k (hk : k < objs.length), (hf.puts (zipIds 0 ρ objs)) (ρ k) = some (renO ρ objs[k]) := fun k hk => by
    have := puts_zip_in (ρ := ρ) (objs := objs) (k := 0) (hf := hf) hinj k hk
    rwa [Nat.zero_add] at this
  have hputout : ∀ id, (∀ k, k < objs.length → id ≠ ρ k) → (hf.puts (zipIds 0 ρ objs)) id = hf id := fun id hid => puts_zip_out fun j hj => by rw [Nat.zero_add]; exact hid j hj
  have hFsub : ∀ b, F b → F' b := fun _ h => .inl h
  have hblk : ∀ b, b < w.heap.size → (∀ k, k < sg.io → mapMu m μ k ≠ some b) → w'.heap[b]? = w.heap[b]? := fun b hb hne =>
    htouch.2.2.2.2 b fun h => by rcases h with h | ⟨k, hk, hb'⟩; omega; exact hne k hk hb'
  have hext : Ext F w w' := ⟨htouch.2.2.2.1, fun b hb => hblk b (H.closed.1 b hb) fun k hk e => by
    obtain ⟨a, o, _, g2, _, g4, _⟩ := hin k hk
    rw [g4] at e; exact (H.own a o b g2 e).2.2 hb⟩
  have hlater : Later F F' M (more M n) μ μ' hf (hf.puts (zipIds 0 ρ objs)) w w' := by
    refine ⟨hext, hFsub, more_sub, fun id o' hi ho => ?_, hcap⟩
    by_cases hex : ∃ k, k < objs.length ∧ id = ρ k
    · obtain ⟨k, hk, rfl⟩ := hex
      have h1 : k < sg.io := Decidable.byContradiction fun h1 => hnotM k h1 hk hi
      have hmem := zip_take (ρ := ρ) (k := 0) (n := sg.io) hk h1
      rw [Nat.zero_add] at hmem
      obtain ⟨o, o2, e1, e2, e3⟩ := hls _ hmem
      injection e1 with e1
      obtain ⟨a, _, g1, g2, g3, _, g5⟩ := hin k h1
      have e4 : hf (ρ k) = h (ρ k) := by
        have : ρ k = a := g5
        rw [this]; exact hT a (List.mem_append_left _ (Map.ids_mem g1))
      rw [hputin k hk] at ho; injection ho with ho
      refine ⟨o, e4.trans e2, ?_, hμM _ hi⟩
      rw [← ho, e1]; exact e3
    · rw [hputout id fun k hk e => hex ⟨k, hk, e⟩] at ho
      exact ⟨o', ho, o'.alike_refl, hμM id hi⟩
  have hren : Ren ρ F1 F' (fun id => id < sg.r.so.length) (more M n) μ1 μ' (enumO 0 objs) (hf.puts (zipIds 0 ρ objs)) sg.r.flat := by
    refine ⟨fun hfl b hb => ?_, fun k hk => ?_⟩
    · have hds : ds = [] := hflat.resolve_left (by rw [hfl]; simp)
      rcases hfresh b hb with h1 | h1
      · rcases h1 with h1 | ⟨id, hid, _⟩
        · exact .inl h1
        · rw [hds] at hid; cases hid
      · exact .inr ⟨hb, h1⟩
    · have hk' : k < objs.length := by rw [hobjs]; exact hk
      refine ⟨?_, hμρ k hk', fun o' ho' => ?_⟩
      · by_cases h1 : k < sg.io
        · obtain ⟨a, _, _, _, g3, _, g5⟩ := hin k h1
          exact .inl (by show M (callMap m sg.io n k); rw [g5]; exact g3)
        · have h2 := hn16 (ρ k, some (renO ρ objs[k])) (by
            have := List.mem_of_mem_take (zip_take (ρ := ρ) (k := 0) (n := objs.length) hk' hk')
            rwa [Nat.zero_add] at this)
          refine .inr ⟨?_, h2⟩
          show n ≤ callMap m sg.io n k
          rw [hout k h1]; omega
      · rw [hputin k hk'] at ho'
        injection ho' with ho'
        exact ⟨objs[k], by rw [enumO_zero]; exact List.getElem?_eq_getElem hk', ho'.symm⟩
  have hfl1 : sg.r.flat = true → sg.r.sv.all flatSV = true := fun h => by simp only [Shp.flat, Bool.and_eq_true] at h; exact h.1
  have hfl2 : sg.r.flat = true → sg.r.so.all flatSO = true := fun h => by simp only [Shp.flat, Bool.and_eq_true] at h; exact h.2
  refine ⟨F', μ', fun b hb => hb.imp (fun h => h) fun h => .inl h.2, hμM, ⟨htouch.1, htouch.2.1, htouch.2.2.1, htouch.2.2.2.1, fun b hb => ?_⟩, hlater, ?_, ren_res hren (packV_ok hfl1) hav⟩
  · exact htouch.2.2.2.2 b fun h => hb (hOwn0 b h)
  refine H.step (fun id => ∃ k, k < objs.length ∧ id = ρ k) hlater ?_ (fun b hb => hb.imp (fun h => h) fun h => .inl h.2) htouch.2.2.2.1 (fun id o hd ho => ?_) (fun id o b hd ho hb => ?_) (fun id o hd ho => ?_)
  · refine H.closed.next hext hFsub fun b hb => ?_
    rcases hb with hb | ⟨hb, _⟩
    · exact Nat.lt_of_lt_of_le (H.closed.1 b hb) htouch.2.2.2.1
    · exact H1.closed.1 b hb
  · rwa [hputout id fun k hk e => hd ⟨k, hk, e⟩] at ho
  · rw [hputout id fun k hk e => hd ⟨k, hk, e⟩] at ho
    refine hblk b (H.own id o b ho hb).1 fun k hk e => ?_
    obtain ⟨a, oa, _, g2, _, g4, g5⟩ := hin k hk
    rw [g4] at e
    have := H.inj id a o oa b ho g2 hb e
    refine hd ⟨k, by rw [hobjs]; omega, ?_⟩
    rw [this]; exact g5.symm
  · obtain ⟨k, hk, rfl⟩ := hd
    rw [hputin k hk] at ho; injection ho with ho; subst ho
    have hk1 : enumO 0 objs k = some objs[k] := by rw [enumO_zero]; exact List.getElem?_eq_getElem hk
    refine ⟨(hren.ids k (by rw [← hobjs]; exact hk)).1, ren_obj hren (by rw [← hobjs]; exact hk) (packO_ok hfl2 k _ (List.getElem?_eq_getElem hk)) (H1.obj k _ hk1), fun b hb => ?_⟩
    rw [hμρ k hk] at hb
    obtain ⟨q1, _, q3⟩ := H1.own k _ b hk1 hb
    refine ⟨q1, ?_, ?_, fun id2 o2 h2 hb2 => ?_⟩
    · by_cases h1 : k < sg.io
      · exact hOwn0 b (.inr ⟨k, h1, by rw [← hmu k h1]; exact hb⟩)
      · exact hown b (hnew k b (by omega) (by rw [← hobjs]; exact hk) hb)
    · rintro (hF | ⟨hF, _⟩)
      · exact q3 (hsub b (.inl hF))
      · exact q3 hF
    · by_cases hex : ∃ k2, k2 < objs.length ∧ id2 = ρ k2
      · obtain ⟨k2, hk2, rfl⟩ := hex
        rw [hμρ k2 hk2] at hb2
        have hk21 : enumO 0 objs k2 = some objs[k2] := by rw [enumO_zero]; exact List.getElem?_eq_getElem hk2
        rw [H1.inj k2 k _ _ b hk21 hk1 hb2 hb]
      · exfalso
        rw [hputout id2 fun k hk e => hex ⟨k, hk, e⟩] at h2
        rw [hμM id2 (H.mem id2 o2 h2)] at hb2
        by_cases h1 : k < sg.io
        · obtain ⟨a, oa, _, g2, _, g4, g5⟩ := hin k h1
          rw [hmu k h1, g4] at hb
          have := H.inj id2 a o2 oa b h2 g2 hb2 hb
          exact hex ⟨k, hk, by rw [this]; exact g5.symm⟩
        · have g1 := hnew k b (by omega) (by rw [← hobjs]; exact hk) hb
          have g2 := (H.own id2 o2 b h2 hb2).1
          omega

theorem L_clo1 {o : Oper} {fv x : Operand} {tys : Array TypeId} (ho : o.op = .call ⟨.value fv, #[x], tys⟩) {a r : Ty} {g : (Ty.f1 a r).den} {t : Tmps} {h : AHeap} {n : Nat} (hg : opd t fv = .lf (.dat (.f1 a r) g)) (hr : r.scal = true) (hra : r.agg = false) {xv : a.den} {ids : List Nat}
    (hx : a1To h a (opd t x) = some (xv, ids)) {y : r.den} (hy : g xv = some y) : LSem P o t h n (.v (.lf (.dat r y))) ids [] :=
  ⟨fun p hp => (List.not_mem_nil hp).elim, fun _ Own F M μ hf w ρ hρ hown hM hT hops H => by
    have h1 := opd_rel (hops fv (by simp [ho, Op.operands, Call.operands])); rw [hg] at h1
    have h1 : rd P (.f1 a r) F w g [ρ fv] := h1
    obtain ⟨f, cap, e, hE, hcall⟩ := h1
    injection e with e _
    have h2 := opd_rel (hops x (by simp [ho, Op.operands, Call.operands]))
    obtain ⟨vs, hrd, hvx, _⟩ := a1To_rd H h2 hx hT
    have hlive : Closed (plus F μ ids) w := H.closed.plus' plus_sub fun b hb => by
      rcases hb with hb | ⟨id, hid, hb⟩
      · exact H.closed.1 b hb
      · obtain ⟨ob, hob⟩ := a1To_live hx id hid
        exact (H.own id ob b ((hT id hid).trans hob) hb).1
    refine Does.enter (f := f) (args := #[asVal a vs] ++ cap) ?_ ((hcall w (plus F μ ids) (Ext.refl _ _) plus_sub hlive xv vs y hrd hy).mono ?_)
    · simp only [execOp, ho, resolve, Deferred.ofValue, e, invoke]
      simp [run_enter hE, hvx]
    · rintro e w' ⟨v, rfl, hv, hb⟩
      refine ⟨v, rfl, F, μ, Post.still H hown hb (fun _ h => h) (fun _ h => .inl h) (H.closed.next (Ext.of_below H.closed hb) (fun _ h => h) fun b hF => Nat.lt_of_lt_of_le (H.closed.1 b hF) hb.size) ?_⟩
      exact rd_scal hr hv⟩
theorem L_clo2 {o : Oper} {fv x x2 : Operand} {tys : Array TypeId} (ho : o.op = .call ⟨.value fv, #[x, x2], tys⟩) {a a2 r : Ty} {g : (Ty.f2 a a2 r).den} {t : Tmps} {h : AHeap} {n : Nat} (hg : opd t fv = .lf (.dat (.f2 a a2 r) g)) (hr : r.scal = true) (hra : r.agg = false)
    {xv : a.den} {xv2 : a2.den} {ids ids2 : List Nat} (hx : a1To h a (opd t x) = some (xv, ids)) (hx2 : a1To h a2 (opd t x2) = some (xv2, ids2)) {y : r.den} (hy : g xv xv2 = some y) : LSem P o t h n (.v (.lf (.dat r y))) (ids ++ ids2) [] :=
  ⟨fun p hp => (List.not_mem_nil hp).elim, fun _ Own F M μ hf w ρ hρ hown hM hT hops H => by
    have h1 := opd_rel (hops fv (by simp [ho, Op.operands, Call.operands])); rw [hg] at h1
    have h1 : rd P (.f2 a a2 r) F w g [ρ fv] := h1
    obtain ⟨f, cap, e, hE, hcall⟩ := h1
    injection e with e _
    have h2 := opd_rel (hops x (by simp [ho, Op.operands, Call.operands]))
    have h3 := opd_rel (hops x2 (by simp [ho, Op.operands, Call.operands]))
    obtain ⟨vs, hrd, hvx, _⟩ := a1To_rd H h2 hx (fun id hi => hT id (List.mem_append_left _ hi))
    obtain ⟨vs2, hrd2, hvx2, _⟩ := a1To_rd H h3 hx2 (fun id hi => hT id (List.mem_append_right _ hi))
    have hlive : Closed (plus F μ (ids ++ ids2)) w := H.closed.plus' plus_sub fun b hb => by
      rcases hb with hb | ⟨id, hid, hb⟩
      · exact H.closed.1 b hb
      · have : ∃ ob, h id = some ob := by
          rcases List.mem_append.1 hid with hid | hid
          · exact a1To_live hx id hid
          · exact a1To_live hx2 id hid
        obtain ⟨ob, hob⟩ := this
        exact (H.own id ob b ((hT id hid).trans hob) hb).1
    refine Does.enter (f := f) (args := #[asVal a vs, asVal a2 vs2] ++ cap) ?_ ((hcall w (plus F μ (ids ++ ids2)) (Ext.refl _ _) plus_sub hlive xv vs xv2 vs2 y (rd_mono hrd (Ext.refl _ _) plus_app.1) (rd_mono hrd2 (Ext.refl _ _) plus_app.2) hy).mono ?_)
    · simp only [execOp, ho, resolve, Deferred.ofValue, e, invoke]
      simp [run_enter hE, hvx, hvx2]
    · rintro e w' ⟨v, rfl, hv, hb⟩
      refine ⟨v, rfl, F, μ, Post.still H hown hb (fun _ h => h) (fun _ h => .inl h) (H.closed.next (Ext.of_below H.closed hb) (fun _ h => h) fun b hF => Nat.lt_of_lt_of_le (H.closed.1 b hF) hb.size) ?_⟩
      exact rd_scal hr hv⟩
end
end Go.CE
