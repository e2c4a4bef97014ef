/-
  A computed evaluator over the model's code, part P: function values that are made.
-/
import Derived.Test.YtlbfolepljpmbaaDoorCeO
namespace Go.CE
set_option linter.all false
set_option linter.unusedSectionVars false
open Go Go.RowKit
variable [Tab]
set_option linter.unusedVariables false
set_option linter.unusedSimpArgs false

section
variable {P : Program}

theorem Map.get_nil (k : Nat) : Map.get [] k = none := rfl
/-- Data and frozen pointers alone: no objects. -/
theorem unV_free {h hf : AHeap} {Own F M : Nat → Prop} {μ : Mu} {w : World} (H : HRel P Own F M μ hf w) {F' M' : Nat → Prop} {μ' : Mu} {h' : AHeap} {w' : World} (hext : Ext F w w') (hsub : ∀ b, F b → F' b) :
    ∀ {l : List SV} {as : List A1} {vs : List Value} {x : HV l}, unV h l as [] = some (x, [], []) → a1sRel P F M μ hf w as vs → a1sRel P F' M' μ' h' w' (packV l x) vs
  | [], [], _, _, _, r => r
  | [], _ :: _, _, _, e, _ => by simp [unV] at e
  | .d t :: l, as, vs, x, e, r => by
    cases as with
    | nil => simp [unV] at e
    | cons a as =>
      simp only [unV] at e
      split at e
      · cases e
      · rename_i x1 i hx
        split at e
        · cases e
        · rename_i y m' j hy
          injection e with e
          simp only [Prod.mk.injEq] at e
          obtain ⟨rfl, rfl, e⟩ := e
          obtain ⟨rfl, rfl⟩ := List.append_eq_nil_iff.1 e
          obtain ⟨v, rs, rfl, r1, r2⟩ := r
          obtain ⟨us, h1, rfl, _⟩ := a1To_rd H r1 hx (fun _ h => by cases h)
          refine ⟨_, rs, rfl, a1Of_rel (rd_mono h1 (F' := F') (w' := w') ?_ ?_), unV_free H hext hsub hy r2⟩
          · exact ⟨hext.1, fun b hb => hext.2 b (hb.elim id fun ⟨_, h, _⟩ => by cases h)⟩
          · exact fun b hb => hsub b (hb.elim id fun ⟨_, h, _⟩ => by cases h)
  | .p t :: l, as, vs, x, e, r => by
    cases as with
    | nil => simp [unV] at e
    | cons a as =>
      simp only [unV] at e
      split at e
      · cases e
      · rename_i x1 hx
        split at e
        · cases e
        · rename_i y m' j hy
          injection e with e
          simp only [Prod.mk.injEq] at e
          obtain ⟨rfl, rfl, rfl⟩ := e
          obtain ⟨v, rs, rfl, r1, r2⟩ := r
          refine ⟨_, rs, rfl, ?_, unV_free H hext hsub hy r2⟩
          unfold asRp at hx
          split at hx
          · rename_i t' z
            obtain ⟨rfl, rfl⟩ := castT_some hx
            obtain ⟨b, o, cs, h1, h2, h3, h4⟩ := r1
            exact ⟨b, o, cs, h1, hsub _ h2, rd_mono h3 hext hsub, h4.ext (hext.2 _ h2)⟩
          · cases hx
  | .r id :: l, as, vs, x, e, r => by
    exfalso
    cases as with
    | nil => simp [unV] at e
    | cons a as =>
      simp only [unV] at e
      split at e
      · cases e
      · split at e
        · cases e
        · rename_i m hm
          have := unV_get e _ _ (Map.add_get hm).1
          simp [Map.get] at this
  | .o t id :: l, as, vs, x, e, r => by
    exfalso
    cases as with
    | nil => simp [unV] at e
    | cons a as =>
      simp only [unV] at e
      split at e
      · cases e
      · split at e
        · cases e
        · rename_i m hm
          have := unV_get e _ _ (Map.add_get hm).1
          simp [Map.get] at this
  | .x :: l, as, vs, x, e, r => by
    cases as with
    | nil => simp [unV] at e
    | cons a as =>
      simp only [unV] at e
      obtain ⟨v, rs, rfl, r1, r2⟩ := r
      exact ⟨_, rs, rfl, trivial, unV_free H hext hsub e r2⟩
  | .g n :: l, as, vs, x, e, r => by
    simp only [unV] at e
    split at e
    · split at e
      · rename_i hc
        exact grp_rel (l := l) (x := x) hc.1 hc.2 r fun us ru => unV_free (l := l) H hext hsub e ru
      · cases e
    · cases e

/-- A function without objects, called with data. -/
theorem Sound.plainCall {f : FuncId} {sv : List SV} {r : Ty} {fn : (Shp.mk sv []).den → Option (Shp.mk [.d r] []).den} (hS : Sound P f ⟨⟨sv, []⟩, ⟨[.d r], []⟩, fn⟩) (hr : r.scal = true) (hra : r.agg = false)
    {w : World} {F : Nat → Prop} (hF : Closed F w) {xs : HV sv} {y : (Shp.mk [.d r] []).den} {vals : Array Value} (hy : fn (xs, ()) = some y)
    (hv : ∀ (M : Nat → Prop) (μ : Mu) (h : AHeap), a1sRel P F M μ h w (packV sv xs) vals.toList) :
    Calls P f vals w fun e w' => ∃ v, e = .returned v ∧ rd P r F w' y.1.1 [v] ∧ Below w.heap.size w w' := by
  refine (hS.2 w F (fun _ => none) (xs, ()) y vals hy (hv _ _ _) ⟨hF, fun id o h => by simp [packO, enumO] at h, fun id o h => by simp [packO, enumO] at h, fun id o b h => by simp [packO, enumO] at h, fun id id' o o' b h => by simp [packO, enumO] at h⟩).mono ?_
  rintro e w' ⟨v, F', μ', rfl, ht, _, _, _, _, _, _, hav⟩
  refine ⟨v, rfl, ?_, ⟨ht.1, ht.2.1, ht.2.2.1, ht.2.2.2.1, fun b hb => ht.2.2.2.2 b ?_⟩⟩
  · have h1 : a1Rel P F' _ μ' _ w' (a1Of r y.1.1) v := hav
    unfold a1Of at h1
    rw [hra] at h1
    exact rd_scal hr h1
  · rintro (h | ⟨id, h, _⟩)
    · omega
    · simp [Sig.io] at h

theorem mkClo_rel {f : FuncId} {sg : Sig} (hS : Sound P f sg) {Own F M : Nat → Prop} {μ : Mu} {hf h : AHeap} {w : World} (H : HRel P Own F M μ hf w) {np : Nat} {caps : List A1} {cap : Array Value} {a : AL} (hr : a1sRel P F M μ hf w caps cap.toList)
    (he : mkClo sg np h caps = some a) : alRel P F M μ hf w a (.func (.func f) #[] cap) := by
  unfold mkClo at he
  split at he
  · rename_i sv r fn
    split at he
    · rename_i hrr
      simp only [Bool.and_eq_true, Bool.not_eq_true'] at hrr
      split at he
      · rename_i a0 cs fn
        split at he
        · rename_i c hc
          injection he with he; subst he
          refine ⟨f, cap, rfl, hS.1, fun w' F' hext hsub hcl x vx y hx hy => ?_⟩
          obtain ⟨y', hy', rfl⟩ := Option.map_eq_some_iff.1 hy
          exact hS.plainCall hrr.1 hrr.2 hcl hy' fun M' μ' h' => by
            rw [Array.toList_append]
            exact ⟨_, _, rfl, a1Of_rel hx, unV_free H hext hsub hc hr⟩
        · cases he
      · rename_i a0 a1 cs fn
        split at he
        · rename_i c hc
          injection he with he; subst he
          refine ⟨f, cap, rfl, hS.1, fun w' F' hext hsub hcl x vx x2 vx2 y hx hx2 hy => ?_⟩
          obtain ⟨y', hy', rfl⟩ := Option.map_eq_some_iff.1 hy
          exact hS.plainCall hrr.1 hrr.2 hcl hy' fun M' μ' h' => by
            rw [Array.toList_append]
            exact ⟨_, _, rfl, a1Of_rel hx, _, _, rfl, a1Of_rel hx2, unV_free H hext hsub hc hr⟩
        · cases he
      · cases he
    · cases he
  · cases he
theorem L_makeFunc {o : Oper} {f : FuncId} {first caps : Array Operand} (ho : o.op = .makeFunc (.func f) first caps) (hfirst : first = #[]) {sg : Sig} (hS : Sound P f sg) {t : Tmps} {h : AHeap} {n np : Nat} {a : AL}
    (he : mkClo sg np h (caps.toList.map (opd t)) = some a) : LSem P o t h n (.v (.lf a)) [] [] := by
  refine LSem.val fun Own F M μ hf w ρ _ hops H => ⟨.func (.func f) #[] (caps.map ρ), by simp [execOp, ho, hfirst, Instr.makeFunc], ?_⟩
  have hr : a1sRel P F M μ hf w (caps.toList.map (opd t)) (caps.map ρ).toList := by
    rw [Array.toList_map]
    exact a1sRel_of_ops fun x hx => hops x (by simp [ho, Op.operands]; exact .inr (by simpa using hx))
  exact mkClo_rel hS H hr he
theorem opdC_rel {g : GTab} (hG : GOk P g) {Own F M : Nat → Prop} {μ : Mu} {hf h : AHeap} {w : World} (H : HRel P Own F M μ hf w) {t : Tmps} {ρ : Operand → Value} (hρ : ∀ f, ρ (.func f) = .func (.func f) #[] #[]) {x : Operand} (r : avRel P F M μ hf w (opdV t x) (ρ x)) :
    a1Rel P F M μ hf w (opdC g h t x) (ρ x) := by
  unfold opdC
  split
  · rename_i f
    split
    · rename_i sg hsg
      split
      · rename_i a ha
        rw [hρ]
        exact mkClo_rel (hG _ _ hsg) H (caps := []) (cap := #[]) (show a1sRel P F M μ hf w [] [] from rfl) ha
      · trivial
    · trivial
  · exact opd_rel r
theorem opdC_rels {g : GTab} (hG : GOk P g) {Own F M : Nat → Prop} {μ : Mu} {hf h : AHeap} {w : World} (H : HRel P Own F M μ hf w) {t : Tmps} {ρ : Operand → Value} (hρ : ∀ f, ρ (.func f) = .func (.func f) #[] #[]) : ∀ {l : List Operand}, (∀ x ∈ l, avRel P F M μ hf w (opdV t x) (ρ x)) →
    a1sRel P F M μ hf w (l.map (opdC g h t)) (l.map ρ)
  | [], _ => rfl
  | x :: l, r => ⟨_, _, rfl, opdC_rel hG H hρ (r x (by simp)), opdC_rels hG H hρ fun y hy => r y (by simp [hy])⟩

theorem L_call {o : Oper} {f : FuncId} {args : Array Operand} {tys : Array TypeId} (ho : o.op = .call ⟨.value (.func f), args, tys⟩) {sg : Sig} (hS : Sound P f sg) {g : GTab} (hG : GOk P g) {t : Tmps} {h : AHeap} {n : Nat} {R : Type} {k : K R} {r : R}
    (he : evCall sg h n (args.toList.map (opdC g h t)) k = some r) : ∃ av T c, k av T c = some r ∧ LSem P o t h n av T c := by
  unfold evCall at he
  split at he
  · cases he
  · rename_i xs m ds hu
    split at he
    · rename_i hc
      simp only [Bool.and_eq_true, List.all_eq_true, decide_eq_true_eq, Bool.or_eq_true, List.isEmpty_iff] at hc
      obtain ⟨⟨hsome, hflat⟩, hio⟩ := hc
      obtain ⟨ys, hy, he⟩ := Option.bind_eq_some_iff.1 he
      obtain ⟨he, hls⟩ := lenSame_ok he
      refine ⟨_, _, _, he, fun p hp => ?_, fun hn16 Own F M μ hf w ρ hρ hown hM hT hops H => ?_⟩
      · obtain ⟨j, hj, rfl⟩ := zip_mem hp
        rw [Nat.zero_add]
        by_cases h1 : j < sg.io
        · left
          have hk' : j < (packO sg.a.so xs.2).length := by rw [packO_len]; exact h1
          obtain ⟨a, g1, g2⟩ := unpack_like hu j _ (by rw [enumO_zero]; exact List.getElem?_eq_getElem hk')
          have := hsome _ (Map.get_mem g1)
          cases a with
          | none => cases this
          | some a =>
            have e : callMap m sg.io n j = a := by simp [callMap, h1, g1]
            simp only [e]
            exact List.mem_append_left _ (Map.ids_mem g1)
        · right
          simp [callMap, h1]
      · refine Does.enter (f := f) (args := args.map ρ) ?_ ?_
        · simp only [execOp, ho, resolve, Deferred.ofValue, hρ, invoke]
          simp [run_enter hS.1]
        · exact call_post hS H hown hM (vals := args.map ρ) (by
            rw [Array.toList_map]
            exact opdC_rels hG H hρ fun x hx => hops x (by simp [ho, Op.operands, Call.operands]; exact .inr (by simpa using hx))) hu hT hsome hflat hio hy hls hn16
    · cases he


/-! ### Memory of ours that is data from now on -/
theorem kill_some {h : AHeap} {ids : List Nat} {id : Nat} {o : AObj} (e : (h.puts (killAll ids)) id = some o) : id ∉ ids ∧ h id = some o := by
  induction ids generalizing h with
  | nil => exact ⟨List.not_mem_nil, e⟩
  | cons i is ih =>
    have e : ((h.put i none).puts (killAll is)) id = some o := e
    obtain ⟨h1, h2⟩ := ih e
    have hne : id ≠ i := fun he => by subst he; rw [AHeap.put_same] at h2; cases h2
    rw [AHeap.put_ne _ _ hne] at h2
    exact ⟨by simp [hne, h1], h2⟩
theorem kill_none {h : AHeap} {ids : List Nat} {id : Nat} (e : id ∈ ids) : (h.puts (killAll ids)) id = none := by
  cases hk : (h.puts (killAll ids)) id with
  | none => rfl
  | some o => exact absurd e (kill_some hk).1
theorem kill_out {h : AHeap} {ids : List Nat} {id : Nat} (e : id ∉ ids) : (h.puts (killAll ids)) id = h id := by
  induction ids generalizing h with
  | nil => rfl
  | cons i is ih =>
    simp only [List.mem_cons, not_or] at e
    show ((h.put i none).puts (killAll is)) id = h id
    rw [ih e.2, AHeap.put_ne _ _ e.1]
theorem puts_append (h : AHeap) (a b : Chg) : h.puts (a ++ b) = (h.puts a).puts b := by
  induction a generalizing h with
  | nil => rfl
  | cons p a ih => obtain ⟨i, o⟩ := p; exact ih (h.put i o)

theorem freeze_later {Own F M : Nat → Prop} {μ : Mu} {hf : AHeap} {w : World} (ids : List Nat) : Later F (plus F μ ids) M M μ μ hf (hf.puts (killAll ids)) w w :=
  ⟨Ext.refl _ _, plus_sub, fun _ h => h, fun id o' _ ho => ⟨o', (kill_some ho).2, o'.alike_refl, rfl⟩, fun _ _ h => h⟩
theorem HRel.freeze {Own F M : Nat → Prop} {μ : Mu} {hf : AHeap} {w : World} (H : HRel P Own F M μ hf w) {ids : List Nat} (hl : ∀ id ∈ ids, ∃ o, hf id = some o) : HRel P Own (plus F μ ids) M μ (hf.puts (killAll ids)) w := by
  have hcl : Closed (plus F μ ids) w := H.closed.plus' plus_sub fun b hb => by
    rcases hb with hb | ⟨id, hid, hb⟩
    · exact H.closed.1 b hb
    · obtain ⟨o, ho⟩ := hl id hid; exact (H.own id o b ho hb).1
  refine H.step (fun _ => False) (freeze_later (Own := Own) ids) hcl (fun b hb => ?_) (Nat.le_refl _) (fun id o _ ho => (kill_some ho).2) (fun _ _ _ _ _ _ => rfl) (fun _ _ h => h.elim)
  rcases hb with hb | ⟨id, hid, hb⟩
  · exact .inl hb
  · obtain ⟨o, ho⟩ := hl id hid; exact .inr (.inr ⟨id, o, ho, kill_none hid, hb⟩)

theorem frzL_rel {Own F M : Nat → Prop} {μ : Mu} {hf h : AHeap} {w : World} (H : HRel P Own F M μ hf w) {ids : List Nat} (hT : ∀ id ∈ ids, hf id = h id) {a : AL} {v : Value} (r : alRel P F M μ hf w a v) :
    alRel P (plus F μ ids) M μ (hf.puts (killAll ids)) w (frzL h ids a) v := by
  have other := alRel_later (freeze_later (Own := Own) ids) r
  cases a with
  | sl t id =>
    simp only [frzL]
    split
    · rename_i hc
      have hid : id ∈ ids := by simpa using hc
      split
      · rename_i e t' l hl
        split
        · rename_i ht; subst ht
          have hl' : leafTo h (.sl t) (.sl t id) = some (l, [id]) := by simp [leafTo, hl, castT]
          have := leafTo_rd (P := P) H r hl' (fun i hi => by simp at hi; subst hi; exact hT _ hid)
          refine rd_mono (P := P) (t := .sl t) this (Ext.refl _ _) fun b hb => hb.imp (fun h => h) fun ⟨k, hk, hb⟩ => ⟨k, by simp at hk; subst hk; exact hid, hb⟩
        · trivial
      · trivial
    · exact other
  | vw t id i j =>
    simp only [frzL]
    split
    · rename_i hc
      have hid : id ∈ ids := by simpa using hc
      split
      · rename_i e t' l hl
        split
        · rename_i ht; subst ht
          have hl' : leafTo h (.sl t) (.vw t id i j) = some (cutL l i j, [id]) := by simp [leafTo, hl, castT]
          have := leafTo_rd (P := P) H r hl' (fun i hi => by simp at hi; subst hi; exact hT _ hid)
          refine rd_mono (P := P) (t := .sl t) this (Ext.refl _ _) fun b hb => hb.imp (fun h => h) fun ⟨k, hk, hb⟩ => ⟨k, by simp at hk; subst hk; exact hid, hb⟩
        · trivial
      · trivial
    · exact other
  | _ => exact other
theorem frzLs_rel {Own F M : Nat → Prop} {μ : Mu} {hf h : AHeap} {w : World} (H : HRel P Own F M μ hf w) {ids : List Nat} (hT : ∀ id ∈ ids, hf id = h id) : ∀ {l : List AL} {vs : List Value}, alsRel P F M μ hf w l vs →
    alsRel P (plus F μ ids) M μ (hf.puts (killAll ids)) w (l.map (frzL h ids)) vs
  | [], _, r => r
  | _ :: _, _, ⟨v, r, e, h1, h2⟩ => ⟨v, r, e, frzL_rel H hT h1, frzLs_rel H hT h2⟩
theorem frzA_rel {Own F M : Nat → Prop} {μ : Mu} {hf h : AHeap} {w : World} (H : HRel P Own F M μ hf w) {ids : List Nat} (hT : ∀ id ∈ ids, hf id = h id) : ∀ {a : A1} {v : Value}, a1Rel P F M μ hf w a v →
    a1Rel P (plus F μ ids) M μ (hf.puts (killAll ids)) w (frzA h ids a) v
  | .lf _, _, r => frzL_rel H hT r
  | .ag _, _, ⟨cs, e, r⟩ => ⟨cs, e, frzLs_rel H hT r⟩
theorem frzAs_rel {Own F M : Nat → Prop} {μ : Mu} {hf h : AHeap} {w : World} (H : HRel P Own F M μ hf w) {ids : List Nat} (hT : ∀ id ∈ ids, hf id = h id) : ∀ {l : List A1} {vs : List Value}, a1sRel P F M μ hf w l vs →
    a1sRel P (plus F μ ids) M μ (hf.puts (killAll ids)) w (l.map (frzA h ids)) vs
  | [], _, r => r
  | _ :: _, _, ⟨v, r, e, h1, h2⟩ => ⟨v, r, e, frzA_rel H hT h1, frzAs_rel H hT h2⟩
theorem frzV_rel {Own F M : Nat → Prop} {μ : Mu} {hf h : AHeap} {w : World} (H : HRel P Own F M μ hf w) {ids : List Nat} (hT : ∀ id ∈ ids, hf id = h id) : ∀ {a : AV} {v : Value}, avRel P F M μ hf w a v →
    avRel P (plus F μ ids) M μ (hf.puts (killAll ids)) w (frzV h ids a) v
  | .v _, _, r => frzA_rel H hT r
  | .tp _, _, ⟨vs, e, r⟩ => ⟨vs, e, frzAs_rel H hT r⟩

/-- First some slices become data, then the operation. -/
theorem LSem.frz {o : Oper} {t : Tmps} {h : AHeap} {n : Nat} {ids : List Nat} {av : AV} {T : List Nat} {c : Chg} (hl : ∀ id ∈ ids, ∃ ob, h id = some ob) (hL : LSem P o (fun d => frzV h ids (t d)) (h.puts (killAll ids)) n av T c) :
    LSem P o t h n av (ids ++ T) (killAll ids ++ c) := by
  refine ⟨fun p hp => ?_, fun hn Own F M μ hf w ρ hρ hown hM hT hops H => ?_⟩
  · rcases List.mem_append.1 hp with hp | hp
    · obtain ⟨id, hid, rfl⟩ := List.mem_map.1 hp
      exact .inl (List.mem_append_left _ hid)
    · exact (hL.1 p hp).imp (List.mem_append_right _) id
  · have hT1 : ∀ id ∈ ids, hf id = h id := fun id hid => hT id (List.mem_append_left _ hid)
    have hl' : ∀ id ∈ ids, ∃ ob, hf id = some ob := fun id hid => by rw [hT1 id hid]; exact hl id hid
    refine (hL.2 (fun p hp => hn p (List.mem_append_right _ hp)) Own (plus F μ ids) M μ (hf.puts (killAll ids)) w ρ hρ hown hM (fun id hid => ?_) (fun x hx => ?_) (H.freeze hl')).mono ?_
    · by_cases hi : id ∈ ids
      · rw [kill_none hi, kill_none hi]
      · rw [kill_out hi, kill_out hi]; exact hT id (List.mem_append_right _ hid)
    · cases x with
      | tmp d => exact frzV_rel H hT1 (hops _ hx)
      | const v => exact avRel_later (freeze_later (Own := Own) ids) (hops _ hx)
      | global g => trivial
      | func f => trivial
    · rintro v w' ⟨F', μ', p⟩
      refine ⟨F', μ', fun b hb => ?_, p.mu, p.touch, ⟨⟨p.later.ext.1, fun b hb => p.later.ext.2 b (plus_sub b hb)⟩, fun b hb => p.later.sub b (plus_sub b hb), p.later.mem, fun id o' hm ho => ?_, p.later.cap⟩, ?_, ?_⟩
      · rcases p.fresh b hb with (hb | ⟨id, hid, hb⟩) | hb | ⟨id, ob, h1, h2, h3⟩
        · exact .inl hb
        · obtain ⟨ob, hob⟩ := hl' id hid
          exact .inr (.inr ⟨id, ob, List.mem_append_left _ (List.mem_map.2 ⟨id, hid, rfl⟩), hob, hb⟩)
        · exact .inr (.inl hb)
        · exact .inr (.inr ⟨id, ob, List.mem_append_right _ h1, (kill_some h2).2, h3⟩)
      · rw [puts_append] at ho
        obtain ⟨ob, h1, h2, h3⟩ := p.later.live id o' hm ho
        exact ⟨ob, (kill_some h1).2, h2, h3⟩
      · rw [puts_append]; exact p.hrel
      · rw [puts_append]; exact p.av

/-! ### Slices that are made -/
theorem zrd_rd {F : Nat → Prop} {w : World} : ∀ {t : Ty} {vs : List Value}, zrd t vs = true → rd P t F w t.dflt vs
  | .pr x y, vs, h => by
    simp only [zrd, Bool.and_eq_true] at h
    exact ⟨_, _, (List.take_append_drop x.sz vs).symm, zrd_rd h.1, zrd_rd h.2⟩
  | .one t, vs, h => zrd_rd (t := t) (by simpa only [zrd] using h)
  | .i k, vs, h => by
    simp only [zrd] at h
    split at h
    · simp only [Bool.and_eq_true, decide_eq_true_eq] at h
      obtain ⟨rfl, rfl⟩ := h; rfl
    · cases h
  | .b, vs, h => by
    simp only [zrd] at h
    split at h
    · rfl
    · cases h
  | .s, vs, h => by
    simp only [zrd] at h
    split at h
    · rename_i s
      obtain ⟨d⟩ := s
      have : d = #[] := by simpa using h
      subst this; rfl
    · cases h
  | .e, vs, h => by
    simp only [zrd] at h
    split at h
    · exact .inl ⟨rfl, rfl⟩
    · cases h
  | .sl t, vs, h => by
    simp only [zrd] at h
    split at h
    · exact ⟨none, 0, rfl, Nat.le_refl _, .inl rfl⟩
    · cases h
  | .f1 _ _, vs, h => by simp [zrd] at h
  | .f2 _ _ _, vs, h => by simp [zrd] at h

theorem rdAll_replicate {A : Type} {R : A → List Value → Prop} {x : A} {zs : List Value} (hz : R x zs) : ∀ n, RdAll R (List.replicate n x) (List.replicate n zs).flatten
  | 0 => rfl
  | n + 1 => ⟨zs, _, by simp [List.replicate_succ], hz, rdAll_replicate hz n⟩
theorem madeCells_take {z : Array Value} {l n : Nat} (h : l ≤ n) : (madeCells z (n * z.size)).toList.take (l * z.size) = (List.replicate l z.toList).flatten := by
  have hlen : ∀ l, ((List.replicate l z.toList).flatten).length = l * z.size := fun l => by
    induction l with
    | zero => simp
    | succ l ih => simp [List.replicate_succ, Nat.add_mul, Nat.add_comm]
  have hget : ∀ l i, i < l * z.size → ((List.replicate l z.toList).flatten)[i]? = z.toList[i % z.size]? := by
    intro l
    induction l with
    | zero => intro i hi; simp at hi
    | succ l ih =>
      intro i hi
      simp only [List.replicate_succ, List.flatten_cons]
      by_cases hlt : i < z.size
      · rw [List.getElem?_append_left (by simpa using hlt), Nat.mod_eq_of_lt hlt]
      · rw [List.getElem?_append_right (by simpa using hlt)]
        have h1 : i - z.size < l * z.size := by rw [Nat.add_mul, Nat.one_mul] at hi; omega
        have := ih (i - z.size) h1
        rw [show i - z.toList.length = i - z.size by simp, this, Nat.mod_eq_sub_mod (by omega : i ≥ z.size)]
  apply List.ext_getElem?
  intro i
  by_cases hi : i < l * z.size
  · have hzs : 0 < z.size := by
      rcases Nat.eq_zero_or_pos z.size with h0 | h0
      · rw [h0] at hi; omega
      · exact h0
    have hn : l * z.size ≤ n * z.size := Nat.mul_le_mul_right _ h
    have hm : i % z.size < z.size := Nat.mod_lt _ hzs
    rw [List.getElem?_take_of_lt hi, hget l i hi]
    simp [madeCells, show i < n * z.size by omega, hm]
  · rw [List.getElem?_eq_none (by rw [List.length_take]; omega), List.getElem?_eq_none (by rw [hlen]; omega)]

theorem L_makeSlice {o : Oper} {ty : TypeId} {x y : Operand} (ho : o.op = .makeSlice ty x y) {ti te : TI} {el : TypeId} (hti : TEnt P ty ti) (hu : ti.u = .slice el) (hte : TEnt P el te) {et : Ty} (hsz : te.sz = et.sz) (hz : zrd et te.zero.cells.toList = true) (hby : te.bytes ≤ 256)
    {t : Tmps} {h : AHeap} {n : Nat} {kx ky : IntKind} {l c : Int} (hx : opd t x = .lf (.dat (.i kx) l)) (hy : opd t y = .lf (.dat (.i ky) c)) (hok : okMake l c = true) :
    LSem P o t h n (.v (.lf (.sl et n))) [] [(n, some (.arr el et (zeros et l)))] := by
  refine ⟨fun p hp => by simp at hp; subst hp; exact .inr (Nat.le_refl _), fun _ Own F M μ hf w ρ hρ hown hM hT hops H => ?_⟩
  have h1 := opd_rel (hops x (by simp [ho, Op.operands])); rw [hx] at h1
  have h2 := opd_rel (hops y (by simp [ho, Op.operands])); rw [hy] at h2
  have h1 : ρ x = .int kx l := by have h1 : [ρ x] = [Value.int kx l] := h1; injection h1
  have h2 : ρ y = .int ky c := by have h2 : [ρ y] = [Value.int ky c] := h2; injection h2
  have hok' : 0 ≤ l ∧ l ≤ c ∧ c ≤ 2 ^ 38 := of_decide_eq_true hok
  obtain ⟨i, hi1, hi2, hi3, hi4⟩ := hte.info
  have hut : P.underlying ty = some (.slice el) := by rw [hti.u, hu]
  have hrun := run_make w ty el i te.zero hut hi1 hi4 kx ky l c hok'.1 hok'.2.1 (by
    have e1 : (i.bytes : Int) ≤ 256 := by omega
    have e2 : (0 : Int) ≤ i.bytes := by omega
    have : (i.bytes : Int) * c ≤ 256 * 2 ^ 38 := Int.mul_le_mul e1 hok'.2.2 (by omega) (by omega)
    omega) (by omega)
  have hcs : te.zero.cells.size = i.size := hte.zsz.trans hi2.symm
  rw [← hcs] at hrun
  refine Does.value (v := .slice (some ⟨w.heap.size, 0, none⟩) l.toNat c.toNat) (w' := w.alloc (.cells (madeCells te.zero.cells (c.toNat * te.zero.cells.size)) el)) ?_ ?_
  · simp only [execOp, ho, h1, h2]
    exact run_v hrun
  · have hb : (w.alloc (.cells (madeCells te.zero.cells (c.toNat * te.zero.cells.size)) el)).heap[w.heap.size]? = some (.cells (madeCells te.zero.cells (c.toNat * te.zero.cells.size)) el (0, 0)) := heap_alloc_new w _
    have hsz2 : te.zero.cells.size = et.sz := hte.zsz.trans hsz
    refine Post.made (b := w.heap.size) H hown hM ?_ (Nat.le_refl _) ?_ (fun μ' hn _ _ => ?_) (fun μ' hn _ _ => ?_)
    · exact (Below.refl _ _).alloc (Nat.le_refl _) _
    · simp
    · refine .inr ⟨w.heap.size, _, _, hn, hb, rdAll_replicate (zrd_rd hz) l.toNat, ?_⟩
      rw [List.length_replicate, ← hsz2, madeCells_take (by omega)]
    · refine ⟨.inr ⟨Nat.le_refl _, by omega⟩, rfl, fun e2 l2 hl2 => .inr ⟨w.heap.size, c.toNat, hn, ?_, ?_, ?_, ?_⟩⟩
      · rw [AHeap.put_same] at hl2; injection hl2 with hl2; injection hl2 with _ _ hl2
        rw [← hl2]; simp
      · rw [AHeap.put_same] at hl2; injection hl2 with hl2; injection hl2 with _ _ hl2
        rw [← hl2]; simp; omega
      · have : c.toNat ≤ 2 ^ 38 := by omega
        simp only [maxLen]; omega
      · exact ⟨_, _, hb, by rw [size_madeCells, hsz2]⟩
end
end Go.CE
