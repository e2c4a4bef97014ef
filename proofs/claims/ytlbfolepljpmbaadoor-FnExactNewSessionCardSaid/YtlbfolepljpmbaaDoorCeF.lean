/-
  A computed evaluator over the model's code, part F: loads and stores.
-/
import Derived.Test.YtlbfolepljpmbaaDoorCeE
namespace Go.CE
set_option linter.all false
set_option linter.unusedSectionVars false
open Go Go.RowKit
variable [Tab]
set_option linter.unusedVariables false
set_option linter.unusedSimpArgs false

section
variable {P : Program} {Own F M : Nat → Prop} {μ : Mu} {hf : AHeap} {w : World}

theorem run_isAggU {t : TypeId} {ti : TI} (hti : TEnt P t ti) (w : World) : (isAgg t).run P w = .ok (isAggU ti.u) w := by
  unfold isAgg
  rw [Sem.run_bind, run_underlying hti.u, Result.andThen_ok]
  cases ti.u <;> rfl
theorem run_sizeOfT {t : TypeId} {ti : TI} (hti : TEnt P t ti) (w : World) : (sizeOf t).run P w = .ok ti.sz w := by
  obtain ⟨i, h1, h2, _⟩ := hti.info
  simp [sizeOf, typeInfo, h1, h2]
theorem run_zeroT {t : TypeId} {ti : TI} (hti : TEnt P t ti) (w : World) : (zeroValue t).run P w = .ok ti.zero w := by
  obtain ⟨i, h1, _, _, h2⟩ := hti.info
  simp [zeroValue, typeInfo, h1, h2]
theorem run_loadAt_cells {t : TypeId} {ti : TI} (hti : TEnt P t ti) {b o : Nat} {cs : List Value} (hc : cellsAt w b o cs) (hl : cs.length = ti.sz) :
    (Instr.loadAt t (.pointer (some ⟨b, o, none⟩))).run P w = .ok (if isAggU ti.u then .agg cs.toArray else cs.headD undef) w := by
  have hc' : ∀ j v, cs[j]? = some v → w.cell? ((⟨b, o, none⟩ : Addr).add j) = some v := fun j v hj => by
    obtain ⟨hj1, hj2⟩ := List.getElem?_eq_some_iff.1 hj
    rw [add_lit, hc j hj1, hj2]
  unfold Instr.loadAt
  simp only [Instr.sureAddr, Sem.run_bind, Sem.run_pure, Result.andThen_ok, loadVar, run_isAggU hti, Sem.run_ite]
  cases hA : isAggU ti.u
  · have h1 := hti.leaf hA
    rw [h1] at hl
    obtain ⟨v, rfl⟩ := List.length_eq_one_iff.1 hl
    have h2 := hc' 0 v rfl
    rw [add_lit, Nat.add_zero] at h2
    simp [h2]
  · have h2 := run_loadCells_list (P := P) w ⟨b, o, none⟩ cs hc'
    rw [hl] at h2
    simp [run_sizeOfT hti, h2]
theorem part_load {t : TypeId} {ti : TI} (hti : TEnt P t ti) {b o off : Nat} {cs : List Value} {l : List AL} {v : A1} (hr : alsRel P F M μ hf w l cs) (hc : cellsAt w b o cs) (hp : partOf ti l off = some v) :
    ∃ val, (Instr.loadAt t (.pointer (some ⟨b, o + off, none⟩))).run P w = .ok val w ∧ a1Rel P F M μ hf w v val := by
  have hlen := alsRel_len hr
  unfold partOf at hp
  have hc2 : cellsAt w b (o + off) ((cs.drop off).take ti.sz) := cellsAt_take (cellsAt_drop hc)
  split at hp
  · rename_i hA
    split at hp
    · rename_i hle
      injection hp with hp; subst hp
      have := run_loadAt_cells hti hc2 (by rw [List.length_take, List.length_drop]; omega)
      rw [if_pos hA] at this
      exact ⟨_, this, ⟨_, rfl, by simpa using alsRel_take ti.sz (alsRel_drop off hr)⟩⟩
    · cases hp
  · rename_i hA
    simp only [Option.map_eq_some_iff] at hp
    obtain ⟨a, ha, rfl⟩ := hp
    have hlt : off < l.length := (List.getElem?_eq_some_iff.1 ha).1
    have h1 := hti.leaf (by simpa using hA)
    have := run_loadAt_cells hti hc2 (by rw [List.length_take, List.length_drop]; omega)
    rw [if_neg hA] at this
    obtain ⟨v, hv, hr'⟩ := alsRel_get hr off a ha
    refine ⟨_, this, ?_⟩
    have e : (List.take ti.sz (List.drop off cs)).headD undef = v := by
      rw [h1]
      have hd : (List.drop off cs)[0]? = some v := by simpa using hv
      cases hcs : List.drop off cs with
      | nil => rw [hcs] at hd; cases hd
      | cons y ys => rw [hcs] at hd; simp at hd; simp [hd]
    rw [e]; exact hr'
theorem getD_lt {t : Ty} {l : List t.den} {i : Nat} (hi : i < l.length) : l.getD i t.dflt = l[i] := by simp [List.getD, List.getElem?_eq_getElem hi]

theorem evLoad_sound {R : Type} {t : TypeId} {ti : TI} (hti : TEnt P t ti) {h : AHeap} {a : A1} {k : A1 → List Nat → Option R} {r : R} (he : evLoad ti h a k = some r) :
    ∃ v T, k v T = some r ∧ ∀ (Own F M : Nat → Prop) (μ : Mu) (hf : AHeap) (w : World) (va : Value), (∀ id ∈ T, hf id = h id) → HRel P Own F M μ hf w → a1Rel P F M μ hf w a va →
      ∃ val, (Instr.loadAt t va).run P w = .ok val w ∧ a1Rel P F M μ hf w v val := by
  unfold evLoad at he
  split at he
  · rename_i id off
    split at he
    · rename_i l hid
      split at he
      · rename_i v hp
        refine ⟨v, [id], he, fun Own F M μ hf w va hT H ra => ?_⟩
        have hid' := (hT id (by simp)).trans hid
        obtain ⟨b, hb, rfl⟩ := ra.2.2 _ hid'
        obtain ⟨b', vs, e, h1, h2, h3⟩ := H.obj id _ hid'
        rw [hb] at h1; injection h1 with h1; subst h1
        have := part_load hti h3 (cellsAt_row h2) hp
        rwa [Nat.zero_add] at this
      · cases he
    · cases he
  · rename_i t' x off
    split at he
    · rename_i v hp
      refine ⟨v, [], he, fun Own F M μ hf w va hT H ra => ?_⟩
      obtain ⟨b, o, cs, rfl, h2, h3, h4⟩ := ra
      exact part_load hti (leavesOf_rel h3) h4 hp
    · cases he
  · rename_i t' id idx off
    split at he
    · rename_i e t2 l hid
      split at he
      · rename_i e1; subst e1
        split at he
        · rename_i v hp
          refine ⟨v, [id], he, fun Own F M μ hf w va hT H ra => ?_⟩
          have hid' := (hT id (by simp)).trans hid
          obtain ⟨hlt, b, hb, rfl⟩ := ra.2.2 _ _ hid'
          rcases H.obj id _ hid' with ⟨h1, h2⟩ | ⟨b', cur, cs, h1, h2, h3, h4⟩
          · rw [hb] at h1; cases h1
          · rw [hb] at h1; injection h1 with h1; subst h1
            simp only [getN] at hp; rw [getD_lt hlt] at hp
            have h5 := h3.get (fun _ _ r => rd_len r) idx hlt
            have h6 : cellsAt w b (idx * t'.sz) ((cs.drop (idx * t'.sz)).take t'.sz) := by
              subst h4
              exact cellsAt_take (cellsAt_congr (cellsAt_drop (cellsAt_take (cellsAt_row h2))) (Nat.zero_add _))
            exact part_load hti (leavesOf_rel h5) h6 hp
        · cases he
      · cases he
    · cases he
  · cases he

theorem al_one {a : AL} {v : Value} (hk : a.known = true) (r : alRel P F M μ hf w a v) : v.oneCell' = true := by
  cases a with
  | unk => cases hk
  | dat t x => exact rd_one r v (by simp)
  | nils => simp only [alRel] at r; subst r; rfl
  | ref _ _ => exact r.2.1
  | sl _ _ => exact r.2.1
  | elt _ _ _ _ => exact r.2.1
  | vw _ _ _ _ => exact r.2.1
  | rp _ _ _ => obtain ⟨_, _, _, rfl, _⟩ := r; rfl
  | anyb => obtain ⟨_, rfl⟩ := r; rfl
theorem als_one : ∀ {l : List AL} {vs : List Value}, l.all AL.known = true → alsRel P F M μ hf w l vs → ∀ v ∈ vs, v.oneCell' = true
  | [], _, _, r, v, hv => by cases r; cases hv
  | a :: l, _, hk, ⟨u, r, e, h1, h2⟩, v, hv => by
    subst e
    simp only [List.all_cons, Bool.and_eq_true] at hk
    rcases List.mem_cons.1 hv with rfl | hv
    · exact al_one hk.1 h1
    · exact als_one hk.2 h2 v hv
theorem cells_one {v : Value} (h : v.oneCell' = true) : v.cells.toList = [v] := by cases v <;> first | rfl | simp [Value.oneCell'] at h
/-- The cells of a value that is known. -/
theorem leaves_rel {a : A1} {v : Value} (hk : a.leaves.all AL.known = true) (r : a1Rel P F M μ hf w a v) : alsRel P F M μ hf w a.leaves v.cells.toList ∧ ∀ u ∈ v.cells.toList, u.oneCell' = true := by
  have h1 : alsRel P F M μ hf w a.leaves v.cells.toList := by
    cases a with
    | lf a =>
      simp only [A1.leaves, List.all_cons, List.all_nil, Bool.and_true] at hk
      rw [cells_one (al_one hk r)]
      exact ⟨v, [], rfl, r, rfl⟩
    | ag l => obtain ⟨cs, rfl, r⟩ := r; exact r
  exact ⟨h1, als_one hk h1⟩
theorem run_storeAt_cells {t : TypeId} {ti : TI} (hti : TEnt P t ti) {b o : Nat} {cur : Array Value} {e : TypeId} {v : Value} (hb : w.heap[b]? = some (.cells cur e (0, 0)))
    (hl : v.cells.toList.length = ti.sz) (hle : o + ti.sz ≤ cur.size) (h1 : ∀ u ∈ v.cells.toList, u.oneCell' = true) :
    (Instr.storeAt t (.pointer (some ⟨b, o, none⟩)) v).run P w = .ok () (w.setRow b (cur.toList.take o ++ v.cells.toList ++ cur.toList.drop (o + v.cells.toList.length)).toArray) := by
  have h2 := run_storeCells_at P b o e v.cells.toList 0 cur w hb (by omega) h1
  simp only [Nat.add_zero] at h2
  have h3 : v.cells.size = ti.sz := by simpa using hl
  unfold Instr.storeAt
  simp only [Instr.sureAddr, Sem.run_bind, Sem.run_pure, Result.andThen_ok, storeVar, run_sizeOfT hti, h3, ne_eq, not_true, if_false]
  exact h2

/-- One object is written, in its own block, and stays alike. -/
theorem Post.upd {n id b : Nat} {o o' : AObj} {cur cur' : Array Value} {e : TypeId} {av : AV} {v : Value} (H : HRel P Own F M μ hf w) (ho : hf id = some o) (hal : o.alike o') (hm : μ id = some b)
    (hb : w.heap[b]? = some (.cells cur e (0, 0))) (hsz : cur'.size = cur.size)
    (hob : Later F F M (more M n) μ μ hf (hf.put id (some o')) w (w.setRow b cur') → objRel P F (more M n) μ (hf.put id (some o')) (w.setRow b cur') id o')
    (hav : Later F F M (more M n) μ μ hf (hf.put id (some o')) w (w.setRow b cur') → avRel P F (more M n) μ (hf.put id (some o')) (w.setRow b cur') av v) :
    Post P Own F M μ hf w n [(id, some o')] av v (w.setRow b cur') F μ := by
  obtain ⟨hbs, hbo, hbF⟩ := H.own id o b ho hm
  have hne : ∀ k, k ≠ b → (w.setRow b cur').heap[k]? = w.heap[k]? := fun k hk => setRow_other w b k cur' hk
  have hszw : (w.setRow b cur').heap.size = w.heap.size := by simp [World.setRow]
  have hL : Later F F M (more M n) μ μ hf (hf.put id (some o')) w (w.setRow b cur') := by
    refine ⟨⟨by omega, fun k hk => hne k fun e => hbF (e ▸ hk)⟩, fun _ h => h, more_sub, fun k ok hk hko => ?_, fun k m hc => ?_⟩
    · by_cases hki : k = id
      · subst hki
        rw [AHeap.put_same] at hko; injection hko with hko; subst hko
        exact ⟨o, ho, hal, rfl⟩
      · rw [AHeap.put_ne hf _ hki] at hko
        exact ⟨ok, hko, ok.alike_refl, rfl⟩
    · by_cases hkb : k = b
      · subst hkb
        obtain ⟨vs, e2, h1, h2⟩ := hc
        rw [hb] at h1; injection h1 with h1; injection h1 with e3 e4 _; subst e3 e4
        exact ⟨cur', e, setRow_heap w k cur cur' e _ hb, hsz.trans h2⟩
      · exact CapOk.of_eq (hne k hkb) hc
  refine ⟨fun _ h => .inl h, fun _ _ => rfl, ⟨rfl, rfl, rfl, by omega, fun k hk => hne k fun e => hk (e ▸ hbo)⟩, hL, ?_, hav hL⟩
  refine H.step (fun k => k = id) hL (H.closed.next hL.ext (fun _ h => h) fun k hk => by have := H.closed.1 k hk; omega) (fun _ h => .inl h) (by omega) (fun k ok hd hko => ?_) (fun k ok b' hd hko hmk => ?_) (fun k ok hd hko => ?_)
  · simpa [AHeap.puts, AHeap.put_ne _ _ hd] using hko
  · have hko' : hf k = some ok := by simpa [AHeap.puts, AHeap.put_ne _ _ hd] using hko
    exact hne b' fun e => hd (H.inj k id ok o b hko' ho (e ▸ hmk) hm)
  · subst hd
    have hko' : some o' = some ok := by simpa [AHeap.puts, AHeap.put_same] using hko
    injection hko' with hko'; subst hko'
    refine ⟨.inl (H.mem _ _ ho), hob hL, fun b' hm' => ?_⟩
    rw [hm] at hm'; injection hm' with hm'; subst hm'
    refine ⟨by omega, hbo, hbF, fun id2 o2 h2 hm2 => ?_⟩
    by_cases e2 : id2 = k
    · exact e2
    · have h2' : hf id2 = some o2 := by simpa [AHeap.puts, AHeap.put_ne _ _ e2] using h2
      exact H.inj id2 k o2 o b h2' ho hm2 hm

theorem evStore_sound {R : Type} {t : TypeId} {ti : TI} (hti : TEnt P t ti) {h : AHeap} {a v : A1} {k : K R} {r : R} (he : evStore ti h a v k = some r) :
    ∃ T c, k (.v (.lf .unk)) T c = some r ∧ (∀ p ∈ c, p.1 ∈ T) ∧ ∀ (Own F M : Nat → Prop) (μ : Mu) (hf : AHeap) (w : World) (n : Nat) (va vv : Value), (∀ id ∈ T, hf id = h id) → HRel P Own F M μ hf w →
      a1Rel P F M μ hf w a va → a1Rel P F M μ hf w v vv → ∃ w', (Instr.storeAt t va vv).run P w = .ok () w' ∧ Post P Own F M μ hf w n c (.v (.lf .unk)) undef w' F μ := by
  unfold evStore at he
  split at he
  · rename_i id off
    split at he
    · rename_i l hid
      split at he
      · rename_i hcond
        obtain ⟨hl1, hl2, hk⟩ := hcond
        refine ⟨[id], _, he, fun p hp => by simp at hp; simp [hp], fun Own F M μ hf w n va vv hT H ra rv => ?_⟩
        have hid' := (hT id (by simp)).trans hid
        obtain ⟨b, hb, rfl⟩ := ra.2.2 _ hid'
        obtain ⟨b', vs, e, h1, h2, h3⟩ := H.obj id _ hid'
        rw [hb] at h1; injection h1 with h1; subst h1
        obtain ⟨r1, r2⟩ := leaves_rel hk rv
        have hlen := alsRel_len r1
        have hlen3 := alsRel_len h3
        have hst := run_storeAt_cells (P := P) (w := w) hti (o := off) h2 (by omega) (by simp at hlen3; omega) r2
        refine ⟨_, hst, Post.upd H hid' (o' := .cells (setMany l off v.leaves)) trivial hb h2 ?_ (fun hL => ?_) (fun _ => trivial)⟩
        · simp at hlen3 hlen ⊢; omega
        · refine ⟨b, _, e, hb, setRow_heap w b vs _ e _ h2, ?_⟩
          have r1' := alsRel_later hL r1
          have h3' := alsRel_later hL h3
          have := alsRel_append (alsRel_append (alsRel_take off h3') r1') (alsRel_drop (off + vv.cells.toList.length) h3')
          have e2 : List.take off l ++ v.leaves ++ List.drop (off + vv.cells.toList.length) l = setMany l off v.leaves := by rw [hlen]; rfl
          rw [e2] at this
          exact this
      · cases he
    · cases he
  · rename_i t' id idx
    split at he
    · rename_i e t2 l hid
      split at he
      · rename_i hcond
        obtain ⟨e1, hsz⟩ := hcond
        subst e1
        split at he
        · rename_i x hx
          refine ⟨[id], _, he, fun p hp => by simp at hp; simp [hp], fun Own F M μ hf w n va vv hT H ra rv => ?_⟩
          have hid' := (hT id (by simp)).trans hid
          obtain ⟨hlt, b, hb, rfl⟩ := ra.2.2 _ _ hid'
          rcases H.obj id _ hid' with ⟨h1, h2⟩ | ⟨b', cur, cs, h1, h2, h3, h4⟩
          · rw [hb] at h1; cases h1
          · rw [hb] at h1; injection h1 with h1; subst h1
            obtain ⟨vs, rx, _, rfl⟩ := a1To_rd H rv hx (by simp)
            have rx' : rd P t' F w x vv.cells.toList := rd_mono rx (Ext.refl _ _) fun b hb => hb.elim (fun h => h) fun ⟨_, h, _⟩ => by cases h
            have hlen := rd_len rx'
            have hcs := h3.length (fun _ _ r => rd_len r)
            have hcur : l.length * t'.sz ≤ cur.size := by
              have : (cur.toList.take (l.length * t'.sz)).length = l.length * t'.sz := by rw [h4, hcs]
              simp at this; omega
            have hle : idx * t'.sz + t'.sz ≤ l.length * t'.sz := by
              have : (idx + 1) * t'.sz ≤ l.length * t'.sz := Nat.mul_le_mul_right _ hlt
              rwa [Nat.add_mul, Nat.one_mul] at this
            rw [Nat.add_zero]
            have hst := run_storeAt_cells (P := P) (w := w) hti (o := idx * t'.sz) h2 (v := vv) (by omega) (by omega) (rd_one rx')
            refine ⟨_, hst, Post.upd H hid' (o' := .arr e t' (l.set idx x)) ⟨rfl, rfl, by simp⟩ hb h2 ?_ (fun hL => ?_) (fun _ => trivial)⟩
            · simp at hlen ⊢; omega
            · refine .inr ⟨b, _, _, hb, setRow_heap w b cur _ e _ h2, (RdAll.set (R := rd P t' F w) (fun _ _ r => rd_len r) rx' h3 idx hlt).mono fun _ _ r => rd_mono r hL.ext hL.sub, ?_⟩
              subst h4
              rw [List.length_set, hlen]
              apply List.ext_getElem?
              intro j
              simp only [List.getElem?_take, List.getElem?_append, List.length_append, List.length_take, List.getElem?_drop, Array.length_toList, List.toList_toArray]
              repeat' split
              all_goals first
                | rfl
                | (exfalso; simp only [Array.length_toList] at *; omega)
                | (congr 1; omega)
                | simp_all
        · cases he
      · cases he
    · cases he
  · cases he
end
end Go.CE
