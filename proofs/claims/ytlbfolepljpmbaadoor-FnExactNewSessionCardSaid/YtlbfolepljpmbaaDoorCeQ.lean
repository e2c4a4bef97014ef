/-
  A computed evaluator over the model's code, part Q: every operation.
-/
import Derived.Test.YtlbfolepljpmbaaDoorCeP
namespace Go.CE
set_option linter.all false
set_option linter.unusedSectionVars false
open Go Go.RowKit
variable [Tab]
set_option linter.unusedVariables false
set_option linter.unusedSimpArgs false

section
variable {P : Program}

theorem evOp_sound {c : Cfg} (hT : TOk P c.tt) (hG : GOk P c.g) {o : Oper} {s : St} {R : Type} {k : K R} {r : R} (he : evOp c o s k = some r) : ∃ av T ch, k av T ch = some r ∧ LSem P o s.t s.h s.n av T ch := by
  unfold evOp at he
  split at he
  · exact ⟨_, _, _, he, L_move (.inl ‹_›)⟩
  · exact ⟨_, _, _, he, L_move (.inr ‹_›)⟩
  · -- pick
    rename_i q a b ho
    split at he
    · rename_i v hq
      split at he
      · rename_i x y hx hy
        refine ⟨_, _, _, lf_some he, L_pick ho hq fun {F M μ hf w va vb} ra rb => ?_⟩
        rw [hx] at ra; rw [hy] at rb
        cases v
        · exact rb
        · exact ra
      · rcases ifB_some he with ⟨rfl, he⟩ | ⟨rfl, he⟩
        · exact ⟨_, _, _, he, L_pick ho hq fun ra rb => ra⟩
        · exact ⟨_, _, _, he, L_pick ho hq fun ra rb => rb⟩
    · cases he
  · -- alloc
    rename_i ty ho
    split at he
    · exact ⟨_, _, _, he, L_alloc ho (hT _ _ ‹_›)⟩
    · cases he
  · -- box
    rename_i ty x ho
    split at he
    · rename_i t y hb
      split at hb
      · exact ⟨_, _, _, lf_some he, L_boxF ho hb⟩
      · cases hb
    · split at he
      · exact ⟨_, _, _, he, L_box ho ‹_›⟩
      · cases he
  · -- build
    rename_i ty ps ho
    split at he
    · rename_i ti hti
      split at he
      · rename_i fs hu
        split at he
        · rename_i pl hpl
          split at he
          · rename_i l hl
            exact ⟨_, _, _, he, L_build ho hT hti hu hpl hl⟩
          · cases he
        · cases he
      · cases he
    · cases he
  · -- buildSlice
    rename_i ty n ps ho
    split at he
    · rename_i ti hti
      split at he
      · rename_i el et hu he'
        split at he
        · rename_i te hte
          split at he
          · rename_i hc
            split at he
            · split at he
              · rename_i l hl
                exact ⟨_, _, _, he, L_buildSlice ho hT hti hu hte hc.1 hc.2.1 hc.2.2.1 hl hc.2.2.2⟩
              · cases he
            · rename_i i is _
              split at he
              · rename_i hlive
                split at he
                · rename_i l hl
                  refine ⟨_, _, _, he, ?_⟩
                  have := LSem.frz (P := P) (t := s.t) (h := s.h) (ids := i :: is) (fun id hid => Option.isSome_iff_exists.1 (List.all_eq_true.1 hlive id hid)) (L_buildSlice (t := fun d => frzV s.h (i :: is) (s.t d)) (h := s.h.puts (killAll (i :: is))) (n := s.n) ho hT hti hu hte hc.1 hc.2.1 hc.2.2.1 hl hc.2.2.2)
                  rw [List.append_nil] at this
                  exact this
                · cases he
              · cases he
          · cases he
        · cases he
      · cases he
    · cases he
  · -- makeSlice
    rename_i ty x y ho
    split at he
    · rename_i ti hti
      split at he
      · rename_i el et hu het
        split at he
        · rename_i te kx n ky m hte hx hy
          split at he
          · rename_i hc
            obtain ⟨hok, he⟩ := chk_some he
            exact ⟨_, _, _, he, L_makeSlice ho (hT _ _ hti) hu (hT _ _ hte) hc.1 hc.2.1 hc.2.2 hx hy hok⟩
          · cases he
        · cases he
      · cases he
    · cases he
  · -- load
    rename_i ty a ho
    split at he
    · rename_i ti hti
      obtain ⟨v, T, h1, h2⟩ := L_load ho (hT _ _ hti) he
      exact ⟨_, _, _, h1, h2⟩
    · cases he
  · -- store
    rename_i ty a v ho
    split at he
    · rename_i ti hti
      split at he
      · split at he
        · obtain ⟨T, ch, h1, h2⟩ := L_store ho (hT _ _ hti) he
          exact ⟨_, _, _, h1, h2⟩
        · rename_i i is _
          split at he
          · rename_i hl
            obtain ⟨T, ch, h1, h2⟩ := L_store (P := P) (t := fun d => frzV s.h (i :: is) (s.t d)) (h := s.h.puts (killAll (i :: is))) (n := s.n) ho (hT _ _ hti) he
            exact ⟨_, _, _, h1, LSem.frz (fun id hid => Option.isSome_iff_exists.1 (List.all_eq_true.1 hl id hid)) h2⟩
          · cases he
      · obtain ⟨T, ch, h1, h2⟩ := L_store ho (hT _ _ hti) he
        exact ⟨_, _, _, h1, h2⟩
    · cases he
  · -- nilCheck
    rename_i x ho
    split at he
    · rename_i id off hx
      split at he
      · rename_i l hl
        exact ⟨_, _, _, he, L_nilRef ho hx hl⟩
      · cases he
    · rename_i t y off hx
      exact ⟨_, _, _, lf_some he, L_nilRp ho hx⟩
    · cases he
  · -- binOp
    rename_i op ty x y yt ho
    obtain ⟨v, h1, h2⟩ := L_bin (P := P) (k := fun v => k (.v v) [] []) (t := s.t) (h := s.h) (n := s.n) (r := r) (u := (c.tt ty).map (·.u)) ho (fun d hd => by
      obtain ⟨ti, h3, rfl⟩ := Option.map_eq_some_iff.1 hd
      exact (hT _ _ h3).u) (by cases y <;> exact he)
    exact ⟨_, _, _, h1, h2⟩
  · -- unOp
    rename_i op ty x ho
    obtain ⟨v, h1, h2⟩ := L_un ho he
    exact ⟨_, _, _, h1, h2⟩
  · -- convert
    rename_i src dst x ho
    split at he
    · rename_i ts td hs hd
      split at he
      · rename_i ks kd kx a hus hud hx
        exact ⟨_, _, _, lf_some he, L_convInt ho (hT _ _ hs) (hT _ _ hd) hus hud hx⟩
      · rename_i str hus hud hx
        exact ⟨_, _, _, lf_some he, L_convStr ho (hT _ _ hs) (hT _ _ hd) hus hud hx⟩
      · rename_i el hus hud
        split at he
        · rename_i te l i hte hl
          split at he
          · rename_i hue
            exact ⟨_, _, _, he, L_convBytes ho (hT _ _ hs) (hT _ _ hd) hus hud (hT _ _ hte) hue hl⟩
          · cases he
        · cases he
      · cases he
    · cases he
  · -- makeFunc
    rename_i f first caps ho
    split at he
    · rename_i hfi
      split at he
      · rename_i sg hsg
        split at he
        · rename_i a ha
          exact ⟨_, _, _, lf_some he, L_makeFunc ho (by simpa using hfi) (hG _ _ hsg) ha⟩
        · cases he
      · cases he
    · cases he
  · -- slice
    rename_i ty x lo hi ho
    split at he
    · rename_i ti hti
      split at he
      · rename_i hu
        split at he
        · rename_i str hx
          rw [← hx] at he
          obtain ⟨a, h1, h2⟩ := L_slice ho hT hti (.inl hu) (.inl hu) (.inr fun et l => by rw [hx]; intro e; cases e) he
          exact ⟨_, _, _, h1, h2⟩
        · cases he
      · rename_i el hu
        split at he
        · rename_i te et l hte hx
          split at he
          · rename_i hsz
            rw [← hx] at he
            obtain ⟨a, h1, h2⟩ := L_slice ho hT hti (.inr ⟨el, te, hu, hte, fun et' l' e => by
              rw [hx] at e; injection e with e; injection e with e1 e2; injection e1 with e1; subst e1; exact hsz⟩) (.inr fun s => by rw [hx]; intro e; cases e) (.inl ⟨el, hu⟩) he
            exact ⟨_, _, _, h1, h2⟩
          · cases he
        · rename_i te et id hte hx
          split at he
          · rename_i hsz
            exact L_sliceOwn ho (hT _ _ hti) hu (hT _ _ hte) hsz hx he
          · cases he
        · cases he
      · cases he
    · cases he
  · -- fieldAddr
    rename_i ty x f ho
    split at he
    · rename_i ti hti
      split at he
      · rename_i fi hfl
        split at he
        · rename_i tf htf
          split at he
          · cases he
          · rename_i h0
            split at he
            · rename_i id off hx
              split at he
              · rename_i l hl
                refine ⟨_, _, _, he, L_field1 ho (hT _ _ hti) hfl (hT _ _ htf) h0 hx fun {Own F M μ hf w v} hTT r => ?_⟩
                obtain ⟨hm, h1, r⟩ := r
                obtain ⟨b, hb, rfl⟩ := r _ ((hTT id (by simp)).trans hl)
                refine ⟨b, off, rfl, hm, rfl, fun o' ho' => ⟨b, hb, rfl⟩⟩
              · cases he
            · rename_i t y off hx
              refine ⟨_, _, _, lf_some he, L_field1 ho (hT _ _ hti) hfl (hT _ _ htf) h0 hx fun {Own F M μ hf w v} hTT r => ?_⟩
              obtain ⟨b, o', cs, rfl, h2, h3, h4⟩ := r
              exact ⟨b, o' + off, rfl, b, o', cs, by rw [Nat.add_assoc], h2, h3, h4⟩
            · rename_i t id idx off hx
              split at he
              · rename_i e t' l hl
                split at he
                · rename_i htt
                  subst htt
                  refine ⟨_, _, _, he, L_field1 ho (hT _ _ hti) hfl (hT _ _ htf) h0 hx fun {Own F M μ hf w v} hTT r => ?_⟩
                  obtain ⟨hm, h1, r⟩ := r
                  have hl' := (hTT id (by simp)).trans hl
                  obtain ⟨hi, b, hb, rfl⟩ := r _ _ hl'
                  refine ⟨b, _, rfl, hm, rfl, fun e2 l2 h2 => ?_⟩
                  rw [hl'] at h2; injection h2 with h2; injection h2 with h2 h3 h4; subst h4
                  exact ⟨hi, b, hb, by rw [Nat.add_assoc]⟩
                · cases he
              · cases he
            · cases he
        · cases he
      · cases he
    · cases he
  · -- field
    rename_i ty x f ho
    split at he
    · rename_i ti hti
      split at he
      · rename_i fi hfl
        split at he
        · rename_i tf l htf hx
          split at he
          · rename_i v hp
            exact ⟨_, _, _, he, L_field ho (hT _ _ hti) hfl (hT _ _ htf) hx hp⟩
          · cases he
        · cases he
      · cases he
    · cases he
  · -- indexAddr
    rename_i ty x i ho
    split at he
    · rename_i ti hti
      split at he
      · rename_i el hu
        split at he
        · rename_i te hte
          split at he
          · rename_i et l hx
            split at he
            · rename_i hsz
              rw [← hx] at he
              obtain ⟨a, T, h1, h2⟩ := L_indexAddr ho (hT _ _ hti) hu (hT _ _ hte) (fun et' e => by
                rw [hx] at e
                rcases e with ⟨l', e⟩ | ⟨id, e⟩
                · injection e with e; injection e with e1 e2; injection e1 with e1; subst e1; exact hsz
                · cases e) he
              exact ⟨_, _, _, h1, h2⟩
            · cases he
          · rename_i et id hx
            split at he
            · rename_i hsz
              rw [← hx] at he
              obtain ⟨a, T, h1, h2⟩ := L_indexAddr ho (hT _ _ hti) hu (hT _ _ hte) (fun et' e => by
                rw [hx] at e
                rcases e with ⟨l', e⟩ | ⟨id, e⟩
                · cases e
                · injection e with e; injection e with e1 e2; subst e1; exact hsz) he
              exact ⟨_, _, _, h1, h2⟩
            · cases he
          · cases he
        · cases he
      · cases he
    · cases he
  · -- index
    rename_i ty x i ho
    split at he
    · rename_i ti hti
      split at he
      · rename_i str ki j hu hx hi
        obtain ⟨h1, h2⟩ := chk_some he
        exact ⟨_, _, _, lf_some h2, L_index ho (hT _ _ hti) hu hx hi h1⟩
      · cases he
    · cases he
  · -- extract
    rename_i x i ho
    split at he
    · rename_i l hx
      split at he
      · rename_i a ha
        exact ⟨_, _, _, he, L_extract ho hx ha⟩
      · cases he
    · cases he
  · -- builtin
    rename_i b args tys ho
    unfold evBuiltin at he
    split at he
    · rename_i x hx
      obtain ⟨x, hx', rfl⟩ := List.map_eq_singleton_iff.1 hx
      have : args = #[x] := by apply Array.toList_inj.1; simpa using hx'
      subst this
      split at he
      · cases he
      · rename_i hsz
        split at he
        · rename_i ts hts
          obtain ⟨ty, hty, hts⟩ := Option.bind_eq_some_iff.1 hts
          have : tys = #[ty] := by
            have hs : tys.size = 1 := by simpa using hsz
            apply Array.ext (by simpa using hs)
            intro i h1 h2
            have : i = 0 := by omega
            subst this
            simpa [Array.getElem?_eq_some_iff] using (Array.getElem?_eq_some_iff.1 hty).2
          subst this
          split at he
          · rename_i str hu hxx
            refine ⟨_, _, _, he, L_len ho (hT _ _ hts).u fun {Own F M μ hf w v} _ r => ?_⟩
            rw [hxx] at r
            have r : [v] = [Value.string str] := r
            injection r with r _
            exact .inr (.inr ⟨str, hu, r, rfl⟩)
          · cases he
          · rename_i el hu hnu
            have hlen : ∀ {l : Int} {T : List Nat}, (∀ {Own F M : Nat → Prop} {μ : Mu} {hf : AHeap} {w : World} {v : Value}, (∀ id ∈ T, hf id = s.h id) → a1Rel P F M μ hf w (opd s.t x) v → ∃ a m c, v = .slice a m c ∧ l = m) →
                LSem P o s.t s.h s.n (.v (.lf (.dat (.i .i64) l))) T [] := fun {l T} hh => L_len ho (hT _ _ hts).u fun {Own F M μ hf w v} h1 r => by
              obtain ⟨a, m, c, h2, h3⟩ := hh (Own := Own) h1 r
              exact .inr (.inl ⟨el, a, m, c, hu, h2, h3⟩)
            unfold evLen at he
            split at he
            · rename_i t l hxx
              refine ⟨_, _, _, he, hlen fun {Own F M μ hf w v} _ r => ?_⟩
              rw [hxx] at r
              obtain ⟨ad, cap, r, _⟩ := (show rd P (.sl t) F w l [v] from r)
              injection r with r _
              exact ⟨_, _, _, r, rfl⟩
            · rename_i str hxx
              exact (hnu _ hxx).elim
            · rename_i t id hxx
              split at he
              · rename_i e2 t' l hl
                split at he
                · rename_i htt
                  subst htt
                  refine ⟨_, _, _, he, hlen fun {Own F M μ hf w v} hTT r => ?_⟩
                  rw [hxx] at r
                  obtain ⟨_, _, r⟩ := r
                  rcases r _ _ ((hTT id (by simp)).trans hl) with ⟨_, rfl, r⟩ | ⟨b, cap, _, r, _⟩
                  · exact ⟨_, _, _, r, rfl⟩
                  · exact ⟨_, _, _, r, rfl⟩
                · cases he
              · cases he
            · rename_i hxx
              refine ⟨_, _, _, he, hlen fun {Own F M μ hf w v} _ r => ?_⟩
              rw [hxx] at r
              exact ⟨_, _, _, r, rfl⟩
            · cases he
          · cases he
        · cases he
    · rename_i y x hx
      obtain ⟨y, l', hx', rfl, hx2⟩ := List.map_eq_cons_iff.1 hx
      obtain ⟨x, rfl, rfl⟩ := List.map_eq_singleton_iff.1 hx2
      have : args = #[y, x] := by apply Array.toList_inj.1; simpa using hx'
      subst this
      split at he
      · cases he
      · rename_i hsz
        split at he
        · rename_i ts tx hts htx
          obtain ⟨ty, hty, hts⟩ := Option.bind_eq_some_iff.1 hts
          obtain ⟨ty2, hty2, htx⟩ := Option.bind_eq_some_iff.1 htx
          have : tys = #[ty, ty2] := by
            have hs : tys.size = 2 := by simpa using hsz
            apply Array.ext (by simpa using hs)
            intro i h1 h2
            have h3 : i = 0 ∨ i = 1 := by omega
            rcases h3 with rfl | rfl
            · simpa [Array.getElem?_eq_some_iff] using (Array.getElem?_eq_some_iff.1 hty).2
            · simpa [Array.getElem?_eq_some_iff] using (Array.getElem?_eq_some_iff.1 hty2).2
          subst this
          split at he
          · rename_i el et el2 hu het hux
            split at he
            · rename_i te hte
              split at he
              · rename_i hc
                exact L_append ho (hT _ _ hts) hu (hT _ _ hte) (hT _ _ htx).u (by rw [hux]; intro k e; cases e) hc.1 hc.2 he
              · cases he
            · cases he
          · rename_i el et hu het hux
            split at he
            · rename_i te hte
              split at he
              · rename_i hc
                exact L_append ho (hT _ _ hts) hu (hT _ _ hte) (hT _ _ htx).u (by rw [hux]; intro k e; cases e) hc.1 hc.2 he
              · cases he
            · cases he
          · cases he
        · cases he
    · rename_i kx x ky y hx
      split at he
      · rename_i hk; subst hk
        obtain ⟨x', l', hx', h1, hx2⟩ := List.map_eq_cons_iff.1 hx
        obtain ⟨y', rfl, h2⟩ := List.map_eq_singleton_iff.1 hx2
        have : args = #[x', y'] := by apply Array.toList_inj.1; simpa using hx'
        subst this
        exact ⟨_, _, _, lf_some he, (L_minmax h1 h2).1 ho⟩
      · cases he
    · rename_i kx x ky y hx
      split at he
      · rename_i hk; subst hk
        obtain ⟨x', l', hx', h1, hx2⟩ := List.map_eq_cons_iff.1 hx
        obtain ⟨y', rfl, h2⟩ := List.map_eq_singleton_iff.1 hx2
        have : args = #[x', y'] := by apply Array.toList_inj.1; simpa using hx'
        subst this
        exact ⟨_, _, _, lf_some he, (L_minmax h1 h2).2 ho⟩
      · cases he
    · cases he
  · -- call
    rename_i f args tys ho
    split at he
    · rename_i sg hsg
      split at he
      · exact L_call ho (hG _ _ hsg) hG he
      · rename_i i is _
        split at he
        · rename_i hl
          obtain ⟨av, T, ch, h1, h2⟩ := L_call (P := P) (t := fun d => frzV s.h (i :: is) (s.t d)) (h := s.h.puts (killAll (i :: is))) (n := s.n) ho (hG _ _ hsg) hG he
          exact ⟨_, _, _, h1, LSem.frz (fun id hid => Option.isSome_iff_exists.1 (List.all_eq_true.1 hl id hid)) h2⟩
        · cases he
    · cases he
  · -- function value
    rename_i f args tys hne ho
    split at he
    · rename_i a rr g x hf hx
      split at he
      · rename_i hrr
        simp only [Bool.and_eq_true, Bool.not_eq_true'] at hrr
        split at he
        · rename_i v i hv
          obtain ⟨y, hy, he⟩ := Option.bind_eq_some_iff.1 he
          obtain ⟨x', hx', rfl⟩ := List.map_eq_singleton_iff.1 hx
          have : args = #[x'] := by
            apply Array.toList_inj.1; simpa using hx'
          subst this
          exact ⟨_, _, _, he, L_clo1 ho hf hrr.1 hrr.2 hv hy⟩
        · cases he
      · cases he
    · rename_i a a2 rr g x x2 hf hx
      split at he
      · rename_i hrr
        simp only [Bool.and_eq_true, Bool.not_eq_true'] at hrr
        split at he
        · rename_i v i v2 i2 hv hv2
          obtain ⟨y, hy, he⟩ := Option.bind_eq_some_iff.1 he
          obtain ⟨x', l', hx', rfl, hx2⟩ := List.map_eq_cons_iff.1 hx
          obtain ⟨x2', rfl, rfl⟩ := List.map_eq_singleton_iff.1 hx2
          have : args = #[x', x2'] := by
            apply Array.toList_inj.1; simpa using hx'
          subst this
          exact ⟨_, _, _, he, L_clo2 ho hf hrr.1 hrr.2 hv hv2 hy⟩
        · cases he
      · cases he
    · cases he
  · cases he
end
end Go.CE
