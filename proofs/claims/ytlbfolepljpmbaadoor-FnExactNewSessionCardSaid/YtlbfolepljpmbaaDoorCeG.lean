/-
  A computed evaluator over the model's code, part G: values that are built, memory that is made, what is read of slices.
-/
import Derived.Test.YtlbfolepljpmbaaDoorCeF
import Derived.Laws.Tables
import Derived.Great.BuildSlice
namespace Go.CE
set_option linter.all false
set_option linter.unusedSectionVars false
open Go Go.RowKit
variable [Tab]
set_option linter.unusedVariables false
set_option linter.unusedSimpArgs false

theorem fold_set (off : Nat) : ∀ (l : List Value) (k : Nat) (cells : Array Value), off + k + l.length ≤ cells.size →
    ((l.zipIdx k).foldl (fun cs (p : Value × Nat) => cs.setIfInBounds (off + p.2) p.1) cells).toList = cells.toList.take (off + k) ++ l ++ cells.toList.drop (off + k + l.length)
  | [], k, cells, h => by simp
  | v :: l, k, cells, h => by
    simp only [List.length_cons] at h
    rw [List.zipIdx_cons, List.foldl_cons, fold_set off l (k + 1) _ (by simp; omega)]
    simp only [Array.toList_setIfInBounds]
    apply List.ext_getElem?
    intro j
    simp only [List.getElem?_take, List.getElem?_append, List.length_append, List.length_take, List.getElem?_drop, List.getElem?_set, List.length_set, Array.length_toList, List.length_cons]
    by_cases h1 : j < off + k
    · rw [if_pos (by omega), if_pos (by omega), if_pos (by omega), if_neg (by omega), if_pos (by omega), if_pos (by omega), if_pos (by omega)]
    · by_cases h2 : j = off + k
      · subst h2
        rw [if_pos (by omega), if_pos (by omega), if_pos (by omega), if_pos rfl, if_pos (by omega), if_pos (by omega), if_neg (by omega)]
        rw [show off + k - min (off + k) cells.size = 0 by omega]; rfl
      · by_cases h3 : j < off + k + (l.length + 1)
        · rw [if_pos (by omega), if_neg (by omega), if_pos (by omega), if_neg (by omega)]
          rw [show j - min (off + k) cells.size = (j - min (off + (k + 1)) cells.size) + 1 by omega]; simp
        · rw [if_neg (by omega), if_neg (by omega), if_neg (by omega)]
          congr 1; omega
theorem fill_step {place : Nat → Option (Nat × Nat)} {cells : Array Value} {i off sz : Nat} {v : Value} {r : List (Nat × Value)} (hp : place i = some (off, sz)) (hl : v.cells.size = sz) (hle : off + sz ≤ cells.size) :
    ∃ cells', Instr.fill place cells ((i, v) :: r) = Instr.fill place cells' r ∧ cells'.size = cells.size ∧ cells'.toList = cells.toList.take off ++ v.cells.toList ++ cells.toList.drop (off + sz) := by
  have h1 := fold_set off v.cells.toList 0 cells (by simp; omega)
  refine ⟨v.cells.zipIdx.foldl (fun cs (p : Value × Nat) => cs.setIfInBounds (off + p.2) p.1) cells, ?_, ?_, ?_⟩
  · have h2 : ¬ (v.cells.size ≠ sz ∨ off + v.cells.size > cells.size) := by omega
    simp only [Instr.fill, hp]
    rw [if_neg (by simpa using h2)]
  · have h3 : (v.cells.zipIdx.foldl (fun cs (p : Value × Nat) => cs.setIfInBounds (off + p.2) p.1) cells).toList.length = cells.toList.length := by
      rw [← Array.foldl_toList, Array.toList_zipIdx, h1]
      simp; omega
    simpa using h3
  · rw [← Array.foldl_toList, Array.toList_zipIdx, h1]
    simp [hl]

section
variable {P : Program} {Own F M : Nat → Prop} {μ : Mu} {hf : AHeap} {w : World}

def partsRel (P : Program) (F M : Nat → Prop) (μ : Mu) (hf : AHeap) (w : World) : List (Nat × A1) → List (Nat × Value) → Prop
  | [], vs => vs = []
  | p :: ps, vs => ∃ v r, vs = (p.1, v) :: r ∧ a1Rel P F M μ hf w p.2 v ∧ partsRel P F M μ hf w ps r
theorem places_ok {tt : TTab} (hT : TOk P tt) : ∀ {fs : List Field} {pl : List (Nat × Nat)}, places tt fs = some pl → fs.mapM (fun f => (P.info? f.type).map fun i => (f.offset, i.size)) = some pl
  | [], _, h => by simp [places] at h; subst h; simp
  | f :: r, _, h => by
    simp only [places] at h
    split at h
    · rename_i ti l h1 h2
      injection h with h; subst h
      obtain ⟨i, hi, hs, _⟩ := (hT _ _ h1).info
      simp [List.mapM_cons, hi, hs, places_ok hT h2]
    · cases h
theorem fillParts_ok {pl : List (Nat × Nat)} : ∀ {ps : List (Nat × A1)} {vs : List (Nat × Value)} {cs l : List AL} {cells : Array Value},
    partsRel P F M μ hf w ps vs → alsRel P F M μ hf w cs cells.toList → fillParts pl cs ps = some l →
    ∃ cells', Instr.fill (pl.toArray[·]?) cells vs = some cells' ∧ alsRel P F M μ hf w l cells'.toList
  | [], _, cs, l, cells, hn, hr, h => by cases hn; simp [fillParts] at h; subst h; exact ⟨cells, by simp [Instr.fill], hr⟩
  | (f, a) :: ps, _, cs, l, cells, ⟨v, vs, rfl, ra, h2⟩, hr, h => by
    simp only at ra ⊢
    simp only [fillParts] at h
    split at h
    · cases h
    · rename_i off sz hpl
      split at h
      · rename_i hc
        obtain ⟨c1, c2, c3⟩ := hc
        obtain ⟨r1, r2⟩ := leaves_rel c3 ra
        have l1 := alsRel_len r1
        have l2 := alsRel_len hr
        simp at l1 l2
        obtain ⟨cells1, e1, e2, e3⟩ := fill_step (place := (pl.toArray[·]?)) (cells := cells) (r := vs) (i := f) (v := v) (off := off) (sz := sz) (by simpa using hpl) (by omega) (by omega)
        have hr1 : alsRel P F M μ hf w (setMany cs off a.leaves) cells1.toList := by
          rw [e3]
          have := alsRel_append (alsRel_append (alsRel_take off hr) r1) (alsRel_drop (off + sz) hr)
          unfold setMany; rw [c1]; exact this
        obtain ⟨cells', e4, r4⟩ := fillParts_ok h2 hr1 h
        exact ⟨cells', e1.trans e4, r4⟩
      · cases h
theorem fillElems_ok {et : Ty} {hh : AHeap} (H : HRel P Own F M μ hf w) {pos : 0 < et.sz} : ∀ {ps : List (Nat × A1)} {vs : List (Nat × Value)} {k : Nat} {l : List et.den} {cells : Array Value},
    partsRel P F M μ hf w ps vs → fillElems hh et k ps = some l → (k + ps.length) * et.sz ≤ cells.size →
    ∃ cells' cs, Instr.fill (fun i => some (i * et.sz, et.sz)) cells vs = some cells' ∧ cells'.size = cells.size ∧ l.length = ps.length ∧ RdAll (rd P et F w) l cs ∧ cells'.toList.take (k * et.sz) = cells.toList.take (k * et.sz) ∧ (cells'.toList.drop (k * et.sz)).take cs.length = cs
  | [], _, k, l, cells, hn, h, hle => by
    cases hn
    simp [fillElems] at h; subst h
    exact ⟨cells, [], by simp [Instr.fill], rfl, rfl, rfl, rfl, by simp⟩
  | (i, a) :: ps, _, k, l, cells, ⟨v, vs, rfl, ra, h2⟩, h, hle => by
    simp only at ra ⊢
    simp only [fillElems] at h
    split at h
    · rename_i e; subst e
      split at h
      · rename_i x hx
        simp only [Option.map_eq_some_iff] at h
        obtain ⟨l', hl', rfl⟩ := h
        obtain ⟨vs', rx, _, e5⟩ := a1To_rd H ra hx (by simp)
        have rx' : rd P et F w x v.cells.toList := e5 ▸ rd_mono rx (Ext.refl _ _) fun b hb => hb.elim (fun h => h) fun ⟨_, h, _⟩ => by cases h
        have hlen := rd_len rx'
        simp only [List.length_cons] at hle
        have e6 : (i + (ps.length + 1)) * et.sz = i * et.sz + et.sz + ps.length * et.sz := by rw [Nat.add_mul, Nat.add_mul, Nat.one_mul]; omega
        have e7 : (i + 1 + ps.length) * et.sz = i * et.sz + et.sz + ps.length * et.sz := by rw [← e6]; congr 1; omega
        have e8 : (i + 1) * et.sz = i * et.sz + et.sz := by rw [Nat.add_mul, Nat.one_mul]
        obtain ⟨cells1, f1, f2, f3⟩ := fill_step (place := fun i => some (i * et.sz, et.sz)) (cells := cells) (r := vs) (i := i) (v := v) rfl (by simpa using hlen) (by omega)
        obtain ⟨cells', cs, g1, g2, g3, g4, g5, g6⟩ := fillElems_ok (pos := pos) H (k := i + 1) (cells := cells1) h2 hl' (by omega)
        have g4len := g4.length (fun _ _ r => rd_len r)
        refine ⟨cells', v.cells.toList ++ cs, f1.trans g1, g2.trans f2, by simp [g3], ⟨_, _, rfl, rx', g4⟩, ?_, ?_⟩
        · have : (cells'.toList.take ((i + 1) * et.sz)).take (i * et.sz) = (cells1.toList.take ((i + 1) * et.sz)).take (i * et.sz) := by rw [g5]
          rw [List.take_take, List.take_take, Nat.min_eq_left (by omega)] at this
          rw [this, f3, List.append_assoc, List.take_append_of_le_length (by simp; omega), List.take_take, Nat.min_self]
        · have h10 : (cells'.toList.drop (i * et.sz)).take et.sz = v.cells.toList := by
            have : (cells'.toList.take ((i + 1) * et.sz)).drop (i * et.sz) = (cells1.toList.take ((i + 1) * et.sz)).drop (i * et.sz) := by rw [g5]
            rw [List.drop_take, List.drop_take, show (i + 1) * et.sz - i * et.sz = et.sz by omega] at this
            rw [this, f3, List.append_assoc, List.drop_append, List.drop_of_length_le (by simp; omega), List.nil_append, List.length_take, Array.length_toList, Nat.min_eq_left (by omega), Nat.sub_self, List.drop_zero, List.take_append_of_le_length (by omega), List.take_of_length_le (by omega)]
          rw [List.length_append, List.take_add, hlen, h10, List.drop_drop, ← e8, g6]
      · cases h
    · cases h
end
end Go.CE
