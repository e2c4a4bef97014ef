/-
  A computed evaluator over the model's code, part Y: what comes in at a law.
-/
import Derived.Test.YtlbfolepljpmbaaDoorCeX
import Derived.OpenShut
namespace Go.CE
set_option linter.all false
set_option linter.unusedSectionVars false
open Go Go.RowKit
variable [Tab]

/-- A slice of whole numbers that came in: nil, or a row of cells. -/
def IsRow (k : IntKind) (w : World) (a : Option Addr) (len cap : Nat) (zs : List Int) : Prop :=
  (a = none ∧ len = 0 ∧ cap = 0 ∧ zs = []) ∨
  ∃ x, a = some x ∧ len ≤ cap ∧ cap ≤ maxLen ∧ zs.length = cap ∧ (∀ i, i < zs.length → w.cell? (x.add i) = some (.int k (zs.getD i 0))) ∧ ∀ n ∈ zs, (Lit.int k n).wf = true
theorem cell_lt {w : World} {x : Addr} {v : Value} (h : w.cell? x = some v) : x.block < w.heap.size := by
  apply Nat.lt_of_not_le
  intro hge
  have : w.heap[x.block]? = none := by simp; omega
  unfold World.cell? at h
  simp [this] at h
theorem IsRow.rd {P : Program} {k : IntKind} {w : World} {a : Option Addr} {len cap : Nat} {zs : List Int} (h : IsRow k w a len cap zs) : rd P (.sl (.i k)) (fun b => b < w.heap.size) w (zs.take len) [.slice a len cap] := by
  rcases h with ⟨rfl, rfl, rfl, rfl⟩ | ⟨x, rfl, h1, h2, h3, h4, h5⟩
  · exact ⟨none, 0, rfl, Nat.le_refl _, .inl rfl⟩
  · have hl : (zs.take len).length = len := by rw [List.length_take]; omega
    refine ⟨some x, cap, by rw [hl], by omega, ?_⟩
    by_cases h0 : len = 0
    · subst h0; exact .inl rfl
    · have hc := h4 0 (by omega)
      have hspot : x.spot = none := by simpa [Addr.add] using World.cell?_spot hc
      obtain ⟨b, o, sp⟩ := x
      subst hspot
      have hb : b < w.heap.size := by
        have := cell_lt hc
        rwa [add_lit] at this
      refine .inr ⟨b, o, (zs.take len).map (Value.int k), rfl, hb, ?_, ?_⟩
      · have : ∀ l : List Int, RdAll (CE.rd P (.i k) (fun b => b < w.heap.size) w) l (l.map (Value.int k)) := by
          intro l
          induction l with
          | nil => rfl
          | cons y l ih => exact ⟨[.int k y], _, rfl, by simp only [CE.rd], ih⟩
        exact this _
      · intro j hj
        have hj' : j < len := by rw [List.length_map, hl] at hj; exact hj
        have := h4 j (by omega)
        rw [add_lit] at this
        rw [this]
        have hjz : j < zs.length := by omega
        simp [List.getD, List.getElem?_eq_getElem hjz]
theorem IsRow.ok {k : IntKind} {w : World} {a : Option Addr} {len cap : Nat} {zs : List Int} (h : IsRow k w a len cap zs) : (zs.take len).length ≤ maxLen ∧ ∀ n ∈ zs.take len, (Lit.int k n).wf = true := by
  rcases h with ⟨rfl, rfl, rfl, rfl⟩ | ⟨x, rfl, h1, h2, h3, h4, h5⟩
  · simp
  · refine ⟨by rw [List.length_take]; omega, fun n hn => h5 n (List.mem_of_mem_take hn)⟩
/-- A law that takes data and gives true. -/
theorem Sound.law {P : Program} {f : FuncId} {sv : List SV} {fn : (Shp.mk sv []).den → Option (Shp.mk [.d .b] []).den} (hS : Sound P f ⟨⟨sv, []⟩, ⟨[.d .b], []⟩, fn⟩) {w : World} {xs : HV sv} {vals : Array Value}
    (hy : fn (xs, ()) = some ((true, ()), ())) (hh : Held (fun b => b < w.heap.size) w) (hv : ∀ (M : Nat → Prop) (μ : Mu) (h : AHeap), a1sRel P (fun b => b < w.heap.size) M μ h w (packV sv xs) vals.toList) :
    Calls P f vals w fun e w' => e = .returned (.bool true) ∧ Below w.heap.size w w' := by
  refine (hS.plainCall (r := .b) rfl rfl (F := fun b => b < w.heap.size) ⟨fun b h => h, hh⟩ hy hv).mono ?_
  rintro e w' ⟨v, rfl, hr, hb⟩
  refine ⟨?_, hb⟩
  have hr : [v] = [Value.bool true] := by simpa only [CE.rd] using hr
  injection hr with hr _; rw [hr]
end Go.CE
