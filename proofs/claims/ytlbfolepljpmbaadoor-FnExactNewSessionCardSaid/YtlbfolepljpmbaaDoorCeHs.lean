/-
  A computed evaluator over the model's code: contracts of the library's own, brought into its words.
-/
import Derived.Test.YtlbfolepljpmbaaDoorCeX
import Derived.Test.YtlbfolepljpmbaaDoorCeHn
import Derived.Lib.LaidTab
namespace Go.CE
set_option linter.all false
open Go Go.RowKit
set_option linter.unusedSectionVars false
variable [Tab]

/-- A function that takes data, gives a scalar, and writes nothing that was there. -/
theorem Sound.ofCalls {P : Program} {f : FuncId} {sv : List SV} {r : Ty} {fn : (Shp.mk sv []).den → Option (Shp.mk [.d r] []).den} (hE : Enters P f) (hr : r.scal = true) (hra : r.agg = false)
    (h : ∀ (w : World) (F M : Nat → Prop) (μ : Mu) (hp : AHeap) (xs : HV sv) (y : (Shp.mk [.d r] []).den) (vals : Array Value), fn (xs, ()) = some y → Closed F w → a1sRel P F M μ hp w (packV sv xs) vals.toList →
      Calls P f vals w fun e w' => ∃ v, e = .returned v ∧ rd P r F w' y.1.1 [v] ∧ Below w.heap.size w w') : Sound P f ⟨⟨sv, []⟩, ⟨[.d r], []⟩, fn⟩ := by
  refine ⟨hE, fun w F μ xs ys vals hy hv H => (h w F _ μ _ xs.1 ys vals hy H.closed hv).mono ?_⟩
  rintro e w' ⟨v, rfl, hrd, hb⟩
  refine ⟨v, F, μ, rfl, .of_below hb fun b hb => .inl hb, fun _ h => h, fun _ h => .inl h, fun b m hc => hc.of_below hb, fun _ _ => rfl, fun id b _ h => absurd h (Nat.not_lt_zero _), ⟨H.closed.next (Ext.of_below H.closed hb) (fun _ h => h) fun b hF => Nat.lt_of_lt_of_le (H.closed.1 b hF) hb.size, ?_, ?_, ?_, ?_⟩, ?_⟩
  · intro id o ho; simp [packO, enumO] at ho
  · intro id o ho; simp [packO, enumO] at ho
  · intro id o b ho; simp [packO, enumO] at ho
  · intro id id' o o' b ho; simp [packO, enumO] at ho
  · show a1Rel P F _ μ _ w' (a1Of r ys.1.1) v
    unfold a1Of
    rw [hra]
    exact rd_scal hr hrd
theorem Sound.itoa {P : Program} {f : FuncId} (hE : Enters P f) (h : ∀ (i : Nat), i < 100 → ∀ w : World, Calls P f #[.int .i64 i] w fun e w' => e = .returned (.string ⟨(Lib.decDigits i).toArray⟩) ∧ w' = w) :
    Sound P f ⟨⟨[.d (.i .i64)], []⟩, ⟨[.d .s], []⟩, fun x => N.strconv_Itoa x.1.1⟩ := by
  refine Sound.ofCalls hE rfl rfl fun w F M μ hp xs y vals hy hc hr => ?_
  obtain ⟨n, u⟩ := xs
  obtain ⟨v, rs, e, r1, r2⟩ := hr
  have r1 := a1_int (P := P) (F := F) (M := M) (μ := μ) (h := hp) (w := w) (k := .i64) (n := n) r1
  subst r1
  have : vals = #[.int .i64 n] := by
    cases r2
    apply Array.toList_inj.1; rw [e]
  subst this
  have hy : N.strconv_Itoa n = some y := hy
  unfold N.strconv_Itoa at hy
  split at hy
  · rename_i hn
    injection hy with hy; subst hy
    obtain ⟨i, rfl⟩ : ∃ i : Nat, n = i := ⟨Int.toNat n, (Int.toNat_of_nonneg hn.1).symm⟩
    refine (h i (Int.ofNat_lt.1 hn.2) w).mono ?_
    rintro e w' ⟨rfl, rfl⟩
    exact ⟨_, rfl, by simp only [rd]; rfl, Below.refl _ _⟩
  · cases hy
theorem rdAll_str {P : Program} {F : Nat → Prop} {w : World} {l : List ByteArray} {cs : List Value} (hall : RdAll (rd P .s F w) l cs) : cs = l.map Value.string := by
  induction l generalizing cs with
  | nil => exact hall
  | cons x l ih =>
    obtain ⟨a, r, e, h1, h2⟩ := hall
    have h1 : a = [Value.string x] := by simpa only [rd] using h1
    rw [e, h1, ih h2]; rfl
theorem Sound.join {P : Program} {f : FuncId} (hE : Enters P f) (h0 : ∀ (a : Option Addr) (c : Nat) (sep : ByteArray) (w : World), Calls P f #[.slice a 0 c, .string sep] w fun e w' => e = .returned (.string ⟨#[]⟩) ∧ w' = w)
    (h : ∀ (bk o c : Nat) (xs : List ByteArray) (sep : ByteArray) (w : World), (∀ (j : Nat) x, xs[j]? = some x → w.cell? ⟨bk, o + j, none⟩ = some (.string x)) → bk < w.heap.size → xs.length ≤ 140737488355328 → xs.length ≤ c →
      (Lib.join (xs.map (·.data.toList)) sep.data.toList).length ≤ 140737488355328 → Calls P f #[.slice (some ⟨bk, o, none⟩) xs.length c, .string sep] w fun e w' => e = .returned (.string ⟨(Lib.join (xs.map (·.data.toList)) sep.data.toList).toArray⟩) ∧ Below w.heap.size w w') :
    Sound P f ⟨⟨[.d (.sl .s), .d .s], []⟩, ⟨[.d .s], []⟩, fun x => N.strings_Join x.1.1 x.1.2.1⟩ := by
  refine Sound.ofCalls hE rfl rfl fun w F M μ hp xs y vals hy hc hr => ?_
  obtain ⟨l, sep, u⟩ := xs
  obtain ⟨v, rs, e, r1, v2, rs2, e2, r2, r3⟩ := hr
  have r2 := a1_str (P := P) (F := F) (M := M) (μ := μ) (h := hp) (w := w) (n := sep) r2
  have r1 : rd P (.sl .s) F w l [v] := r1
  obtain ⟨ad, cap, ev, hcap, hr⟩ := r1
  injection ev with ev _
  subst ev r2 e2
  have : vals = #[.slice ad l.length cap, .string sep] := by
    cases r3
    apply Array.toList_inj.1; rw [e]
  subst this
  have hy : N.strings_Join l sep = some y := hy
  unfold N.strings_Join at hy
  split at hy
  · rename_i hn
    injection hy with hy; subst hy
    rcases hr with rfl | ⟨b, o, cs, rfl, hb, hall, hcs⟩
    · refine (h0 ad cap sep w).mono ?_
      rintro e w' ⟨rfl, rfl⟩
      exact ⟨_, rfl, by simp [rd, Lib.join], Below.refl _ _⟩
    · have hcs2 : cs = l.map Value.string := rdAll_str hall
      refine (h b o cap l sep w (fun j x hj => ?_) (hc.1 b hb) hn.1 hcap hn.2).mono ?_
      · have hj2 := (List.getElem?_eq_some_iff.1 hj)
        obtain ⟨hjl, hjx⟩ := hj2
        rw [hcs j (by rw [hcs2]; simpa using hjl)]
        simp [hcs2, hjx]
      · rintro e w' ⟨rfl, hbel⟩
        exact ⟨_, rfl, by simp only [rd], hbel⟩
  · cases hy
theorem Sound.byteFn {P : Program} {f : FuncId} {fn : ByteArray → ByteArray → Option ((Int × Unit) × Unit)} (hE : Enters P f) (h : ∀ (s : ByteArray) (c : UInt8) (w : World), Calls P f #[.string s, .string ⟨#[c]⟩] w fun e w' => ∃ n : Int, fn s ⟨#[c]⟩ = some ((n, ()), ()) ∧ e = .returned (.int .i64 n) ∧ w' = w) (h1 : ∀ s sep y, fn s sep = some y → ∃ c, sep = ⟨#[c]⟩) :
    Sound P f ⟨⟨[.d .s, .d .s], []⟩, ⟨[.d (.i .i64)], []⟩, fun x => fn x.1.1 x.1.2.1⟩ := by
  refine Sound.ofCalls hE rfl rfl fun w F M μ hp xs y vals hy hc hr => ?_
  obtain ⟨s, sep, u⟩ := xs
  obtain ⟨v, rs, e, r1, v2, rs2, e2, r2, r3⟩ := hr
  have r1 := a1_str (P := P) (F := F) (M := M) (μ := μ) (h := hp) (w := w) (n := s) r1
  have r2 := a1_str (P := P) (F := F) (M := M) (μ := μ) (h := hp) (w := w) (n := sep) r2
  subst r1 r2 e2
  have : vals = #[.string s, .string sep] := by
    cases r3
    apply Array.toList_inj.1; rw [e]
  subst this
  obtain ⟨c, hc1⟩ := h1 s sep y hy
  have hc1 : sep = ⟨#[c]⟩ := hc1
  subst hc1
  refine (h s c w).mono ?_
  rintro e w' ⟨n, hn, rfl, rfl⟩
  have hy : fn s ⟨#[c]⟩ = some y := hy
  rw [hn] at hy; injection hy with hy; subst hy
  exact ⟨_, rfl, by simp only [rd], Below.refl _ _⟩
theorem Sound.index {P : Program} {f : FuncId} (hE : Enters P f) (h : ∀ (s : ByteArray) (c : UInt8) (w : World), Calls P f #[.string s, .string ⟨#[c]⟩] w fun e w' => e = .returned (.int .i64 (Lib.indexByte s.data.toList c)) ∧ w' = w) :
    Sound P f ⟨⟨[.d .s, .d .s], []⟩, ⟨[.d (.i .i64)], []⟩, fun x => N.strings_Index x.1.1 x.1.2.1⟩ :=
  Sound.byteFn hE (fun s c w => (h s c w).mono fun e w' ⟨h1, h2⟩ => ⟨_, rfl, h1, h2⟩) fun s sep y hy => by
    unfold N.strings_Index at hy
    split at hy
    · rename_i c hc; exact ⟨c, by rw [← (Array.toList_inj (xs := sep.data) (ys := #[c])).1 hc]⟩
    · cases hy
theorem Sound.index2 {P : Program} {f : FuncId} (hE : Enters P f) (h : ∀ (s : ByteArray) (c : UInt8) (w : World), Calls P f #[.string s, .string ⟨#[c]⟩] w fun e w' => e = .returned (.int .i64 (Lib.indexByte s.data.toList c)) ∧ w' = w) :
    Sound P f ⟨⟨[.d .s, .d .s], []⟩, ⟨[.d (.i .i64)], []⟩, fun x => N.i_stringslite_Index x.1.1 x.1.2.1⟩ := Sound.index hE h
theorem Sound.count {P : Program} {f : FuncId} (hE : Enters P f) (h : ∀ (s : ByteArray) (c : UInt8) (w : World), Calls P f #[.string s, .string ⟨#[c]⟩] w fun e w' => e = .returned (.int .i64 (Lib.countByte s.data.toList c)) ∧ w' = w) :
    Sound P f ⟨⟨[.d .s, .d .s], []⟩, ⟨[.d (.i .i64)], []⟩, fun x => N.strings_Count x.1.1 x.1.2.1⟩ :=
  Sound.byteFn hE (fun s c w => (h s c w).mono fun e w' ⟨h1, h2⟩ => ⟨_, rfl, h1, h2⟩) fun s sep y hy => by
    unfold N.strings_Count at hy
    split at hy
    · rename_i c hc; exact ⟨c, by rw [← (Array.toList_inj (xs := sep.data) (ys := #[c])).1 hc]⟩
    · cases hy
/-- A function that takes data, gives two scalars, and writes nothing that was there. -/
theorem Sound.ofCalls2 {P : Program} {f : FuncId} {sv : List SV} {r r2 : Ty} {fn : (Shp.mk sv []).den → Option (Shp.mk [.d r, .d r2] []).den} (hE : Enters P f) (hr : r.scal = true) (hra : r.agg = false) (hr2 : r2.scal = true) (hra2 : r2.agg = false)
    (h : ∀ (w : World) (F M : Nat → Prop) (μ : Mu) (hp : AHeap) (xs : HV sv) (y : (Shp.mk [.d r, .d r2] []).den) (vals : Array Value), fn (xs, ()) = some y → Closed F w → a1sRel P F M μ hp w (packV sv xs) vals.toList →
      Calls P f vals w fun e w' => ∃ v v2, e = .returned (.tuple #[v, v2]) ∧ rd P r F w' y.1.1 [v] ∧ rd P r2 F w' y.1.2.1 [v2] ∧ Below w.heap.size w w') : Sound P f ⟨⟨sv, []⟩, ⟨[.d r, .d r2], []⟩, fn⟩ := by
  refine ⟨hE, fun w F μ xs ys vals hy hv H => (h w F _ μ _ xs.1 ys vals hy H.closed hv).mono ?_⟩
  rintro e w' ⟨v, v2, rfl, hrd, hrd2, hb⟩
  refine ⟨_, F, μ, rfl, .of_below hb fun b hb => .inl hb, fun _ h => h, fun _ h => .inl h, fun b m hc => hc.of_below hb, fun _ _ => rfl, fun id b _ h => absurd h (Nat.not_lt_zero _), ⟨H.closed.next (Ext.of_below H.closed hb) (fun _ h => h) fun b hF => Nat.lt_of_lt_of_le (H.closed.1 b hF) hb.size, ?_, ?_, ?_, ?_⟩, ?_⟩
  · intro id o ho; simp [packO, enumO] at ho
  · intro id o ho; simp [packO, enumO] at ho
  · intro id o b ho; simp [packO, enumO] at ho
  · intro id id' o o' b ho; simp [packO, enumO] at ho
  · refine ⟨_, rfl, v, [v2], rfl, ?_, v2, [], rfl, ?_, rfl⟩
    · show a1Rel P F _ μ _ w' (a1Of r ys.1.1) v
      unfold a1Of
      rw [hra]
      exact rd_scal hr hrd
    · show a1Rel P F _ μ _ w' (a1Of r2 ys.1.2.1) v2
      unfold a1Of
      rw [hra2]
      exact rd_scal hr2 hrd2
theorem Sound.atoi {P : Program} {f : FuncId} (hE : Enters P f) (h : ∀ (s : ByteArray) (n : Int), s.size ≤ 18 → Lib.atoi s.data.toList = some n → ∀ w : World, Calls P f #[.string s] w fun e w' => e = .returned (.tuple #[.int .i64 n, .nilIface]) ∧ Below w.heap.size w w') :
    Sound P f ⟨⟨[.d .s], []⟩, ⟨[.d (.i .i64), .d .e], []⟩, fun x => N.strconv_Atoi x.1.1⟩ := by
  refine Sound.ofCalls2 hE rfl rfl rfl rfl fun w F M μ hp xs y vals hy hc hr => ?_
  obtain ⟨s, u⟩ := xs
  obtain ⟨v, rs, e, r1, r2⟩ := hr
  have r1 := a1_str (P := P) (F := F) (M := M) (μ := μ) (h := hp) (w := w) (n := s) r1
  subst r1
  have : vals = #[.string s] := by
    cases r2
    apply Array.toList_inj.1; rw [e]
  subst this
  have hy : N.strconv_Atoi s = some y := hy
  unfold N.strconv_Atoi at hy
  split at hy
  · rename_i hn
    split at hy
    · rename_i n hat
      injection hy with hy; subst hy
      refine (h s n hn hat w).mono ?_
      rintro e w' ⟨rfl, hb⟩
      exact ⟨_, _, rfl, by simp only [rd], by simp [rd], hb⟩
    · cases hy
  · cases hy
end Go.CE
