/-
  Plain laws, part o: what is drawn.
-/
import Derived.Test.YtholdngdcinbcaaCeZn
namespace Go.CL
set_option linter.all false
open Go Go.CE
set_option linter.unusedSimpArgs false
set_option linter.unusedVariables false

def CurOk (b : List Int) (i : Int) : Prop := 0 ≤ i ∧ i ≤ b.length ∧ b.length ≤ 1048576
theorem wrap_i64_any (x : Int) : -9223372036854775808 ≤ IntKind.i64.wrap x ∧ IntKind.i64.wrap x ≤ 9223372036854775807 := by
  unfold IntKind.wrap; simp [IntKind.bits, IntKind.signed]; omega
theorem band_le (y : Int) (m : Nat) (hm : m < 9223372036854775808) : 0 ≤ band .i64 y (m : Int) ∧ band .i64 y (m : Int) ≤ m := by
  unfold band
  have e : (BitVec.ofInt IntKind.i64.bits y &&& BitVec.ofInt IntKind.i64.bits (m : Int)).toNat ≤ m := by
    show (BitVec.ofInt 64 y &&& BitVec.ofInt 64 (m : Int)).toNat ≤ m
    rw [BitVec.toNat_and, ofInt_toNat hm]; exact Nat.and_le_right
  generalize (BitVec.ofInt IntKind.i64.bits y &&& BitVec.ofInt IntKind.i64.bits (m : Int)).toNat = z at *
  rw [wrap_i64 (by omega) (by omega)]; omega
theorem band_255 (y : Int) : 0 ≤ band .i64 y 255 ∧ band .i64 y 255 ≤ 255 := band_le y 255 (by omega)
theorem l1New_ok (b : List Int) (hb : b.length ≤ 1048576) : ∃ h, N.spec_l1New b = some ((), (b, 0, h, ()), ()) := by
  unfold N.spec_l1New
  have key : ∀ d k h, k + d = b.length → ∃ h', iter (fun (y : ((List Int) × Int × Int × Unit) × Unit) => N.spec_l1New.l0 y.1.1 y.1.2.1 y.1.2.2.1) ((b, h, (k : Nat), ()), ()) = some ((), (b, 0, h', ()), ()) := by
    intro d
    induction d with
    | zero =>
      intro k h hk
      refine ⟨h, iter_done ?_⟩
      simp only [E, N.spec_l1New.l0]; rw [if_neg (by omega)]
    | succ d ih =>
      intro k h hk
      by_cases h4 : k < 4000
      · obtain ⟨h', hh⟩ := ih (k + 1) (band .i64 (addI .i64 (addI .i64 (mulI .i64 h 131) (wrapK .i64 (at_ (.i .u8) b k))) 7) 1073741823) (by omega)
        refine ⟨h', (iter_step (f := fun (y : ((List Int) × Int × Int × Unit) × Unit) => N.spec_l1New.l0 y.1.1 y.1.2.1 y.1.2.2.1) ?_).trans hh⟩
        simp only [ifB_eq, chk_eq, ltI_iff, inL_iff, lenL_eq, N.spec_l1New.l0]
        rw [if_pos (by omega), if_pos (by omega), if_pos (by omega), addI_eq (x := (k : Int)) (by omega) (by omega)]; rfl
      · refine ⟨h, iter_done ?_⟩
        simp only [E, N.spec_l1New.l0]; rw [if_pos (by omega), if_neg (by omega)]
  exact key b.length 0 _ (by omega)
theorem l1Byte_ok {b : List Int} {i : Int} (h : Int) (hc : CurOk b i) : ∃ x i' h', N.spec_l1Byte b i h = some ((x, ()), (b, i', h', ()), ()) ∧ 0 ≤ x ∧ x ≤ 255 ∧ CurOk b i' := by
  unfold N.spec_l1Byte
  obtain ⟨h0, h1, h2⟩ := hc
  simp only [ifB_eq, chk_eq, ltI_iff, inL_iff, lenL_eq, nonneg_iff]
  rw [if_pos (by omega), if_pos (by omega)]
  split
  · rw [if_pos (by omega)]
    exact ⟨_, _, _, rfl, (band_255 _).1, (band_255 _).2, by rw [addI_eq (by omega) (by omega)]; exact ⟨by omega, by omega, h2⟩⟩
  · exact ⟨_, _, _, rfl, (band_255 _).1, (band_255 _).2, h0, h1, h2⟩
theorem tmod_bounds {x n : Int} (hx : 0 ≤ x) (hn : 0 < n) : 0 ≤ x.tmod n ∧ x.tmod n < n := by
  rw [Int.tmod_eq_emod_of_nonneg hx]
  exact ⟨Int.emod_nonneg _ (by omega), Int.emod_lt_of_pos _ hn⟩
theorem l1Below_ok (n : Int) {b : List Int} {i : Int} (h : Int) (hc : CurOk b i) : ∃ x i' h', N.spec_l1Below n b i h = some ((x, ()), (b, i', h', ()), ()) ∧ 0 ≤ x ∧ (n ≤ 0 → x = 0) ∧ (0 < n → x < n) ∧ CurOk b i' := by
  unfold N.spec_l1Below
  simp only [ifB_eq, chk_eq, leI_iff, nonzero_iff]
  by_cases hn : n ≤ 0
  · rw [if_pos hn]; exact ⟨_, _, _, rfl, by omega, fun _ => rfl, fun h => by omega, hc⟩
  · rw [if_neg hn]
    split
    · obtain ⟨x, i', h', e, hx0, hx1, hc'⟩ := l1Byte_ok h hc
      rw [e, bnd_some, if_pos (by omega)]
      have := tmod_bounds hx0 (show 0 < n by omega)
      exact ⟨_, _, _, rfl, this.1, fun h => by omega, fun _ => this.2, hc'⟩
    · obtain ⟨x, i1, h1, e1, hx0, hx1, hc1⟩ := l1Byte_ok h hc
      obtain ⟨y, i2, h2, e2, hy0, hy1, hc2⟩ := l1Byte_ok h1 hc1
      obtain ⟨z, i3, h3, e3, hz0, hz1, hc3⟩ := l1Byte_ok h2 hc2
      obtain ⟨w, i4, h4, e4, hw0, hw1, hc4⟩ := l1Byte_ok h3 hc3
      rw [e1, bnd_some, e2, bnd_some, e3, bnd_some, e4, bnd_some, if_pos (by omega)]
      dsimp only
      rw [mulI_eq (x := x) (by omega) (by omega), mulI_eq (x := y) (by omega) (by omega), mulI_eq (x := z) (by omega) (by omega), addI_eq (x := x * 16777216) (by omega) (by omega), addI_eq (x := x * 16777216 + y * 65536) (by omega) (by omega), addI_eq (by omega) (by omega)]
      have := tmod_bounds (x := x * 16777216 + y * 65536 + z * 256 + w) (by omega) (show 0 < n by omega)
      exact ⟨_, _, _, rfl, this.1, fun h => by omega, fun _ => this.2, hc4⟩
theorem l1Once_ok (n : Int) {b : List Int} {i : Int} (h : Int) (hc : CurOk b i) : ∃ x i' h', N.spec_l1Once n b i h = some ((x, ()), (b, i', h', ()), ()) ∧ CurOk b i' := by
  unfold N.spec_l1Once
  obtain ⟨x, i', h', e, _, _, _, hc'⟩ := l1Below_ok n h hc
  rw [e]; exact ⟨_, _, _, rfl, hc'⟩
theorem l1PickInt_ok (l : List Int) (hl : 0 < l.length) {b : List Int} {i : Int} (h : Int) (hc : CurOk b i) : ∃ x i' h', N.spec_l1PickInt l b i h = some ((x, ()), (b, i', h', ()), ()) ∧ x ∈ l ∧ CurOk b i' := by
  unfold N.spec_l1PickInt
  obtain ⟨x, i', h', e, h0, _, h2, hc'⟩ := l1Below_ok (l.length : Int) h hc
  rw [lenL_eq, e, bnd_some]
  have := h2 (by omega)
  obtain ⟨m, rfl⟩ := Int.eq_ofNat_of_zero_le h0
  simp only [E]
  rw [if_pos (by omega)]
  exact ⟨_, _, _, rfl, getD_mem (by omega), hc'⟩
theorem pow_le64 {n : Nat} (h : n ≤ 6) : 2 ^ n ≤ 64 := show 2 ^ n ≤ 2 ^ 6 from Nat.pow_le_pow_right (by omega) h
theorem l3Make_ok (n : Nat) (hn : n ≤ 6) (m : Nat) (hm : m ≤ 8) {b : List Int} {i : Int} (h : Int) (hc : CurOk b i) :
    ∃ R i' h', N.spec_l3Make (n : Int) (m : Int) b i h = some (((n : Int), ()), (b, i', h', ()), zs R, ()) ∧ Ctx n R ∧ R.length ≤ m ∧ CurOk b i' := by
  unfold N.spec_l3Make
  obtain ⟨x, i1, h1, e1, hx0, _, hx1, hc1⟩ := l1Below_ok (addI .i64 (m : Int) 1) h hc
  rw [e1, bnd_some]
  dsimp only
  rw [addI_eq (by omega) (by omega)] at hx1
  have hx2 := hx1 (by omega)
  obtain ⟨c, rfl⟩ := Int.eq_ofNat_of_zero_le hx0
  have hp := pow_le64 hn
  have hpp := Nat.two_pow_pos n
  have key : ∀ d k (R : List Nat) i h, k + d = c → R.length = k → (∀ r ∈ R, r < 2 ^ n) → CurOk b i →
      ∃ R' i' h', iter (fun (y : (Int × Int × Int × Unit) × ((List Int) × Int × Int × Unit) × (Int × Unit) × (List Int) × (Int × Unit) × (List Int) × Unit) => N.spec_l3Make.l0 y.1.1 y.1.2.1 y.1.2.2.1 y.2.1.1 y.2.1.2.1 y.2.1.2.2.1 y.2.2.1.1 y.2.2.2.1 y.2.2.2.2.1.1 y.2.2.2.2.2.1)
        (((n : Int), (c : Int), (k : Nat), ()), (b, i, h, ()), (0, ()), [], ((n : Int), ()), zs R, ()) = some (((n : Int), ()), (b, i', h', ()), zs R', ()) ∧ R'.length = c ∧ (∀ r ∈ R', r < 2 ^ n) ∧ CurOk b i' := by
    intro d
    induction d with
    | zero =>
      intro k R i h hk hl hR hc
      refine ⟨R, i, h, iter_done ?_, by omega, hR, hc⟩
      simp only [E, N.spec_l3Make.l0]; rw [if_neg (by omega)]
    | succ d ih =>
      intro k R i h hk hl hR hc
      obtain ⟨on, i1, h1, e1, hc1⟩ := l1Once_ok 2 h hc
      obtain ⟨x, i2, h2, e2, hx0, _, hx1, hc2⟩ := l1Below_ok ((2 ^ n : Nat) : Int) h1 hc1
      obtain ⟨y, i3, h3, e3, hy0, _, hy1, hc3⟩ := l1Below_ok ((2 ^ n : Nat) : Int) h2 hc2
      have hx2 := hx1 (by omega)
      have hy2 := hy1 (by omega)
      obtain ⟨x, rfl⟩ := Int.eq_ofNat_of_zero_le hx0
      obtain ⟨y, rfl⟩ := Int.eq_ofNat_of_zero_le hy0
      have hstep : ∃ r i' h', r < 2 ^ n ∧ CurOk b i' ∧ N.spec_l3Make.l0 (n : Int) (c : Int) (k : Nat) b i h 0 [] (n : Int) (zs R) = some (.inl (((n : Int), (c : Int), ((k + 1 : Nat) : Int), ()), (b, i', h', ()), (0, ()), [], ((n : Int), ()), zs (R ++ [r]), ())) := by
        simp only [ifB_eq, chk_eq, ltI_iff, nonneg_iff, fitL2_iff, zs_length, N.spec_l3Make.l0, e1, bnd_some, maxList_eq]
        rw [if_pos (by omega), wrapK_u64 (by omega) (by omega), one_shl (by omega), addI_eq (x := (k : Int)) (by omega) (by omega)]
        cases on with
        | true =>
          rw [if_pos rfl, if_pos (by omega), e2, bnd_some]
          dsimp only
          rw [if_pos (by simp only [List.length_cons, List.length_nil]; omega)]
          exact ⟨x, _, _, by omega, hc2, by rw [zs_append]; rfl⟩
        | false =>
          rw [if_neg (by simp), if_pos (by omega), e2, bnd_some]
          dsimp only
          rw [if_pos (by omega), e3, bnd_some]
          dsimp only
          rw [bor_nat (by omega) (by omega), if_pos (by simp only [List.length_cons, List.length_nil]; omega)]
          exact ⟨x ||| y, _, _, Nat.or_lt_two_pow (by omega) (by omega), hc3, by rw [zs_append]; rfl⟩
      obtain ⟨r, i', h', hr, hc', hs⟩ := hstep
      obtain ⟨R', i'', h'', e, g1, g2, g3⟩ := ih (k + 1) (R ++ [r]) i' h' (by omega) (by simp; omega) (fun q hq => by
        rcases List.mem_append.1 hq with hq | hq
        · exact hR q hq
        · simp at hq; subst hq; exact hr) hc'
      refine ⟨R', i'', h'', (iter_step (f := fun (y : (Int × Int × Int × Unit) × ((List Int) × Int × Int × Unit) × (Int × Unit) × (List Int) × (Int × Unit) × (List Int) × Unit) => N.spec_l3Make.l0 y.1.1 y.1.2.1 y.1.2.2.1 y.2.1.1 y.2.1.2.1 y.2.1.2.2.1 y.2.2.1.1 y.2.2.2.1 y.2.2.2.2.1.1 y.2.2.2.2.2.1) hs).trans e, g1, g2, g3⟩
  obtain ⟨R', i', h', e, g1, g2, g3⟩ := key c 0 [] i1 h1 (by omega) rfl (by simp) hc1
  exact ⟨R', i', h', e, ⟨hn, by omega, g2⟩, by omega, g3⟩
theorem l3Draw_ok {b : List Int} {i : Int} (h : Int) (hc : CurOk b i) : ∃ (n : Nat) (R : List Nat) (i' h' : Int), N.spec_l3Draw b i h = some (((n : Int), ()), (b, i', h', ()), zs R, ()) ∧ n ≤ 5 ∧ Ctx n R ∧ R.length ≤ 6 ∧ CurOk b i' := by
  unfold N.spec_l3Draw
  obtain ⟨x, i1, h1, e1, hx, hc1⟩ := l1PickInt_ok [0, 1, 2, 3, 3, 4, 4, 5, 5] (by simp) h hc
  have hb : 0 ≤ x ∧ x ≤ 5 := by simp at hx; omega
  obtain ⟨n, rfl⟩ := Int.eq_ofNat_of_zero_le hb.1
  obtain ⟨R, i2, h2, e2, g1, g2, g3⟩ := l3Make_ok n (by omega) 6 (by omega) h1 hc1
  rw [e1, bnd_some]
  dsimp only
  rw [show ((6 : Nat) : Int) = 6 from rfl] at e2
  rw [e2, bnd_some]
  exact ⟨n, R, i2, h2, rfl, by omega, g1, g2, g3⟩
theorem l2Bent_ok {b : List Int} {i : Int} (h : Int) (hc : CurOk b i) : ∃ x i' h', N.spec_l2Bent b i h = some ((x, ()), (b, i', h', ()), ()) ∧ -9223372036854775808 ≤ x ∧ x ≤ 1000 ∧ CurOk b i' := by
  unfold N.spec_l2Bent
  obtain ⟨on, i1, h1, e1, hc1⟩ := l1Once_ok 8 h hc
  rw [e1, bnd_some]
  simp only [ifB_eq]
  cases on with
  | true =>
    obtain ⟨x, i2, h2, e2, hx, hc2⟩ := l1PickInt_ok [-1, 256, 1000, -9223372036854775808] (by simp) h1 hc1
    rw [if_pos rfl, e2, bnd_some]
    refine ⟨x, _, _, rfl, ?_, ?_, hc2⟩ <;> (simp at hx; omega)
  | false =>
    obtain ⟨x, i2, h2, e2, hx0, _, hx1, hc2⟩ := l1Below_ok 256 h1 hc1
    rw [if_neg (by simp), e2, bnd_some]
    exact ⟨x, _, _, rfl, by omega, by have := hx1 (by omega); omega, hc2⟩
/-- A context, or one that is bent a little. -/
def Bent (c : C) : Prop := c.2.length ≤ 20 ∧ -1 ≤ c.1 ∧ c.1 ≤ 7 ∧ ∀ r ∈ c.2, -9223372036854775808 ≤ r ∧ r ≤ 1000
theorem Ctx.bent {n : Nat} {R : List Nat} (h : Ctx n R) : Bent ((n : Int), zs R) := by
  have := h.n6; have hl := h.len
  refine ⟨by rw [zs_length]; omega, by simp only; omega, by simp only; omega, fun r hr => ?_⟩
  obtain ⟨x, hx, rfl⟩ := List.mem_map.1 hr
  have := h.row x hx; have := pow_le64 h.n6
  omega
theorem l3Bent_ok {b : List Int} {i : Int} (h : Int) (hc : CurOk b i) : ∃ (n : Int) (R : List Int) (i' h' : Int), N.spec_l3Bent b i h = some ((n, ()), (b, i', h', ()), R, ()) ∧ Bent (n, R) ∧ CurOk b i' := by
  unfold N.spec_l3Bent
  obtain ⟨n, R, i1, h1, e1, hn5, hx, hlen, hc1⟩ := l3Draw_ok h hc
  obtain ⟨t, i2, h2, e2, ht0, _, _, hc2⟩ := l1Below_ok 14 h1 hc1
  rw [e1, bnd_some]
  dsimp only
  rw [e2, bnd_some]
  simp only [ifB_eq, chk_eq, eqI_iff, fitL2_iff, zs_length, maxList_eq]
  have hbent := hx.bent
  by_cases t0 : t = 0
  · rw [if_pos t0]
    obtain ⟨x, i3, h3, e3, hm, hc3⟩ := l1PickInt_ok [-1, 0, 2, 7] (by simp) h2 hc2
    rw [e3, bnd_some]
    refine ⟨_, _, _, _, rfl, ⟨hbent.1, ?_, ?_, hbent.2.2.2⟩, hc3⟩ <;> (simp at hm; dsimp only; omega)
  · rw [if_neg t0]
    by_cases t1 : t = 1
    · rw [if_pos t1]
      obtain ⟨x, i3, h3, e3, g1, g2, hc3⟩ := l2Bent_ok h2 hc2
      rw [e3, bnd_some]
      rw [if_pos (by simp only [List.length_cons, List.length_nil]; omega)]
      refine ⟨_, _, _, _, rfl, ⟨?_, hbent.2.1, hbent.2.2.1, fun r hr => ?_⟩, hc3⟩
      · show (zs R ++ [x]).length ≤ 20
        rw [List.length_append, zs_length]; simp only [List.length_cons, List.length_nil]; omega
      · have hr : r ∈ zs R ++ [x] := hr
        rcases List.mem_append.1 hr with hr | hr
        · exact hbent.2.2.2 r hr
        · simp at hr; subst hr; omega
    · rw [if_neg t1]
      by_cases t2 : t = 2
      · rw [if_pos t2]
        have key : ∀ d (L : List Int), L.length + d = 9 → (∀ r ∈ L, -9223372036854775808 ≤ r ∧ r ≤ 1000) →
            ∃ L', iter (fun (y : Unit × ((List Int) × Int × Int × Unit) × (Int × Unit) × (List Int) × (Int × Unit) × (List Int) × Unit) => N.spec_l3Bent.l0 y.2.1.1 y.2.1.2.1 y.2.1.2.2.1 y.2.2.1.1 y.2.2.2.1 y.2.2.2.2.1.1 y.2.2.2.2.2.1) ((), (b, i2, h2, ()), (0, ()), [], ((n : Int), ()), L, ()) = some (((n : Int), ()), (b, i2, h2, ()), L', ()) ∧ L'.length = 9 ∧ ∀ r ∈ L', -9223372036854775808 ≤ r ∧ r ≤ 1000 := by
          intro d
          induction d with
          | zero =>
            intro L hL hr
            refine ⟨L, iter_done ?_, by omega, hr⟩
            simp only [E, N.spec_l3Bent.l0]; rw [if_neg (by omega)]
          | succ d ih =>
            intro L hL hr
            obtain ⟨L', e, g1, g2⟩ := ih (L ++ [0]) (by simp; omega) (fun r hm => by
              rcases List.mem_append.1 hm with hm | hm
              · exact hr r hm
              · simp at hm; subst hm; omega)
            refine ⟨L', (iter_step (f := fun (y : Unit × ((List Int) × Int × Int × Unit) × (Int × Unit) × (List Int) × (Int × Unit) × (List Int) × Unit) => N.spec_l3Bent.l0 y.2.1.1 y.2.1.2.1 y.2.1.2.2.1 y.2.2.1.1 y.2.2.2.1 y.2.2.2.2.1.1 y.2.2.2.2.2.1) ?_).trans e, g1, g2⟩
            simp only [E, N.spec_l3Bent.l0]; rw [if_pos (by omega), if_pos (by simp only [List.length_cons, List.length_nil]; omega)]
        obtain ⟨L', e, g1, g2⟩ := key (9 - R.length) (zs R) (by rw [zs_length]; omega) hbent.2.2.2
        exact ⟨_, _, _, _, e, ⟨by dsimp only; omega, hbent.2.1, hbent.2.2.1, g2⟩, hc2⟩
      · rw [if_neg t2]; exact ⟨_, _, _, _, rfl, hbent, hc2⟩
theorem l4Attributes_ok (b : List Int) (hb : b.length ≤ 1048576) : ∃ (n s : Int) (R : List Int), N.spec_l4Attributes b = some ((n, s, ()), R, ()) ∧ Bent (n, R) ∧ -9223372036854775808 ≤ s ∧ s ≤ 1000 := by
  unfold N.spec_l4Attributes
  obtain ⟨h0, e0⟩ := l1New_ok b hb
  have hc0 : CurOk b 0 := ⟨by omega, by omega, hb⟩
  obtain ⟨n, R, i1, h1, e1, hn5, hx, hlen, hc1⟩ := l3Draw_ok h0 hc0
  have hp := pow_le64 hx.n6
  have hpp := Nat.two_pow_pos n
  rw [e0, bnd_some]
  dsimp only
  rw [e1, bnd_some]
  simp only [ifB_eq, chk_eq, nonneg_iff, eqI_iff]
  rw [wrapK_u64 (by omega) (by omega), one_shl (by omega), if_pos (by omega)]
  obtain ⟨s, i2, h2, e2, hs0, _, hs1, hc2⟩ := l1Below_ok ((2 ^ n : Nat) : Int) h1 hc1
  rw [e2, bnd_some]
  have hs2 := hs1 (by omega)
  obtain ⟨t, i3, h3, e3, _, _, _, hc3⟩ := l1Below_ok 16 h2 hc2
  rw [e3, bnd_some]
  dsimp only
  by_cases t0 : t = 0
  · rw [if_pos t0]
    obtain ⟨n', R', i4, h4, e4, hb4, hc4⟩ := l3Bent_ok h3 hc3
    rw [e4, bnd_some]
    exact ⟨_, _, _, rfl, hb4, by omega, by omega⟩
  · rw [if_neg t0]
    by_cases t1 : t = 1
    · rw [if_pos t1]
      obtain ⟨x, i4, h4, e4, g1, g2, hc4⟩ := l2Bent_ok h3 hc3
      rw [e4, bnd_some]
      exact ⟨_, _, _, rfl, hx.bent, g1, g2⟩
    · rw [if_neg t1]; exact ⟨_, _, _, rfl, hx.bent, by omega, by omega⟩
end Go.CL
