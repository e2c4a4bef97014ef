/-
  Plain laws, part l: texts.
-/
import Derived.Test.YtholdngdcinbcaaCeZk
import Derived.Lib.ItoaNum
namespace Go.CL
set_option linter.all false
open Go Go.CE
set_option linter.unusedSimpArgs false
set_option linter.unusedVariables false

def tx (l : List UInt8) : ByteArray := ⟨l.toArray⟩
def zb (l : List UInt8) : List Int := l.map fun c => (c.toNat : Int)
@[simp] theorem tx_size (l : List UInt8) : (tx l).size = l.length := by simp [tx, ByteArray.size]
@[simp] theorem zb_length (l : List UInt8) : (zb l).length = l.length := by simp [zb]
theorem tx_append (l l' : List UInt8) : tx (l ++ l') = tx l ++ tx l' := by
  apply ByteArray.ext; simp [tx]
theorem tx_inj {l l' : List UInt8} (h : tx l = tx l') : l = l' := by
  have := congrArg (fun s : ByteArray => s.data.toList) h
  simpa [tx] using this
theorem tx_data (s : ByteArray) : tx s.data.toList = s := by cases s; simp [tx]
theorem exists_tx (s : ByteArray) : ∃ l, s = tx l := ⟨_, (tx_data s).symm⟩
theorem bs_eq (l : List Nat) : bs l = tx (l.map UInt8.ofNat) := rfl
theorem u8s_tx (l : List UInt8) : u8s (tx l) = zb l := by simp [u8s, tx, zb]
theorem s8_zb (l : List UInt8) : s8 (zb l) = tx l := by
  unfold s8 zb tx
  rw [List.map_map]
  congr 1
  conv => rhs; rw [← List.map_id l]
  congr 1
  apply List.map_congr_left
  intro c _
  simp
theorem zb_append (l l' : List UInt8) : zb (l ++ l') = zb l ++ zb l' := by simp [zb]
theorem tx_nil : tx [] = ⟨#[]⟩ := rfl
theorem cutS_tx (l : List UInt8) (i j : Nat) : cutS (tx l) (i : Int) (j : Int) = tx ((l.drop i).take (j - i)) := by
  apply ByteArray.ext
  simp [cutS, tx, ByteArray.data_extract]
theorem byteAt_tx (l : List UInt8) (i : Nat) : byteAt (tx l) (i : Int) = ((l.getD i 0).toNat : Int) := by simp [byteAt, tx]
theorem s8_one {n : Nat} (h : n < 256) : s8 [(n : Int)] = tx [UInt8.ofNat n] := by simp [s8, tx]
theorem tmod10 (n : Int) : (n.tmod 10 < 0 ∧ n.tmod 10 = -((n.natAbs % 10 : Nat) : Int)) ∨ (¬ n.tmod 10 < 0 ∧ n.tmod 10 = ((n.natAbs % 10 : Nat) : Int)) := by
  rcases Int.eq_nat_or_neg n with ⟨m, rfl | rfl⟩
  · right
    have e : ((m : Int)).tmod 10 = ((m % 10 : Nat) : Int) := rfl
    rw [e, Int.natAbs_natCast]; omega
  · have e : (-(m : Int)).tmod 10 = -((m % 10 : Nat) : Int) := by rw [Int.neg_tmod]; rfl
    rw [e, Int.natAbs_neg, Int.natAbs_natCast]; omega
theorem tdiv10 (n : Int) : n.tdiv 10 = ((n.natAbs / 10 : Nat) : Int) ∧ 0 ≤ n ∨ n.tdiv 10 = -((n.natAbs / 10 : Nat) : Int) ∧ n ≤ 0 := by
  rcases Int.eq_nat_or_neg n with ⟨m, rfl | rfl⟩
  · left; exact ⟨rfl, by omega⟩
  · right
    have e : (-(m : Int)).tdiv 10 = -((m / 10 : Nat) : Int) := by rw [Int.neg_tdiv]; rfl
    rw [e, Int.natAbs_neg, Int.natAbs_natCast]; omega
theorem formatInt_loop (b : Bool) : ∀ (k : Nat), k ≤ 30 → ∀ (n : Int) (d : List UInt8), n ≠ 0 → (b = decide (n < 0)) → -9223372036854775808 ≤ n → n ≤ 9223372036854775807 → n.natAbs < 10 ^ k → d.length + k ≤ 100 →
    ∀ fin, iter (fun (y : (Int × Bool × ByteArray × Unit) × Unit) => N.spec_FormatInt.l0 y.1.1 y.1.2.1 y.1.2.2.1) ((0, b, tx (Lib.decDigits n.natAbs ++ d), ()), ()) = fin →
    iter (fun (y : (Int × Bool × ByteArray × Unit) × Unit) => N.spec_FormatInt.l0 y.1.1 y.1.2.1 y.1.2.2.1) ((n, b, tx d, ()), ()) = fin
  | 0, _, n, d, h0, _, _, _, h, _, _, _ => by omega
  | k + 1, hk, n, d, h0, hb, h1, h2, h, hd, fin, hfin => by
    have hdig : (n.natAbs % 10) < 10 := Nat.mod_lt _ (by omega)
    have hdiv : (n.tdiv 10).natAbs = n.natAbs / 10 := by rw [Int.natAbs_tdiv]; rfl
    have hstep : N.spec_FormatInt.l0 n b (tx d) = some (.inl ((n.tdiv 10, b, tx (UInt8.ofNat (48 + n.natAbs % 10) :: d), ()), ())) := by
      have e2 : tx (UInt8.ofNat (48 + n.natAbs % 10) :: d) = tx [UInt8.ofNat (48 + n.natAbs % 10)] ++ tx d := by rw [← tx_append]; rfl
      have e3 : divI .i64 n 10 = n.tdiv 10 := by
        unfold divI; exact wrap_i64 (by omega) (by omega)
      have e4 : ((48 + n.natAbs % 10 : Nat) : Int) = 48 + ((n.natAbs % 10 : Nat) : Int) := by omega
      have e6 : wrapK .u8 ((48 + n.natAbs % 10 : Nat) : Int) = ((48 + n.natAbs % 10 : Nat) : Int) := wrap_u8 (by omega) (by omega)
      simp only [E, N.spec_FormatInt.l0, remI, e3, decide_false, decide_true, Bool.not_false, if_true, ne_eq, Int.reduceEq, not_false_eq_true]
      rw [if_pos h0]
      rcases tmod10 n with ⟨hneg, e5⟩ | ⟨hneg, e5⟩
      · rw [if_pos hneg, e5, subI_eq (by omega) (by omega), Int.zero_sub, Int.neg_neg, addI_eq (by omega) (by omega), ← e4, e6, s8_one (by omega), tx_size, tx_size]
        rw [if_pos (by simp only [List.length_cons, List.length_nil]; omega), e2]
      · rw [if_neg hneg, e5, addI_eq (by omega) (by omega), ← e4, e6, s8_one (by omega), tx_size, tx_size]
        rw [if_pos (by simp only [List.length_cons, List.length_nil]; omega), e2]
    rw [iter_step (f := fun (y : (Int × Bool × ByteArray × Unit) × Unit) => N.spec_FormatInt.l0 y.1.1 y.1.2.1 y.1.2.2.1) hstep]
    by_cases hlt : n.natAbs < 10
    · have e6 : n.tdiv 10 = 0 := by omega
      rw [e6]
      rw [Lib.decDigits, dif_pos hlt] at hfin
      rw [show n.natAbs % 10 = n.natAbs by omega]; exact hfin
    · have ht := tdiv10 n
      refine formatInt_loop b k (by omega) (n.tdiv 10) _ (by omega) (by rw [hb, decide_eq_decide]; omega) (by omega) (by omega) (by rw [hdiv]; rw [Nat.pow_succ] at h; omega) (by simp; omega) fin ?_
      rw [Lib.decDigits, dif_neg hlt] at hfin
      rw [hdiv]
      rw [List.append_assoc] at hfin; exact hfin
theorem spec_FormatInt_eq (n : Int) (h1 : -9223372036854775808 ≤ n) (h2 : n ≤ 9223372036854775807) : N.spec_FormatInt n = some ((tx (Lib.itoa n), ()), ()) := by
  unfold N.spec_FormatInt Lib.itoa
  simp only [E]
  by_cases h0 : n = 0
  · subst h0; rw [if_pos rfl, if_neg (by omega)]
    rw [show ((0 : Int).toNat) = 0 from rfl, Lib.decDigits, dif_pos (by omega)]; rfl
  · rw [if_neg h0]
    have hlen : (Lib.decDigits n.natAbs).length ≤ 30 := by
      have key : ∀ k u, u < 10 ^ (k + 1) → (Lib.decDigits u).length ≤ k + 1 := by
        intro k
        induction k with
        | zero => intro u hu; rw [Lib.decDigits, dif_pos (by omega)]; simp
        | succ k ih =>
          intro u hu
          rw [Lib.decDigits]
          split
          · simp
          · rw [List.length_append]; have := ih (u / 10) (by rw [Nat.pow_succ] at hu; omega); simp; omega
      exact key 29 _ (by have : n.natAbs ≤ 9223372036854775808 := by omega
                         omega)
    refine formatInt_loop (ltI n 0) 30 (by omega) n [] h0 rfl h1 h2 (by omega) (by simp) _ ?_
    rw [List.append_nil]
    refine iter_done ?_
    simp only [E, N.spec_FormatInt.l0]
    rw [if_neg (by simp)]
    refine toInr_of ?_
    by_cases hneg : n < 0
    · rw [if_pos hneg, if_pos (by simp [bs_eq]; omega), if_pos hneg, bs_eq, ← tx_append]; rfl
    · rw [if_neg hneg, if_neg hneg, show n.toNat = n.natAbs by omega]
end Go.CL
