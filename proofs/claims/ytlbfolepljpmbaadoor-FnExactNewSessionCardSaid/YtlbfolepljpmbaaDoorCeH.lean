/-
  A computed evaluator over the model's code, part H: append.
-/
import Derived.Test.YtlbfolepljpmbaaDoorCeG
namespace Go.CE
set_option linter.all false
set_option linter.unusedSectionVars false
open Go Go.RowKit
variable [Tab]
set_option linter.unusedVariables false
set_option linter.unusedSimpArgs false

section
variable {P : Program} {Own F M : Nat → Prop} {μ : Mu} {hf : AHeap} {w : World}

/-- A slice value whose array is a whole block of ours, from its begin on. -/
def Row (w : World) (e : TypeId) (size : Nat) (v : Value) (n : Nat) (xs : List Value) (g cap : Nat) (cur : Array Value) : Prop :=
  v = .slice (some ⟨g, 0, none⟩) n cap ∧ w.heap[g]? = some (.cells cur e (0, 0)) ∧ n ≤ cap ∧ cap ≤ maxLen ∧ cur.size = cap * size ∧ cur.toList.take (n * size) = xs
theorem run_append_gen {t u ty e : TypeId} {te : TI} (hte : TEnt P e te) (ht : P.underlying t = some (.slice e)) {du : TypeDesc} (hu : P.underlying u = some du) (hdu : ∀ k, du ≠ .int k) {v x : Value} {n m : Nat} {xs news : List Value}
    (hv : (v = .slice none 0 0 ∧ n = 0 ∧ xs = []) ∨ ∃ g cap cur, Row w e te.sz v n xs g cap cur) (hxl : xs.length = n * te.sz) (hl : news.length = m * te.sz)
    (hx1 : ∀ w', (Builtin.lenOf x).run P w' = .ok m w') (hx2 : (Builtin.firstCells te.sz m x).run P w = .ok news.toArray w) (hx3 : (Builtin.firstCells te.sz m x).run P w.drew = .ok news.toArray w.drew)
    (h1 : ∀ u ∈ news, u.oneCell' = true) (hb : n + m ≤ maxList) (hby : te.bytes ≤ 256) :
    ∃ v' w', (Builtin.append_ #[t, u] ty #[v, x]).run P w = .ok v' w' ∧
      ((v = .slice none 0 0 ∧ v' = .slice none 0 0 ∧ w' = w ∧ n = 0 ∧ m = 0) ∨
       (∃ g cap cur cur', Row w e te.sz v n xs g cap cur ∧ v' = .slice (some ⟨g, 0, none⟩) (n + m) cap ∧ w' = w.setRow g cur' ∧ cur'.size = cur.size ∧ n + m ≤ cap ∧ cur'.toList.take ((n + m) * te.sz) = xs ++ news) ∨
       (∃ cap cur', v' = .slice (some ⟨w.heap.size, 0, none⟩) (n + m) cap ∧ w' = w.drew.alloc (.cells cur' e) ∧ n + m ≤ cap ∧ cap ≤ maxLen ∧ cur'.size = cap * te.sz ∧ cur'.toList.take ((n + m) * te.sz) = xs ++ news)) := by
  obtain ⟨i, hi, hs, hbt, hz⟩ := hte.info
  have hzu : (match du with | .int _ => true | _ => false) = false := by cases du <;> first | rfl | exact (hdu _ rfl).elim
  have hmax : maxList ≤ maxLen := by unfold maxList maxLen; omega
  have hbytes : (n + m) * te.bytes ≤ 140737488355328 := by
    have : (n + m) * te.bytes ≤ maxList * 256 := Nat.mul_le_mul hb hby
    unfold maxList at this; omega
  have h63 : ¬ (((n + m : Nat) : Int) > IntKind.i64.max) := by
    have e : IntKind.i64.max = 9223372036854775807 := rfl
    rw [e]; unfold maxList at hb; omega
  have hcap : ∀ old, n + m ≤ grownCap w (n + m) old e ∧ grownCap w (n + m) old e ≤ maxLen := fun old => ⟨grownCap_ge _ _ _ _, grownCap_le_maxLen _ _ _ _ (by omega)⟩
  have hsize : ∀ old, ((xs.toArray ++ news.toArray ++ Builtin.zeroCells te.zero.cells (grownCap w (n + m) old e - (n + m))) : Array Value).size = grownCap w (n + m) old e * te.sz := fun old => by
    have := (hcap old).1
    rw [Array.size_append, Array.size_append, size_zeroCells, hte.zsz, List.size_toArray, List.size_toArray, hxl, hl, ← Nat.add_mul, ← Nat.add_mul]
    congr 1; omega
  have htake : ∀ old, ((xs.toArray ++ news.toArray ++ Builtin.zeroCells te.zero.cells (grownCap w (n + m) old e - (n + m))) : Array Value).toList.take ((n + m) * te.sz) = xs ++ news := fun old => by
    have e2 : (n + m) * te.sz = (xs ++ news).length := by rw [List.length_append, hxl, hl, Nat.add_mul]
    rw [Array.toList_append, Array.toList_append, e2]
    exact List.take_left
  have grow : ∀ (old : Nat), n + m > old → (v = .slice none 0 0 ∧ n = 0 ∧ old = 0 ∨ ∃ g cur, v = .slice (some ⟨g, 0, none⟩) n old ∧ w.heap[g]? = some (.cells cur e (0, 0)) ∧ cur.toList.take (n * te.sz) = xs) →
      (Builtin.append_ #[t, u] ty #[v, x]).run P w = .ok (.slice (some ⟨w.heap.size, 0, none⟩) (n + m) (grownCap w (n + m) old e))
        (w.drew.alloc (.cells (xs.toArray ++ news.toArray ++ Builtin.zeroCells te.zero.cells (grownCap w (n + m) old e - (n + m))) e)) := by
    intro old hold hvv
    have h48 : ¬ (Builtin.nextslicecap (n + m) old * te.bytes > 2 ^ 48) := by
      have := growslice_fits (by omega : old < n + m) hbytes
      omega
    have hfo : (Builtin.firstCells te.sz n v).run P w.drew = .ok xs.toArray w.drew := by
      rcases hvv with ⟨rfl, rfl, _⟩ | ⟨g, cur, rfl, hg, ht'⟩
      · have : xs = [] := List.eq_nil_of_length_eq_zero (by simpa using hxl)
        subst this; rfl
      · refine run_firstCells_some w.drew te.sz n ⟨g, 0, none⟩ n old xs hxl fun j u hj => ?_
        rw [add_lit, Nat.zero_add]
        show w.cell? _ = _
        rw [cell_of_row w g j cur e (0, 0) hg]
        rw [← ht', List.getElem?_take] at hj
        split at hj
        · simpa using hj
        · cases hj
    have hneed : ¬ (n + m ≤ old) := by omega
    have key : ∀ base, v = .slice base n old → (Builtin.append_ #[t, u] ty #[v, x]).run P w = .ok (.slice (some ⟨w.heap.size, 0, none⟩) (n + m) (grownCap w (n + m) old e))
        (w.drew.alloc (.cells (xs.toArray ++ news.toArray ++ Builtin.zeroCells te.zero.cells (grownCap w (n + m) old e - (n + m))) e)) := by
      rintro base rfl
      have hz2 : (zeroValue e).run P w.drew = .ok te.zero w.drew := run_zeroT hte _
      have ht2 : ∀ w, (typeInfo e).run P w = .ok i w := fun w => by simp [typeInfo, hi]
      have h63' : ¬ (9223372036854775807 < (n : Int) + (m : Int)) := by unfold maxList at hb; omega
      have h48' : ¬ (281474976710656 < Builtin.nextslicecap (n + m) old * te.bytes) := by omega
      unfold Builtin.append_
      simp [run_underlying ht, run_underlying hu, run_sizeOfT hte, hx1, hneed, ht2, hbt, h63', h48', Question.forced, hfo, hx3, hz2, newRow, grownCap]
      cases du <;> first
        | exact (hdu _ rfl).elim
        | (congr 2; apply Array.ext'; simp)
    rcases hvv with ⟨rfl, rfl, rfl⟩ | ⟨g, cur, rfl, hg, ht'⟩
    · exact key none rfl
    · exact key _ rfl
  rcases hv with ⟨rfl, rfl, rfl⟩ | ⟨g, cap, cur, rfl, hg, hnc, hcm, hcs, htk⟩
  · by_cases hm : m = 0
    · subst hm
      have : news = [] := List.eq_nil_of_length_eq_zero (by simpa using hl)
      subst this
      refine ⟨.slice none 0 0, w, ?_, .inl ⟨rfl, rfl, rfl, rfl, rfl⟩⟩
      have ht2 : ∀ w, (typeInfo e).run P w = .ok i w := fun w => by simp [typeInfo, hi]
      unfold Builtin.append_
      simp [run_underlying ht, run_underlying hu, run_sizeOfT hte, hx1, ht2, hx2]
    · exact ⟨_, _, grow 0 (by omega) (.inl ⟨rfl, rfl, rfl⟩), .inr (.inr ⟨_, _, rfl, rfl, (hcap 0).1, (hcap 0).2, hsize 0, htake 0⟩)⟩
  · by_cases hroom : n + m ≤ cap
    · have hfit : n * te.sz + 0 + news.length ≤ cur.size := by
        rw [hl, hcs, Nat.add_zero, ← Nat.add_mul]; exact Nat.mul_le_mul_right _ hroom
      have hst := run_storeCells_at P g (n * te.sz) e news 0 cur w hg hfit h1
      simp only [Nat.add_zero] at hst
      refine ⟨.slice (some ⟨g, 0, none⟩) (n + m) cap, w.setRow g (List.take (n * te.sz) cur.toList ++ news ++ List.drop (n * te.sz + news.length) cur.toList).toArray, ?_, .inr (.inl ⟨g, cap, cur, (List.take (n * te.sz) cur.toList ++ news ++ List.drop (n * te.sz + news.length) cur.toList).toArray, ⟨rfl, hg, hnc, hcm, hcs, htk⟩, rfl, rfl, ?_, hroom, ?_⟩)⟩
      · have ht2 : ∀ w, (typeInfo e).run P w = .ok i w := fun w => by simp [typeInfo, hi]
        unfold Builtin.append_
        simp [run_underlying ht, run_underlying hu, run_sizeOfT hte, hx1, ht2, hx2, hroom, add_lit, hst]
      · simp at hfit ⊢; omega
      · have e2 : (n + m) * te.sz = (cur.toList.take (n * te.sz) ++ news).length := by rw [htk, List.length_append, hxl, hl, Nat.add_mul]
        rw [List.toList_toArray, e2, htk]
        exact List.take_left
    · exact ⟨_, _, grow cap (by omega) (.inr ⟨g, cur, rfl, hg, htk⟩), .inr (.inr ⟨_, _, rfl, rfl, (hcap cap).1, (hcap cap).2, hsize cap, htake cap⟩)⟩

/-- An object may go; a new one comes, at number n: in a new block, or in the block of the one that has gone, or in none. -/
theorem Post.repl {n : Nat} {kill : Option Nat} {o : AObj} {nb : Option Nat} {av : AV} {v : Value} {w' : World} (H : HRel P Own F M μ hf w) (hown : ∀ b, w.heap.size ≤ b → Own b)
    (hM : ∀ id, n ≤ id → id < n + 16 → ¬ M id) (hos : w'.os = w.os) (htape : w'.tape = w.tape) (hout : w'.output = w.output) (hsz : w.heap.size ≤ w'.heap.size)
    (hkill : ∀ k, kill = some k → ∃ ok, hf k = some ok) (hblk : ∀ b, b < w.heap.size → (∀ k, kill = some k → μ k ≠ some b) → w'.heap[b]? = w.heap[b]?) (hcap : ∀ b m, CapOk w b m → CapOk w' b m)
    (hnb : ∀ b, nb = some b → b < w'.heap.size ∧ (w.heap.size ≤ b ∨ ∃ k, kill = some k ∧ μ k = some b)) {c : Chg} (hc : c = (kill.map fun k => (k, none)).toList ++ [(n, some o)])
    (hob : ∀ μ', μ' n = nb → (∀ id, M id → μ' id = μ id) → Later F F M (more M n) μ μ' hf (hf.puts c) w w' → objRel P F (more M n) μ' (hf.puts c) w' n o)
    (hav : ∀ μ', μ' n = nb → (∀ id, M id → μ' id = μ id) → Later F F M (more M n) μ μ' hf (hf.puts c) w w' → (hf.puts c) n = some o → avRel P F (more M n) μ' (hf.puts c) w' av v) :
    ∃ F' μ', Post P Own F M μ hf w n c av v w' F' μ' := by
  have hn : ¬ M n := hM n (Nat.le_refl _) (by omega)
  have hkn : ∀ k, kill = some k → k ≠ n := fun k hk e => by obtain ⟨ok, h⟩ := hkill k hk; exact hn (e ▸ H.mem k ok h)
  let μ' : Mu := fun id => if id = n then nb else μ id
  have hμn : μ' n = nb := if_pos rfl
  have hμ : ∀ id, M id → μ' id = μ id := fun id hi => if_neg fun (e : id = n) => hn (by rw [← e]; exact hi)
  have hputn : (hf.puts c) n = some o := by subst hc; cases kill <;> simp [AHeap.puts, AHeap.put]
  have hputk : ∀ k, kill = some k → (hf.puts c) k = none := fun k hk => by subst hc; subst hk; simp [AHeap.puts, AHeap.put, hkn k rfl]
  have hputo : ∀ id, id ≠ n → (∀ k, kill = some k → id ≠ k) → (hf.puts c) id = hf id := fun id h1 h2 => by
    subst hc
    cases kill with
    | none => simp [AHeap.puts, AHeap.put, h1]
    | some k => simp [AHeap.puts, AHeap.put, h1, h2 k rfl]
  have hkF : ∀ k b, kill = some k → μ k = some b → ¬ F b ∧ Own b := fun k b hk hb => by obtain ⟨ok, h⟩ := hkill k hk; exact ⟨(H.own k ok b h hb).2.2, (H.own k ok b h hb).2.1⟩
  have hL : Later F F M (more M n) μ μ' hf (hf.puts c) w w' := by
    refine ⟨⟨hsz, fun b hb => hblk b (H.closed.1 b hb) fun k hk hm => (hkF k b hk hm).1 hb⟩, fun _ h => h, more_sub, fun id o' hi ho => ?_, hcap⟩
    have h1 : id ≠ n := fun e => hn (e ▸ hi)
    have h2 : ∀ k, kill = some k → id ≠ k := fun k hk e => by subst e; rw [hputk id hk] at ho; cases ho
    rw [hputo id h1 h2] at ho
    exact ⟨o', ho, o'.alike_refl, hμ id hi⟩
  refine ⟨F, μ', fun _ h => .inl h, hμ, ⟨hos, htape, hout, hsz, fun b hb => ?_⟩, hL, ?_, hav μ' hμn hμ hL hputn⟩
  · by_cases hlt : b < w.heap.size
    · exact hblk b hlt fun k hk hm => hb (hkF k b hk hm).2
    · exact (hb (hown b (by omega))).elim
  refine H.step (fun id => id = n ∨ kill = some id) hL (H.closed.next hL.ext (fun _ h => h) fun b hb => Nat.lt_of_lt_of_le (H.closed.1 b hb) hsz) (fun _ h => .inl h) hsz (fun id ob hd ho => ?_) (fun id ob b hd ho hm => ?_) (fun id ob hd ho => ?_)
  · have h1 : id ≠ n := fun e => hd (.inl e)
    have h2 : ∀ k, kill = some k → id ≠ k := fun k hk e => hd (.inr (e ▸ hk))
    rwa [hputo id h1 h2] at ho
  · have h1 : id ≠ n := fun e => hd (.inl e)
    have h2 : ∀ k, kill = some k → id ≠ k := fun k hk e => hd (.inr (e ▸ hk))
    rw [hputo id h1 h2] at ho
    refine hblk b (H.own id ob b ho hm).1 fun k hk hmk => ?_
    obtain ⟨ok, h⟩ := hkill k hk
    exact h2 k hk (H.inj id k ob ok b ho h hm hmk)
  · rcases hd with rfl | hk
    · rw [hputn] at ho; injection ho with ho; subst ho
      refine ⟨.inr ⟨Nat.le_refl _, by omega⟩, hob μ' hμn hμ hL, fun b hm => ?_⟩
      rw [hμn] at hm
      obtain ⟨g1, g2⟩ := hnb b hm
      refine ⟨g1, ?_, ?_, fun id2 o2 h2 hm2 => ?_⟩
      · rcases g2 with g2 | ⟨k, hk, hkb⟩
        · exact hown b g2
        · exact (hkF k b hk hkb).2
      · rcases g2 with g2 | ⟨k, hk, hkb⟩
        · exact fun hF => absurd (H.closed.1 b hF) (by omega)
        · exact (hkF k b hk hkb).1
      · by_cases e : id2 = id
        · exact e
        · exfalso
          have e2 : ∀ k, kill = some k → id2 ≠ k := fun k hk e => by subst e; rw [hputk id2 hk] at h2; cases h2
          rw [hputo id2 e e2] at h2
          have hm2' : μ id2 = some b := by rw [← hμ id2 (H.mem _ _ h2)]; exact hm2
          rcases g2 with g2 | ⟨k, hk, hkb⟩
          · have := (H.own id2 o2 b h2 hm2').1; omega
          · obtain ⟨ok, h⟩ := hkill k hk
            exact e2 k hk (H.inj id2 k o2 ok b h2 h hm2' hkb)
    · rw [hputk id hk] at ho; cases ho

theorem capOk_setRow {b g : Nat} {cur cur' : Array Value} {e : TypeId} (hg : w.heap[g]? = some (.cells cur e (0, 0))) (hs : cur'.size = cur.size) : ∀ m, CapOk w b m → CapOk (w.setRow g cur') b m := fun m hc => by
  by_cases hb : b = g
  · subst hb
    obtain ⟨vs, e2, h1, h2⟩ := hc
    rw [hg] at h1; injection h1 with h1; injection h1 with e3 e4 _; subst e3 e4
    exact ⟨cur', e, setRow_heap w b cur cur' e _ hg, hs.trans h2⟩
  · exact CapOk.of_eq (setRow_other w g b cur' hb) hc
theorem below_drewAlloc (w : World) (o : Obj) : Below w.heap.size w (w.drew.alloc o) := ((Below.refl _ _).drew).alloc (Nat.le_refl _) o

/-- What append does to a slice of ours (or to a nil one). -/
theorem append_post {t u ty e : TypeId} {te : TI} (hte : TEnt P e te) (ht : P.underlying t = some (.slice e)) {du : TypeDesc} (hu : P.underlying u = some du) (hdu : ∀ k, du ≠ .int k) {et : Ty} (hsz : te.sz = et.sz) (hby : te.bytes ≤ 256)
    {n : Nat} {kill : Option Nat} {l l2 : List et.den} {v x : Value} {news : List Value} (H : HRel P Own F M μ hf w) (hown : ∀ b, w.heap.size ≤ b → Own b) (hM : ∀ id, n ≤ id → id < n + 16 → ¬ M id)
    (hk : match kill with | none => v = .slice none 0 0 ∧ l = [] | some id => hf id = some (.arr e et l) ∧ alRel P F M μ hf w (.sl et id) v)
    (hx1 : ∀ w', (Builtin.lenOf x).run P w' = .ok l2.length w') (hx2 : (Builtin.firstCells te.sz l2.length x).run P w = .ok news.toArray w) (hx3 : (Builtin.firstCells te.sz l2.length x).run P w.drew = .ok news.toArray w.drew)
    (hnews : RdAll (rd P et F w) l2 news) (hb : l.length + l2.length ≤ maxList) :
    ∃ v' w', (Builtin.append_ #[t, u] ty #[v, x]).run P w = .ok v' w' ∧ ∃ F' μ', Post P Own F M μ hf w n ((kill.map fun k => (k, none)).toList ++ [(n, some (.arr e et (l ++ l2)))]) (.v (.lf (.sl et n))) v' w' F' μ' := by
  have hone : ∀ {l : List et.den} {vs : List Value}, RdAll (rd P et F w) l vs → ∀ u ∈ vs, u.oneCell' = true := by
    intro l
    induction l with
    | nil => intro vs r u hu; cases r; cases hu
    | cons y l ih =>
      rintro vs ⟨a, r, rfl, h1, h2⟩ u hu
      rcases List.mem_append.1 hu with hu | hu
      · exact rd_one h1 u hu
      · exact ih h2 u hu
  have hlenA : ∀ {l : List et.den} {vs : List Value}, RdAll (rd P et F w) l vs → vs.length = l.length * te.sz := fun r => hsz ▸ r.length fun _ _ r => rd_len r
  -- the slice as a row
  have hv : ∃ xs, RdAll (rd P et F w) l xs ∧ ((v = .slice none 0 0 ∧ l.length = 0 ∧ xs = [] ∧ ∀ id, kill = some id → μ id = none) ∨ ∃ id g cap cur, kill = some id ∧ μ id = some g ∧ Row w e te.sz v l.length xs g cap cur) := by
    cases kill with
    | none => obtain ⟨rfl, rfl⟩ := hk; exact ⟨[], rfl, .inl ⟨rfl, rfl, rfl, fun _ h => by cases h⟩⟩
    | some id =>
      obtain ⟨h1, _, _, h2⟩ := hk
      rcases h2 _ _ h1 with ⟨g1, g2, g3⟩ | ⟨b, cap, g1, g2, g3, g4, vs, e2, g5, g6⟩
      · subst g2; exact ⟨[], rfl, .inl ⟨g3, rfl, rfl, fun k hk => by injection hk with hk; subst hk; exact g1⟩⟩
      · rcases H.obj id _ h1 with ⟨f1, f2⟩ | ⟨b', cur, cs, f1, f2, f3, f4⟩
        · rw [g1] at f1; cases f1
        · rw [g1] at f1; injection f1 with f1; subst f1
          rw [f2] at g5; injection g5 with g5; injection g5 with g7 g8 _; subst g7 g8
          exact ⟨cs, f3, .inr ⟨id, b, cap, cur, rfl, g1, g2, f2, g3, g4, by rw [g6, hsz], by rw [hsz, f4]⟩⟩
  obtain ⟨xs, hxs, hv⟩ := hv
  obtain ⟨v', w', hrun, hres⟩ := run_append_gen (P := P) (w := w) (ty := ty) hte ht hu hdu (v := v) (x := x) (n := l.length) (m := l2.length) (xs := xs) (news := news)
    (hv.imp (fun h => ⟨h.1, h.2.1, h.2.2.1⟩) (fun ⟨_, g, cap, cur, _, _, r⟩ => ⟨g, cap, cur, r⟩)) (hlenA hxs) (hlenA hnews) hx1 hx2 hx3 (hone hnews) hb hby
  have hkill : ∀ k, kill = some k → ∃ ok, hf k = some ok := fun k hk' => by subst hk'; exact ⟨_, hk.1⟩
  have hall := hxs.append hnews
  refine ⟨v', w', hrun, ?_⟩
  rcases hres with ⟨h1, h2, h3, h4, h5⟩ | ⟨g, cap, cur, cur', h1, h2, h3, h4, h5, h6⟩ | ⟨cap, cur', h2, h3, h4, h5, h6, h7⟩
  · have hl1 : l = [] := List.eq_nil_of_length_eq_zero h4
    have hl2 : l2 = [] := List.eq_nil_of_length_eq_zero h5
    subst h3 h2 hl1 hl2
    refine Post.repl (nb := none) H hown hM rfl rfl rfl (Nat.le_refl _) hkill (fun _ _ _ => rfl) (fun _ _ h => h) (fun _ h => by cases h) rfl ?_ ?_
    · intro μ' hn _ _; exact .inl ⟨hn, rfl⟩
    · intro μ' hn _ hL hp
      exact ⟨.inr ⟨Nat.le_refl _, by omega⟩, rfl, fun e' l' hl' => by rw [hp] at hl'; injection hl' with hl'; injection hl' with _ _ hl'; exact .inl ⟨hn, by simpa using hl'.symm, rfl⟩⟩
  · have hv' : ∃ id, kill = some id ∧ μ id = some g := by
      rcases hv with ⟨e1, _⟩ | ⟨id, g', cap', cur'', e1, e2, r⟩
      · rw [h1.1] at e1; cases e1
      · have e3 := r.1.symm.trans h1.1; injection e3 with e3 _ _; injection e3 with e3; injection e3 with e3 _ _; subst e3; exact ⟨id, e1, e2⟩
    obtain ⟨id, hki, hmi⟩ := hv'
    subst h3 h2
    have hg := h1.2.1
    have hlt : g < w.heap.size := (Array.getElem?_eq_some_iff.1 hg).1
    have hsw : (w.setRow g cur').heap.size = w.heap.size := by simp [World.setRow]
    refine Post.repl (w' := w.setRow g cur') (nb := some g) H hown hM rfl rfl rfl (by omega) hkill (fun b hb hne => setRow_other w g b cur' fun e => hne id hki (e ▸ hmi)) (fun b m hc => capOk_setRow hg h4 m hc)
      (fun b hb => by injection hb with hb; subst hb; exact ⟨by omega, .inr ⟨id, hki, hmi⟩⟩) rfl ?_ ?_
    · intro μ' hn _ hL
      refine .inr ⟨g, cur', _, hn, setRow_heap w g cur cur' e _ hg, hall.mono fun _ _ r => rd_mono r hL.ext hL.sub, ?_⟩
      rw [List.length_append, ← hsz]; exact h6
    · intro μ' hn _ hL hp
      refine ⟨.inr ⟨Nat.le_refl _, by omega⟩, rfl, fun e' l' hl' => ?_⟩
      rw [hp] at hl'; injection hl' with hl'; injection hl' with _ _ hl'; cases hl'
      exact .inr ⟨g, cap, hn, by rw [List.length_append], by rw [List.length_append]; exact h5, h1.2.2.2.1, cur', e, setRow_heap w g cur cur' e _ hg, by rw [h4, h1.2.2.2.2.1, hsz]⟩
  · subst h3 h2
    have hbel := below_drewAlloc w (.cells cur' e)
    have hnew : (w.drew.alloc (.cells cur' e)).heap[w.heap.size]? = some (.cells cur' e) := heap_alloc_new w.drew _
    refine Post.repl (nb := some w.heap.size) H hown hM hbel.os hbel.tape hbel.output hbel.size hkill (fun b hb _ => hbel.block b hb) (fun b m hc => CapOk.of_below hbel hc)
      (fun b hb => by injection hb with hb; subst hb; exact ⟨by simp, .inl (Nat.le_refl _)⟩) rfl ?_ ?_
    · intro μ' hn _ hL
      refine .inr ⟨_, cur', _, hn, hnew, hall.mono fun _ _ r => rd_mono r hL.ext hL.sub, ?_⟩
      rw [List.length_append, ← hsz]; exact h7
    · intro μ' hn _ hL hp
      refine ⟨.inr ⟨Nat.le_refl _, by omega⟩, rfl, fun e' l' hl' => ?_⟩
      rw [hp] at hl'; injection hl' with hl'; injection hl' with _ _ hl'; cases hl'
      exact .inr ⟨_, cap, hn, by rw [List.length_append], by rw [List.length_append]; exact h4, h5, cur', e, hnew, by rw [h6, hsz]⟩
end
end Go.CE
