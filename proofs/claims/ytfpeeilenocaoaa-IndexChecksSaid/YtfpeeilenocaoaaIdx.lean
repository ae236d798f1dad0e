/- The index: entries in memory (rows that are read, rows of one's own), and whether they may be one (Check). -/
import Derived.Test.YtfpeeilenocaoaaWireB
import Derived.Test.YtfpeeilenocaoaaCrcC
import Derived.Test.YtfpeeilenocaoaaFrame
import Derived.Sort.Walk0
namespace Go.Proofs.Ytfpeeilenocaoaa.Idx
open Go.RowKit Go.Proofs.Ytfpeeilenocaoaa.Own Go.Proofs.Ytfpeeilenocaoaa.Rely
attribute [local go_sem] max_ints min_ints

/-- An entry: its name's bytes, where it is, how many bytes it has. -/
abbrev Ent := List Int × Int × Int
def e0 : Ent := ([], 0, 0)
def entC (x : Ent) : List Value := [.string (strOfNums x.1), .int .i64 x.2.1, .int .i64 x.2.2]
/-- Entries that are read. -/
def ReadsE (w : World) (A : Option Addr) (l : List Ent) : Prop := ∀ i, i < l.length → ∃ b o, A = some ⟨b, o, none⟩ ∧ b < w.heap.size ∧ w.cell? ⟨b, o + i * 3, none⟩ = some (.string (strOfNums (l.getD i e0).1)) ∧
  w.cell? ⟨b, o + i * 3 + 1, none⟩ = some (.int .i64 (l.getD i e0).2.1) ∧ w.cell? ⟨b, o + i * 3 + 2, none⟩ = some (.int .i64 (l.getD i e0).2.2)
theorem ReadsE.ext {w w' : World} {A : Option Addr} {l : List Ent} (h : ReadsE w A l) (x : Ext w w') : ReadsE w' A l := by
  intro i hi
  obtain ⟨b, o, e, hb, h0, h1, h2⟩ := h i hi
  exact ⟨b, o, e, Nat.lt_of_lt_of_le hb x.size, x.cell h0, x.cell h1, x.cell h2⟩
theorem ReadsE.keep {w w' : World} {A : Option Addr} {l : List Ent} {S : Nat → Prop} (h : ReadsE w A l) (x : Keep S w w') (hA : ∀ a, A = some a → ¬ S a.block) : ReadsE w' A l := by
  intro i hi
  obtain ⟨b, o, e, hb, h0, h1, h2⟩ := h i hi
  have hs := hA _ e
  exact ⟨b, o, e, Nat.lt_of_lt_of_le hb x.size, x.cell h0 hs, x.cell h1 hs, x.cell h2 hs⟩
theorem ReadsE.take {w : World} {A : Option Addr} {l : List Ent} (h : ReadsE w A l) (n : Nat) : ReadsE w A (l.take n) := by
  intro i hi
  rw [List.length_take] at hi
  have hg : (l.take n).getD i e0 = l.getD i e0 := by
    rw [List.getD_eq_getElem?_getD, List.getD_eq_getElem?_getD, List.getElem?_take, if_pos (by omega)]
  rw [hg]
  exact h i (by omega)
/-- A row of entries that nobody else has. -/
def RowE (v : Value) (l : List Ent) : Asn := fun w S => w.ownsRow 0 55 3 v l.length (l.flatMap entC) ∧ ∀ b, S b ↔ v.ownBlock = some b
theorem Lcl.rowE (v : Value) (l : List Ent) : Lcl (RowE v l) where
  keep := by rintro w w' S ⟨h1, h2⟩ h; exact ⟨owns_keep h1 (fun b q => h b ((h2 b).2 q)), h2⟩
  lt := by rintro w S b ⟨h1, h2⟩ q; exact (h1.lt b ((h2 b).1 q)).2
theorem RowE.nil (w : World) : RowE (.slice none 0 0) [] w (fun _ => False) := ⟨World.ownsRow_nil w 0 _ 3, fun b => by simp [Value.ownBlock]⟩
theorem RowE.shape {v : Value} {l : List Ent} {w : World} {S : Nat → Prop} (h : RowE v l w S) : ∃ A c, v = .slice A l.length c ∧ l.length ≤ c ∧ c ≤ maxLen := by
  rcases h.1.2 with ⟨rfl, hn⟩ | ⟨g, cap, cur, rfl, _, _, hnc, hcm, _⟩
  · exact ⟨none, 0, by rw [hn], by omega, Nat.zero_le _⟩
  · exact ⟨_, cap, rfl, hnc, hcm⟩
theorem flat_len (l : List Ent) : (l.flatMap entC).length = l.length * 3 := by
  induction l with
  | nil => rfl
  | cons x l ih => simp only [List.flatMap_cons, List.length_append, ih, List.length_cons, entC, List.length_nil]; omega
theorem flat_at (l : List Ent) : ∀ i j, i < l.length → j < 3 → (l.flatMap entC)[i * 3 + j]? = (entC (l.getD i e0))[j]? := by
  induction l with
  | nil => intro i j hi _; exact absurd hi (Nat.not_lt_zero i)
  | cons x l ih =>
    intro i j hi hj
    have hl : (entC x).length = 3 := rfl
    cases i with
    | zero => rw [List.flatMap_cons, List.getElem?_append_left (by rw [hl]; omega)]; simp
    | succ i =>
      rw [List.flatMap_cons, List.getElem?_append_right (by rw [hl]; omega), hl, show (i + 1) * 3 + j - 3 = i * 3 + j by omega, ih i j (by simpa using hi) hj]
      simp
theorem RowE.reads {v : Value} {l : List Ent} {w : World} {S : Nat → Prop} (h : RowE v l w S) : ∃ A c, v = .slice A l.length c ∧ l.length ≤ c ∧ ReadsE w A l ∧ (∀ a, A = some a → S a.block) ∧ c ≤ 9223372036854775807 := by
  rcases h.1.2 with ⟨rfl, hn⟩ | ⟨g, cap, cur, rfl, _, hg, hnc, hcm, _⟩
  · exact ⟨none, 0, by rw [hn], by omega, fun i hi => absurd hi (by omega), fun a ha => (by cases ha), by omega⟩
  · refine ⟨_, cap, rfl, hnc, fun i hi => ?_, fun a ha => ?_, hcm⟩
    · have hl := h.1.lt g rfl
      have key : ∀ j u, (entC (l.getD i e0))[j]? = some u → j < 3 → w.cell? ⟨g, 0 + i * 3 + j, none⟩ = some u := by
        intro j u hu hj
        have hc := h.1.cells (g := g) rfl (i * 3 + j) u (by rw [flat_at l i j hi hj]; exact hu)
        rw [add_lit'] at hc
        rw [show 0 + i * 3 + j = 0 + (i * 3 + j) by omega]
        exact hc
      exact ⟨g, 0, rfl, hl.2, key 0 _ rfl (by omega), key 1 _ rfl (by omega), key 2 _ rfl (by omega)⟩
    · injection ha with ha
      subst ha
      exact (h.2 g).2 rfl

section
variable {P : Program} {ops : Array Oper} {rest : List Oper} {o : Oper} {a : Act} {Q : Exit → Act → World → Prop}
/-- append(x, e): the entry lies in a block that was just laid. -/
theorem append_ent (w : World) (hgd : o.guard = none) (s x : Operand) (t : TypeId) (ho : o.op = .call { callee := .builtin .append, args := #[s, x], argTypes := #[t, t] })
    (z : Value) (bytes : Nat) (ht : P.underlying t = some (.slice 55)) (hinfo : (P.info? 55).map (fun i => (i.zero, i.size, i.bytes)) = some (some z, 3, bytes)) (hzs : z.cells.size = 3)
    (v : Value) (l : List Ent) (y : Ent) {B : Asn} {S : Nat → Prop} (hs : a.eval s = v) (hx : a.eval x = .slice (some ⟨w.heap.size, 0, none⟩) 1 1)
    (hB : Lcl B) (h : Sep (RowE v l) B w S) (hl : (l.length + 1) * bytes ≤ 140737488355328) (hb0 : 0 < bytes)
    (K : ∀ A' c' w' S', Sep (RowE (.slice A' (l.length + 1) c') (l ++ [y])) B w' S' → Step S S' w w' → wpList P ops Q rest (a.put o.dst (.slice A' (l.length + 1) c')) w') : wpList P ops Q (o :: rest) a (w.alloc (.cells #[.string (strOfNums y.1), .int .i64 y.2.1, .int .i64 y.2.2] 55)) := by
  obtain ⟨i0, hi, hzz⟩ := Option.map_eq_some_iff.1 hinfo
  simp only [Prod.mk.injEq] at hzz
  obtain ⟨hz0, hz1, hz2⟩ := hzz
  have hlen : l.length + 1 ≤ 140737488355328 := Nat.le_trans (Nat.le_mul_of_pos_right _ hb0) hl
  have hloc : Lcl (Sep (RowE v l) B) := (Lcl.rowE v l).sep hB
  obtain ⟨w1, hw1⟩ : ∃ w1, w.alloc (.cells #[.string (strOfNums y.1), .int .i64 y.2.1, .int .i64 y.2.2] 55) = w1 := ⟨_, rfl⟩
  have hk : Step S S w w1 := by rw [← hw1]; exact ⟨(Keep.refl S w).alloc _, fun _ q => .inl q⟩
  have h' : Sep (RowE v l) B w1 S := by rw [← hw1]; exact hloc.keep h fun q hq => Below.heap_alloc _ _ _ (hloc.lt h hq)
  have hnb := heap_alloc_new w (.cells #[.string (strOfNums y.1), .int .i64 y.2.1, .int .i64 y.2.2] 55)
  rw [hw1] at hnb ⊢
  obtain ⟨S1, S2, h1, h2, d, q⟩ := h'
  have hnews : ∀ j u, (entC y)[j]? = some u → w1.cell? ((⟨w.heap.size, 0, none⟩ : Addr).add j) = some u := by
    intro j u hu
    rw [add_lit', cell_of_row _ _ _ _ _ _ hnb, Nat.zero_add]
    simpa [entC] using hu
  obtain ⟨v1, w2, hr1, h3, h4, h6, h5⟩ := run_append_own_at (P := P) w1 0 t o.type 55 i0 z 3 bytes ht hi hz0 hz1 hz2 hzs (by omega) v l.length (l.flatMap entC) h1.1 ⟨w.heap.size, 0, none⟩ 1 1 (entC y) (by rfl) hnews
    (by intro u hu; simp only [entC, List.mem_cons, List.not_mem_nil, or_false] at hu; rcases hu with rfl | rfl | rfl <;> rfl) (by simp only [maxLen]; omega) hl (Nat.zero_le _)
  have hrow : RowE v1 (l ++ [y]) w2 (fun b => v1.ownBlock = some b) := by
    refine ⟨?_, fun _ => Iff.rfl⟩
    rw [List.flatMap_append, List.length_append]
    simpa using h3
  have hst : Step S1 (fun b => v1.ownBlock = some b) w1 w2 := ⟨(Keep.refl S1 w1).grown h4 (fun q hq _ => (h1.2 q).2 hq), fun q hq => by
    rcases h5 with h5 | h5
    · exact .inl ((h1.2 q).2 (h5 ▸ hq))
    · rw [h5] at hq
      injection hq with hq
      exact .inr (by omega)⟩
  obtain ⟨A', c', rfl, _⟩ := hrow.shape
  rw [List.length_append] at hrow hst
  have hst2 := Sep.step hB (A' := RowE (.slice A' (l.length + 1) c') (l ++ [y])) h2 d hrow hst
  have hS : S = fun k => S1 k ∨ S2 k := funext fun k => propext (q k)
  subst hS
  refine wpList_plain hgd fun K' hK => ?_
  unfold Oper.wp execOp
  simp only [ho, resolve, invoke, builtin, Sem.run_bind, Sem.run_pure, Result.andThen_ok, List.map_toArray, List.map_cons, List.map_nil, hs, hx, hr1]
  rw [List.length_append]
  exact hK _ _ (K A' c' w2 _ hst2.1 (hk.trans hst2.2))
end
theorem info_ent : (Try.prog.info? 55).map (fun i => (i.zero, i.size, i.bytes)) = some (some (.agg #[.string ⟨#[]⟩, .int .i64 0, .int .i64 0]), 3, 32) := by kernel_rfl

/-! ### names in order -/
def less (a b : List Int) : Bool := Op.bytesLess (strOfNums a).toList (strOfNums b).toList
theorem less_iff (a b : List Int) : less a b = true ↔ (strOfNums a).toList < (strOfNums b).toList := by
  unfold less
  rw [bytesLess_eq]
  simp
theorem less_irrefl (a : List Int) : less a a = false := by
  cases h : less a a with
  | false => rfl
  | true => exact absurd ((less_iff a a).1 h) (List.lt_irrefl _)
theorem less_trans {a b c : List Int} (h : less a b = true) (k : less b c = true) : less a c = true := (less_iff _ _).2 (List.lt_trans ((less_iff _ _).1 h) ((less_iff _ _).1 k))
theorem less_total {a b : List Int} (ha : IsBytes a) (hb : IsBytes b) (h : less a b = false) (k : less b a = false) : a = b := by
  refine str_inj ha hb ?_
  have h1 : ¬ (strOfNums a).toList < (strOfNums b).toList := fun x => by rw [(less_iff a b).2 x] at h; cases h
  have h2 : ¬ (strOfNums b).toList < (strOfNums a).toList := fun x => by rw [(less_iff b a).2 x] at k; cases k
  exact List.le_antisymm (by simpa using h2) (by simpa using h1)
theorem leq_less (a b : List UInt8) : (Op.bytesLess a b || a == b) = !Op.bytesLess b a := by
  rw [bytesLess_eq, bytesLess_eq]
  by_cases h1 : a < b
  · have h2 : ¬ b < a := fun h => List.lt_irrefl _ (List.lt_trans h1 h)
    simp [h1, h2]
  · by_cases h2 : b < a
    · have h3 : ¬ a = b := fun h => by subst h; exact h1 h2
      simp [h1, h2, h3]
    · have h3 : a = b := List.le_antisymm (by simpa using h2) (by simpa using h1)
      simp [h1, h2, h3]
end Go.Proofs.Ytfpeeilenocaoaa.Idx
