/- More of my library: rows that are read, made, appended to, written. It speaks of no program. -/
import Derived.Test.YthemincohmgihaaOwn
import Derived.Maps.AppendAt
import Derived.Laws.MakeOwn
import Derived.ChangeSlices
import Derived.Laws.BytesArg
namespace Go.Proofs.Ythemincohmgihaa.Own
open Go.RowKit

/-- Bounds under a name: a walk does not bear their numbers. -/
def U64 (n : Nat) : Prop := n < 18446744073709551616
def U32 (n : Nat) : Prop := n < 4294967296
theorem U64.lt {n : Nat} (h : U64 n) : n < 18446744073709551616 := h
theorem U32.lt {n : Nat} (h : U32 n) : n < 4294967296 := h
theorem add_lit (g j : Nat) : (⟨g, 0, none⟩ : Addr).add j = ⟨g, j, none⟩ := by unfold Addr.add; split <;> simp_all
theorem add_lit' (g o j : Nat) : (⟨g, o, none⟩ : Addr).add j = ⟨g, o + j, none⟩ := by unfold Addr.add; split <;> simp_all

theorem Row.nil (e : TypeId) (k : IntKind) (w : World) : Row e k (.slice none 0 0) [] w (fun _ => False) := ⟨World.ownsRow_nil w 0 e 1, fun b => by simp [Value.ownBlock]⟩
theorem Row.sepEmp {e : TypeId} {k : IntKind} {v : Value} {xs : List Int} {w : World} {S : Nat → Prop} (h : Row e k v xs w S) : Sep (Row e k v xs) Emp w S := Sep.emp_right h
theorem Row.shape {e : TypeId} {k : IntKind} {v : Value} {xs : List Int} {w : World} {S : Nat → Prop} (h : Row e k v xs w S) : ∃ A c, v = .slice A xs.length c ∧ xs.length ≤ c ∧ c ≤ maxLen := by
  rcases h.1.2 with ⟨rfl, h0⟩ | ⟨g, cap, cur, rfl, _, _, hn, hm, _⟩
  · exact ⟨none, 0, by rw [h0], by omega, by simp [maxLen]⟩
  · exact ⟨_, cap, rfl, hn, hm⟩
/-- What is had can be read. -/
theorem Row.reads {e : TypeId} {k : IntKind} {v : Value} {xs : List Int} {w : World} {S : Nat → Prop} (h : Row e k v xs w S) : ∃ A c, v = .slice A xs.length c ∧ xs.length ≤ c ∧ Reads w k A xs ∧ ∀ a, A = some a → S a.block := by
  rcases h.1.2 with ⟨rfl, h0⟩ | ⟨g, cap, cur, rfl, _, hg, hn, hm, _⟩
  · refine ⟨none, 0, by rw [h0], by omega, fun i hi => by omega, fun a q => by cases q⟩
  · refine ⟨_, cap, rfl, hn, fun i hi => ⟨g, 0, rfl, (Array.getElem?_eq_some_iff.1 hg).1, ?_⟩, fun a q => by injection q with q; subst q; exact (h.2 g).2 rfl⟩
    have := h.1.cells (g := g) rfl i (.int k (xs.getD i 0)) (by simp [hi, List.getElem?_eq_getElem])
    rw [add_lit] at this
    rw [Nat.zero_add]; exact this
theorem Row.bound {e : TypeId} {k : IntKind} {v : Value} {xs : List Int} {w : World} {S : Nat → Prop} (h : Row e k v xs w S) : xs.length ≤ 9223372036854775807 := by
  obtain ⟨A, c, _, h1, h2⟩ := h.shape
  simp only [maxLen] at h2; omega
/-- A row that is not empty lies at the head of a block of its own. -/
theorem Row.form {e : TypeId} {k : IntKind} {v : Value} {xs : List Int} {w : World} {S : Nat → Prop} (h : Row e k v xs w S) (hx : 0 < xs.length) : ∃ g cap, v = .slice (some ⟨g, 0, none⟩) xs.length cap ∧ (∀ b, S b ↔ b = g) ∧ g < w.heap.size := by
  rcases h.1.2 with ⟨rfl, h0⟩ | ⟨g, cap, cur, rfl, _, hg, hn, hm, _⟩
  · omega
  · exact ⟨g, cap, rfl, fun b => by rw [h.2 b]; simp [Value.ownBlock, eq_comm], (Array.getElem?_eq_some_iff.1 hg).1⟩
theorem Row.cell {e : TypeId} {k : IntKind} {g n cap : Nat} {xs : List Int} {w : World} {S : Nat → Prop} (h : Row e k (.slice (some ⟨g, 0, none⟩) n cap) xs w S) {i : Nat} (hi : i < xs.length) :
    w.cell? ⟨g, i, none⟩ = some (.int k (xs.getD i 0)) := by
  have := h.1.cells (g := g) rfl i (.int k (xs.getD i 0)) (by simp [hi, List.getElem?_eq_getElem])
  rwa [add_lit] at this
theorem Row.readsAt {e : TypeId} {k : IntKind} {g n cap : Nat} {xs : List Int} {w : World} {S : Nat → Prop} (h : Row e k (.slice (some ⟨g, 0, none⟩) n cap) xs w S) : Reads w k (some ⟨g, 0, none⟩) xs := by
  obtain ⟨A, c, q, _, hr, _⟩ := h.reads
  injection q with q
  rw [q]; exact hr
theorem Reads.take {w : World} {k : IntKind} {A : Option Addr} {xs : List Int} (h : Reads w k A xs) (n : Nat) : Reads w k A (xs.take n) := by
  intro i hi
  rw [List.length_take] at hi
  obtain ⟨b, o, q, hb, hc⟩ := h i (by omega)
  refine ⟨b, o, q, hb, ?_⟩
  rw [hc]
  simp [List.getD_eq_getElem?_getD, List.getElem?_take, show i < n by omega]
theorem Row.free {e : TypeId} {k : IntKind} {g n cap : Nat} {xs : List Int} {w : World} {S : Nat → Prop} (h : Row e k (.slice (some ⟨g, 0, none⟩) n cap) xs w S) (i : Nat) : w.frozen? ⟨g, i, none⟩ = false := by
  rcases h.1.2 with ⟨h', _⟩ | ⟨g', cap', cur, h', _, hh, _⟩
  · cases h'
  · have : g = g' := by injection h' with h'; injection h' with h'; injection h' with h'
    subst this
    exact frozen_of_row w g i cur e hh
theorem Row.set {e : TypeId} {k : IntKind} {g n cap : Nat} {xs : List Int} {w : World} {S : Nat → Prop} (h : Row e k (.slice (some ⟨g, 0, none⟩) n cap) xs w S) (i : Nat) (x : Int) :
    Row e k (.slice (some ⟨g, 0, none⟩) n cap) (xs.set i x) (w.setCell ⟨g, i, none⟩ (.int k x)) S ∧ Step S S w (w.setCell ⟨g, i, none⟩ (.int k x)) := by
  have hn : n = xs.length := by
    obtain ⟨A, c, q, _⟩ := h.shape
    injection q
  subst hn
  have hs := World.ownsRow.stored h.1 i (.int k x)
  refine ⟨⟨?_, h.2⟩, (Keep.refl S w).setCell (fun _ => (h.2 g).2 rfl) _, fun _ q => .inl q⟩
  have := hs.1
  rw [← List.map_set] at this
  rwa [List.length_set]
/-- A literal. -/
theorem Row.lit (e : TypeId) (k : IntKind) (xs : List Int) (w : World) (hm : xs.length ≤ 9223372036854775807) :
    Row e k (.slice (some ⟨w.heap.size, 0, none⟩) xs.length xs.length) xs (w.alloc (.cells (xs.map (Value.int k)).toArray e)) (fun b => b = w.heap.size) := by
  refine ⟨?_, fun b => by simp [Value.ownBlock, eq_comm]⟩
  have h := World.ownsRow_lit (base := 0) (e := e) (size := 1) w (xs.map (Value.int k)).toArray xs.length (Nat.zero_le _) (by simpa [maxLen] using hm) (by simp)
  simpa using h
/-- make([]T, m). -/
theorem Row.made (e : TypeId) (k : IntKind) (m : Nat) (w : World) (hm : m ≤ 9223372036854775807) :
    Row e k (.slice (some ⟨w.heap.size, 0, none⟩) m m) (List.replicate m 0) (w.alloc (.cells (madeCells #[.int k 0] m) e)) (fun b => b = w.heap.size) := by
  refine ⟨?_, fun b => by simp [Value.ownBlock, eq_comm]⟩
  have h := World.ownsRow_lit (base := 0) (e := e) (size := 1) w (madeCells #[.int k 0] m) m (Nat.zero_le _) (by simpa [maxLen] using hm) (by simp [size_madeCells])
  have hl : (madeCells #[Value.int k 0] m).toList = (List.replicate m (0 : Int)).map (Value.int k) := by
    apply List.ext_getElem
    · simp [madeCells]
    · intro i h1 h2
      simp [madeCells, Nat.mod_one]
  rw [hl] at h
  simpa using h

theorem Blk.reads {b : Nat} {t : TypeId} {k : IntKind} {xs : List Int} {cs : Array Value} {w : World} {S : Nat → Prop} (h : Blk b cs t w S) (hcs : cs = (xs.map (Value.int k)).toArray) : Reads w k (some ⟨b, 0, none⟩) xs := by
  subst hcs
  intro i hi
  refine ⟨b, 0, rfl, (Array.getElem?_eq_some_iff.1 h.1).1, ?_⟩
  rw [Nat.zero_add, h.cell i]
  simp [hi, List.getD_eq_getElem?_getD]
/-- An empty literal, beside what there is. -/
theorem sepEmpty {A : Asn} (hA : Lcl A) {w : World} {S : Nat → Prop} (h : A w S) (e : TypeId) (k : IntKind) :
    Sep (Row e k (.slice (some ⟨w.heap.size, 0, none⟩) 0 0) []) A (w.alloc (.cells #[] e)) (fun b => b = w.heap.size ∨ S b) ∧ Step S (fun b => b = w.heap.size ∨ S b) w (w.alloc (.cells #[] e)) := by
  have h1 := Row.lit e k [] w (by simp)
  have h2 := Sep.alloc hA h #[] e
  refine ⟨⟨_, S, h1, hA.keep h (fun q hq => Below.heap_alloc _ _ _ (hA.lt h hq)), fun q x y => ?_, fun _ => Iff.rfl⟩, h2.2⟩
  have := hA.lt h y
  omega

/-- make([]T, m), beside what there is. -/
theorem sepMade {A : Asn} (hA : Lcl A) {w : World} {S : Nat → Prop} (h : A w S) (e : TypeId) (k : IntKind) (m : Nat) (hm : m ≤ 9223372036854775807) :
    Sep (Row e k (.slice (some ⟨w.heap.size, 0, none⟩) m m) (List.replicate m 0)) A (w.alloc (.cells (madeCells #[.int k 0] m) e)) (fun b => b = w.heap.size ∨ S b) ∧ Step S (fun b => b = w.heap.size ∨ S b) w (w.alloc (.cells (madeCells #[.int k 0] m) e)) := by
  have h1 := Row.made e k m w hm
  have h2 := Sep.alloc hA h (madeCells #[.int k 0] m) e
  refine ⟨⟨_, S, h1, hA.keep h (fun q hq => Below.heap_alloc _ _ _ (hA.lt h hq)), fun q x y => ?_, fun _ => Iff.rfl⟩, h2.2⟩
  have := hA.lt h y
  omega
theorem sepSet {e : TypeId} {k : IntKind} {g n cap : Nat} {xs : List Int} {B : Asn} (hB : Lcl B) {w : World} {S : Nat → Prop} (h : Sep (Row e k (.slice (some ⟨g, 0, none⟩) n cap) xs) B w S) (i : Nat) (x : Int) :
    Sep (Row e k (.slice (some ⟨g, 0, none⟩) n cap) (xs.set i x)) B (w.setCell ⟨g, i, none⟩ (.int k x)) S ∧ Step S S w (w.setCell ⟨g, i, none⟩ (.int k x)) := by
  obtain ⟨S1, S2, a, b, d, q⟩ := h
  have hs := Row.set a i x
  have h2 := Sep.step hB (A' := Row e k (.slice (some ⟨g, 0, none⟩) n cap) (xs.set i x)) b d hs.1 hs.2
  have hS : S = fun k => S1 k ∨ S2 k := funext fun k => propext (q k)
  rw [hS]
  exact h2
theorem Lcl.drew {A : Asn} (hA : Lcl A) {w : World} {S : Nat → Prop} (h : A w S) : A w.drew S := hA.keep h fun _ _ => rfl
theorem Step.drew {S S' : Nat → Prop} {w w' : World} (h : Step S S' w w') : Step S S' w w'.drew := ⟨h.keep.drew, h.fresh⟩

section
variable {P : Program}
/-- append's run: some value has the row, with what was read behind it. -/
theorem run_append (w : World) (t ty e : TypeId) (k : IntKind) (bytes : Nat) (ht : P.underlying t = some (.slice e)) (hinfo : (P.info? e).map (fun i => (i.zero, i.size, i.bytes)) = some (some (.int k 0), 1, bytes)) (hb0 : 0 < bytes)
    (v : Value) (xs ys : List Int) (S : Nat → Prop) (A : Option Addr) (c : Nat) (h : Row e k v xs w S) (hr : Reads w k A ys) (hl : (xs.length + ys.length) * bytes ≤ 140737488355328) :
    ∃ v' w' S', (Builtin.append_ #[t, t] ty #[v, .slice A ys.length c]).run P w = .ok v' w' ∧ Row e k v' (xs ++ ys) w' S' ∧ Step S S' w w' := by
  obtain ⟨i0, hi, hzz⟩ := Option.map_eq_some_iff.1 hinfo
  simp only [Prod.mk.injEq] at hzz
  obtain ⟨hz0, hz1, hz2⟩ := hzz
  have hlen : xs.length + ys.length ≤ 140737488355328 := Nat.le_trans (Nat.le_mul_of_pos_right _ hb0) hl
  by_cases hy : ys.length = 0
  · obtain rfl : ys = [] := List.eq_nil_of_length_eq_zero hy
    refine ⟨v, w, S, ?_, by simpa using h, Step.refl _ _⟩
    rcases h.1.2 with ⟨rfl, hn⟩ | ⟨g, cap, cur, rfl, _, _, hnc, _⟩
    · cases A <;> simp [Builtin.append_, run_underlying ht, sizeOf, typeInfo, hi, Builtin.lenOf, Builtin.firstCells, loadCells, loadCellsFrom]
    · cases A <;> simp [Builtin.append_, run_underlying ht, sizeOf, typeInfo, hi, Builtin.lenOf, Builtin.firstCells, hnc, storeCells, loadCells, loadCellsFrom]
  · obtain ⟨b, o, rfl, _, _⟩ := hr 0 (by omega)
    have hcells : ∀ j u, (ys.map (Value.int k))[j]? = some u → w.cell? ((⟨b, o, none⟩ : Addr).add j) = some u := by
      intro j u hu
      have hj : j < ys.length := by
        rcases Nat.lt_or_ge j ys.length with h | h
        · exact h
        · simp [List.getElem?_eq_none h] at hu
      obtain ⟨b', o', q, _, hc⟩ := hr j hj
      injection q with q
      injection q with q1 q2 q3
      subst q1 q2
      rw [add_lit', hc]
      simp [List.getElem?_eq_getElem hj] at hu
      rw [← hu]
      simp [List.getD_eq_getElem?_getD, List.getElem?_eq_getElem hj]
    obtain ⟨v1, w1, hr1, h2, h3, _, h5⟩ := run_append_own_at (P := P) w 0 t ty e i0 (.int k 0) 1 bytes ht hi hz0 hz1 hz2 rfl (by omega) v xs.length (xs.map (Value.int k)) h.1 ⟨b, o, none⟩ ys.length c (ys.map (Value.int k)) (by simp) hcells
      (by intro u hu; simp only [List.mem_map] at hu; obtain ⟨q, _, rfl⟩ := hu; rfl) (by simp only [maxLen]; omega) hl (Nat.zero_le _)
    refine ⟨v1, w1, fun b => v1.ownBlock = some b, hr1, ⟨by simpa using h2, fun _ => Iff.rfl⟩, ⟨(Keep.refl S w).grown h3 (fun q hq _ => (h.2 q).2 hq), fun q hq => ?_⟩⟩
    rcases h5 with h5 | h5
    · exact .inl ((h.2 q).2 (h5 ▸ hq))
    · rw [h5] at hq
      injection hq with hq
      exact .inr (by omega)

variable {ops : Array Oper} {rest : List Oper} {o : Oper} {a : Act} {Q : Exit → Act → World → Prop}
theorem append_row (w : World) (hgd : o.guard = none) (s x : Operand) (t : TypeId) (ho : o.op = .call { callee := .builtin .append, args := #[s, x], argTypes := #[t, t] })
    (e : TypeId) (k : IntKind) (bytes : Nat) (ht : P.underlying t = some (.slice e)) (hinfo : (P.info? e).map (fun i => (i.zero, i.size, i.bytes)) = some (some (.int k 0), 1, bytes)) (hb0 : 0 < bytes)
    (v : Value) (xs ys : List Int) {B : Asn} {S : Nat → Prop} (A : Option Addr) (m c : Nat) (hs : a.eval s = v) (hx : a.eval x = .slice A m c) (hm : m = ys.length)
    (hB : Lcl B) (h : Sep (Row e k v xs) B w S) (hr : Reads w k A ys) (hl : (xs.length + ys.length) * bytes ≤ 140737488355328)
    (K : ∀ A' c' w' S', Sep (Row e k (.slice A' (xs.length + m) c') (xs ++ ys)) B w' S' → Step S S' w w' → wpList P ops Q rest (a.put o.dst (.slice A' (xs.length + m) c')) w') : wpList P ops Q (o :: rest) a w := by
  subst hm
  obtain ⟨S1, S2, h1, h2, d, q⟩ := h
  obtain ⟨v', w', S1', hrun, hrow, hst⟩ := run_append (P := P) w t o.type e k bytes ht hinfo hb0 v xs ys S1 A c h1 hr hl
  obtain ⟨A', c', rfl, _⟩ := hrow.shape
  rw [List.length_append] at hrow
  have hst2 := Sep.step hB (A' := Row e k (.slice A' (xs.length + ys.length) c') (xs ++ ys)) h2 d hrow hst
  have hS : S = fun k => S1 k ∨ S2 k := funext fun k => propext (q k)
  subst hS
  refine wpList_plain hgd fun K' hK => ?_
  unfold Oper.wp execOp
  simp only [ho, resolve, invoke, builtin, Sem.run_bind, Sem.run_pure, Result.andThen_ok, List.map_toArray, List.map_cons, List.map_nil, hs, hx, hrun]
  rw [List.length_append]
  exact hK _ _ (K A' c' w' _ hst2.1 hst2.2)

/-- append(s, y, ..): what is appended lies in a block that was just laid. -/
theorem append_lit (w : World) {cs : Array Value} (e : TypeId) (hgd : o.guard = none) (s x : Operand) (t : TypeId) (ho : o.op = .call { callee := .builtin .append, args := #[s, x], argTypes := #[t, t] })
    (k : IntKind) (bytes : Nat) (ht : P.underlying t = some (.slice e)) (hinfo : (P.info? e).map (fun i => (i.zero, i.size, i.bytes)) = some (some (.int k 0), 1, bytes)) (hb0 : 0 < bytes)
    (v : Value) (xs ys : List Int) {B : Asn} {S : Nat → Prop} (m c : Nat) (hs : a.eval s = v) (hx : a.eval x = .slice (some ⟨w.heap.size, 0, none⟩) m c) (hm : m = ys.length) (hcs : cs = (ys.map (Value.int k)).toArray)
    (hB : Lcl B) (h : Sep (Row e k v xs) B w S) (hl : (xs.length + ys.length) * bytes ≤ 140737488355328)
    (K : ∀ A' c' w' S', Sep (Row e k (.slice A' (xs.length + m) c') (xs ++ ys)) B w' S' → Step S S' w w' → wpList P ops Q rest (a.put o.dst (.slice A' (xs.length + m) c')) w') : wpList P ops Q (o :: rest) a (w.alloc (.cells cs e)) := by
  subst hcs
  have hloc : Lcl (Sep (Row e k v xs) B) := (Lcl.row e k v xs).sep hB
  have hk : Step S S w (w.alloc (.cells (ys.map (Value.int k)).toArray e)) := ⟨(Keep.refl S w).alloc _, fun _ q => .inl q⟩
  have h' : Sep (Row e k v xs) B (w.alloc (.cells (ys.map (Value.int k)).toArray e)) S := hloc.keep h fun q hq => Below.heap_alloc _ _ _ (hloc.lt h hq)
  refine append_row (P := P) _ hgd s x t ho e k bytes ht hinfo hb0 v xs ys _ m c hs hx hm hB h' (fun i hi => ⟨w.heap.size, 0, rfl, by simp, ?_⟩) hl fun A' c' w' S' h1 h2 => K A' c' w' S' h1 (hk.trans h2)
  rw [cell_of_row _ _ _ _ _ _ (heap_alloc_new w _), Nat.zero_add]
  simp [hi, List.getD_eq_getElem?_getD]
end

/-! ### what comes in -/
theorem Reads.later {w w' : World} {k : IntKind} {A : Option Addr} {xs : List Int} (h : Reads w k A xs) (hb : Below w.heap.size w w') : Reads w' k A xs := by
  intro i hi
  obtain ⟨b, o, rfl, h1, h2⟩ := h i hi
  exact ⟨b, o, rfl, Nat.lt_of_lt_of_le h1 hb.size, (hb.cell (p := ⟨b, o + i, none⟩) h1).trans h2⟩
/-- A slice of whole numbers that came in. -/
structure ArgI (w : World) (k : IntKind) (A : Option Addr) (c : Nat) (xs : List Int) : Prop where
  reads : Reads w k A xs
  le : xs.length ≤ c
  cap : c ≤ maxLen
  rng : ∀ x ∈ xs, (Lit.int k x).wf = true
theorem ArgI.at {w : World} {k : IntKind} {A : Option Addr} {c : Nat} {xs : List Int} (h : ArgI w k A c xs) {i : Nat} (hi : i < xs.length) : (Lit.int k (xs.getD i 0)).wf = true :=
  h.rng _ (by simp [List.getD_eq_getElem?_getD, List.getElem?_eq_getElem hi])
theorem wf_i64 {a : Int} (h : (Lit.int .i64 a).wf = true) : -9223372036854775808 ≤ a ∧ a ≤ 9223372036854775807 := by
  have h' : (decide (-9223372036854775808 ≤ a) && decide (a ≤ 9223372036854775807)) = true := h
  simpa using h'
theorem wf_u8 {a : Int} (h : (Lit.int .u8 a).wf = true) : 0 ≤ a ∧ a ≤ 255 := by
  have h' : (decide (0 ≤ a) && decide (a ≤ 255)) = true := h
  simpa using h'
theorem wf_u16 {a : Int} (h : (Lit.int .u16 a).wf = true) : 0 ≤ a ∧ a ≤ 65535 := by
  have h' : (decide (0 ≤ a) && decide (a ≤ 65535)) = true := h
  simpa using h'
theorem wf_u32 {a : Int} (h : (Lit.int .u32 a).wf = true) : 0 ≤ a ∧ a ≤ 4294967295 := by
  have h' : (decide (0 ≤ a) && decide (a ≤ 4294967295)) = true := h
  simpa using h'
theorem wf_u64 {a : Int} (h : (Lit.int .u64 a).wf = true) : 0 ≤ a ∧ a ≤ 18446744073709551615 := by
  have h' : (decide (0 ≤ a) && decide (a ≤ 18446744073709551615)) = true := h
  simpa using h'
theorem argI_of {H : Type} {enc : TypeId × Value → H} {P : Program} {W : World} {t e : TypeId} {k : IntKind} {A : Option Addr} {len cap : Nat} {d : DataW H} {p : List MemPlace}
    (ht : P.underlying t = some (.slice e)) (he : P.underlying e = some (.int k)) (hc : P.cellsOf e = 1) (h : DataW.Trod enc P W 0 (fun _ => true) true t (.slice A len cap) d p) :
    ∃ xs : List Int, len = xs.length ∧ ArgI W k A cap xs := by
  obtain ⟨fuel, hf⟩ := h
  rcases ChangeShapes.open_ints ht he hc hf with ⟨hcs, _⟩ | ⟨x, l, c, zs, hcs, _, hl, hm, hz, _, hcell, hwz⟩
  · simp [Value.cells] at hcs
    obtain ⟨rfl, rfl, rfl⟩ := hcs
    exact ⟨[], rfl, fun i hi => absurd hi (Nat.not_lt_zero i), Nat.le_refl _, Nat.zero_le _, fun x hx => by cases hx⟩
  · simp [Value.cells] at hcs
    obtain ⟨rfl, rfl, rfl⟩ := hcs
    have hz' : zs.length = cap := by simpa using hz
    refine ⟨zs.take len, by simp; omega, fun i hi => ?_, by simp; omega, hm, fun y hy => hwz y (List.mem_of_mem_take hy)⟩
    have hi' : i < len ∧ i < zs.length := by
      have h9 := hi
      rw [List.length_take] at h9
      omega
    have hci := hcell i hi'.2
    rcases x with ⟨b, o, s⟩
    cases s with
    | some q =>
      have h0 := hcell 0 (by omega)
      have e0 : (⟨b, o, some q⟩ : Addr).add 0 = ⟨b, o, some q⟩ := by unfold Addr.add; rfl
      rw [e0] at h0
      unfold World.cell? at h0
      split at h0
      · cases h0
      · cases h0
    | none =>
      rw [add_lit'] at hci
      have hlt : b < W.heap.size := World.block_lt_of_cell? W ⟨b, o + i, none⟩ hci
      refine ⟨b, o, rfl, hlt, ?_⟩
      rw [hci]
      simp [List.getD_eq_getElem?_getD, List.getElem?_take, hi'.1]

/-! ### bytes and strings -/
theorem Reads.string {P : Program} {w : World} {A : Option Addr} {xs : List Int} (h : Reads w .u8 A xs) {src e dst : TypeId} (hs : P.underlying src = some (.slice e)) (he : P.underlying e = some (.int .u8)) (hd : P.underlying dst = some .string) (c : Nat) :
    (convert src dst (.slice A xs.length c)).run P w = .ok (.string (strOfNums xs)) w := by
  by_cases hx : xs.length = 0
  · obtain rfl : xs = [] := List.eq_nil_of_length_eq_zero hx
    cases A with
    | none => exact run_convert_bytes_nil w src e hs he 0 c dst hd
    | some a => rw [List.length_nil, run_convert_bytes_string w src dst e _ 0 c hs he hd]; simp [Conv.bytesToString, loadCells, loadCellsFrom, strOfNums]; rfl
  · obtain ⟨b, o, rfl, _, _⟩ := h 0 (by omega)
    refine run_convert_bytes_arg w src e hs he b o xs.length c xs rfl (fun i hi => ?_) dst hd
    obtain ⟨b', o', q, _, hc⟩ := h i hi
    injection q with q
    injection q with q1 q2 q3
    subst q1 q2
    exact hc
/-- Bytes. -/
def IsBytes (xs : List Int) : Prop := ∀ x ∈ xs, 0 ≤ x ∧ x ≤ 255
theorem strOfNums_toList (xs : List Int) : (strOfNums xs).toList = xs.map fun n => UInt8.ofNat n.toNat := by
  rw [ByteArray.toList_eq]
  rfl
theorem byte_inj {a b : Int} (ha : 0 ≤ a ∧ a ≤ 255) (hb : 0 ≤ b ∧ b ≤ 255) (h : UInt8.ofNat a.toNat = UInt8.ofNat b.toNat) : a = b := by
  have := congrArg UInt8.toNat h
  simp only [UInt8.toNat_ofNat'] at this
  omega
/-- Two strings of bytes are the same just if the bytes are. -/
theorem str_inj {xs ys : List Int} (hx : IsBytes xs) (hy : IsBytes ys) (h : (strOfNums xs).toList = (strOfNums ys).toList) : xs = ys := by
  rw [strOfNums_toList, strOfNums_toList] at h
  induction xs generalizing ys with
  | nil => cases ys with
    | nil => rfl
    | cons y ys => simp at h
  | cons x xs ih => cases ys with
    | nil => simp at h
    | cons y ys =>
      simp only [List.map_cons, List.cons.injEq] at h
      rw [byte_inj (hx x (by simp)) (hy y (by simp)) h.1, ih (fun z hz => hx z (by simp [hz])) (fun z hz => hy z (by simp [hz])) h.2]
theorem str_eq {xs ys : List Int} (h : xs = ys) : ((strOfNums xs).toList == (strOfNums ys).toList) = true := by rw [h]; exact beq_self_eq_true _
theorem str_ne {xs ys : List Int} (hx : IsBytes xs) (hy : IsBytes ys) (h : xs ≠ ys) : ((strOfNums xs).toList == (strOfNums ys).toList) = false := by
  rw [beq_eq_false_iff_ne]
  exact fun q => h (str_inj hx hy q)

end Go.Proofs.Ythemincohmgihaa.Own
