/- A small library of mine: what a piece of memory holds, with the set of its blocks; what a step leaves as it was; two pieces that lie apart. It speaks of no program. -/
import Derived.WalkKit
import Derived.Below
import Derived.KernelRfl
import Derived.RowKit3
import Derived.WideLaws
import Derived.WalkLawsBesides
import Derived.WalkSpells
import Derived.Lib.Hide
import Derived.Laws.OwnMore
import Derived.Laws.Rows
import Derived.OwnWalk
import Derived.ArgAppend
namespace Go.Proofs.Ythemincohmgihaa.Own
open Go.RowKit

/-- Outside the set S the step from w to w' leaves all as it was. -/
structure Keep (S : Nat → Prop) (w w' : World) : Prop where
  os : w'.os = w.os
  tape : w'.tape = w.tape
  output : w'.output = w.output
  size : w.heap.size ≤ w'.heap.size
  block : ∀ k, k < w.heap.size → ¬ S k → w'.heap[k]? = w.heap[k]?

theorem Keep.refl (S : Nat → Prop) (w : World) : Keep S w w := ⟨rfl, rfl, rfl, Nat.le_refl _, fun _ _ _ => rfl⟩
theorem Keep.trans {S S' T : Nat → Prop} {a b c : World} (h : Keep S a b) (k : Keep S' b c) (h1 : ∀ x, x < a.heap.size → S x → T x) (h2 : ∀ x, x < a.heap.size → S' x → T x) : Keep T a c :=
  ⟨k.os.trans h.os, k.tape.trans h.tape, k.output.trans h.output, Nat.le_trans h.size k.size, fun x hx hn =>
    (k.block x (Nat.lt_of_lt_of_le hx h.size) (fun q => hn (h2 x hx q))).trans (h.block x hx (fun q => hn (h1 x hx q)))⟩
theorem Keep.mono {S T : Nat → Prop} {a b : World} (h : Keep S a b) (h1 : ∀ x, x < a.heap.size → S x → T x) : Keep T a b :=
  ⟨h.os, h.tape, h.output, h.size, fun x hx hn => h.block x hx (fun q => hn (h1 x hx q))⟩
theorem Keep.drewN {S : Nat → Prop} {a b : World} (h : Keep S a b) (n : Nat) : Keep S a (b.drewN n) := ⟨h.os, h.tape, h.output, h.size, h.block⟩
theorem Keep.drew {S : Nat → Prop} {a b : World} (h : Keep S a b) : Keep S a b.drew := ⟨h.os, h.tape, h.output, h.size, h.block⟩
theorem Keep.alloc {S : Nat → Prop} {a b : World} (h : Keep S a b) (o : Obj) : Keep S a (b.alloc o) :=
  ⟨h.os, h.tape, h.output, by have := h.size; simp; omega, fun x hx hn => by
    have := h.size
    rw [Below.heap_alloc _ _ _ (by omega)]; exact h.block x hx hn⟩
theorem Keep.setCell {S : Nat → Prop} {a b : World} (h : Keep S a b) {p : Addr} (hp : p.block < a.heap.size → S p.block) (v : Value) : Keep S a (b.setCell p v) :=
  ⟨h.os, h.tape, h.output, by have := h.size; simpa [World.setCell] using this, fun x hx hn => by
    rw [Below.heap_setCell _ _ _ _ (fun e => hn (by subst e; exact hp hx))]; exact h.block x hx hn⟩
theorem Keep.grown {S : Nat → Prop} {a b c : World} {row : Option Nat} (h : Keep S a b) (hg : b.grownBy c row) (hr : ∀ k, row = some k → k < a.heap.size → S k) : Keep S a c :=
  ⟨hg.os.trans h.os, hg.tape.trans h.tape, hg.output.trans h.output, Nat.le_trans h.size hg.size, fun x hx hn =>
    (hg.block x (Nat.lt_of_lt_of_le hx h.size) (fun e => hn (hr x e.symm hx))).trans (h.block x hx hn)⟩
theorem Keep.below {S : Nat → Prop} {w w' : World} (h : Keep S w w') {B : Nat} (hB : B ≤ w.heap.size) (hS : ∀ k, k < B → ¬ S k) : Below B w w' :=
  ⟨h.os, h.tape, h.output, h.size, fun k hk => h.block k (Nat.lt_of_lt_of_le hk hB) (hS k hk)⟩
theorem Keep.of_below {S : Nat → Prop} {w w' : World} (h : Below w.heap.size w w') : Keep S w w' := ⟨h.os, h.tape, h.output, h.size, fun k hk _ => h.block k hk⟩
theorem Keep.cell {S : Nat → Prop} {w w' : World} (h : Keep S w w') {a : Addr} {v : Value} (hc : w.cell? a = some v) (hn : ¬ S a.block) : w'.cell? a = some v :=
  (World.cell?_of_block (h.block a.block (World.block_lt_of_cell? w a hc) hn)).trans hc
theorem Keep.blk {S : Nat → Prop} {w w' : World} (h : Keep S w w') {b : Nat} {o : Obj} (hc : w.heap[b]? = some o) (hn : ¬ S b) : w'.heap[b]? = some o :=
  (h.block b (Array.getElem?_eq_some_iff.1 hc).1 hn).trans hc

/-- A piece of memory: what holds of the world, and the set of the blocks that it takes. -/
abbrev Asn := World → (Nat → Prop) → Prop

/-- It hangs on its own blocks alone, and these are there. -/
structure Lcl (A : Asn) : Prop where
  keep : ∀ {w w' : World} {S : Nat → Prop}, A w S → (∀ k, S k → w'.heap[k]? = w.heap[k]?) → A w' S
  lt : ∀ {w : World} {S : Nat → Prop} {k : Nat}, A w S → S k → k < w.heap.size

/-- From the blocks S to the blocks S'. -/
structure Step (S S' : Nat → Prop) (w w' : World) : Prop where
  keep : Keep S w w'
  fresh : ∀ k, S' k → S k ∨ w.heap.size ≤ k

theorem Step.refl (S : Nat → Prop) (w : World) : Step S S w w := ⟨Keep.refl _ _, fun _ h => .inl h⟩
theorem Step.trans {S S' S'' : Nat → Prop} {a b c : World} (h : Step S S' a b) (k : Step S' S'' b c) : Step S S'' a c :=
  ⟨h.keep.trans k.keep (fun _ _ q => q) (fun x hx q => (h.fresh x q).resolve_right (by omega)), fun x q => by
    rcases k.fresh x q with q | q
    · exact h.fresh x q
    · exact .inr (Nat.le_trans h.keep.size q)⟩
theorem Step.less {S S' S'' : Nat → Prop} {a b : World} (h : Step S S' a b) (k : ∀ x, S'' x → S' x) : Step S S'' a b := ⟨h.keep, fun x q => h.fresh x (k x q)⟩
theorem Step.drewN {S S' : Nat → Prop} {a b : World} (h : Step S S' a b) (n : Nat) : Step S S' a (b.drewN n) := ⟨h.keep.drewN n, h.fresh⟩

/-- Two pieces that lie apart. -/
def Sep (A B : Asn) : Asn := fun w S => ∃ S1 S2, A w S1 ∧ B w S2 ∧ (∀ k, S1 k → S2 k → False) ∧ (∀ k, S k ↔ (S1 k ∨ S2 k))
/-- Nothing. -/
def Emp : Asn := fun _ S => ∀ k, ¬ S k
/-- A fact that takes no memory, beside a piece. -/
def Fact (p : Prop) (A : Asn) : Asn := fun w S => p ∧ A w S
/-- A piece, of some x. -/
def Some {α : Type} (A : α → Asn) : Asn := fun w S => ∃ x, A x w S
/-- A block of cells. -/
def Blk (b : Nat) (cs : Array Value) (t : TypeId) : Asn := fun w S => w.heap[b]? = some (.cells cs t (0, 0)) ∧ ∀ k, S k ↔ k = b
/-- A slice of whole numbers that nobody else has. -/
def Row (e : TypeId) (k : IntKind) (v : Value) (xs : List Int) : Asn := fun w S => w.ownsRow 0 e 1 v xs.length (xs.map (Value.int k)) ∧ ∀ b, S b ↔ v.ownBlock = some b

theorem Lcl.sep {A B : Asn} (hA : Lcl A) (hB : Lcl B) : Lcl (Sep A B) where
  keep := by
    rintro w w' S ⟨S1, S2, a, b, d, e⟩ h
    exact ⟨S1, S2, hA.keep a (fun k q => h k ((e k).2 (.inl q))), hB.keep b (fun k q => h k ((e k).2 (.inr q))), d, e⟩
  lt := by
    rintro w S k ⟨S1, S2, a, b, d, e⟩ q
    rcases (e k).1 q with q | q
    · exact hA.lt a q
    · exact hB.lt b q
theorem Lcl.emp : Lcl Emp where
  keep h _ := h
  lt h q := absurd q (h _)
theorem Lcl.fact {p : Prop} {A : Asn} (h : Lcl A) : Lcl (Fact p A) where
  keep h1 h2 := ⟨h1.1, h.keep h1.2 h2⟩
  lt h1 q := h.lt h1.2 q
theorem Lcl.some {α : Type} {A : α → Asn} (h : ∀ x, Lcl (A x)) : Lcl (Some A) where
  keep := by rintro w w' S ⟨x, a⟩ h2; exact ⟨x, (h x).keep a h2⟩
  lt := by rintro w S k ⟨x, a⟩ q; exact (h x).lt a q
theorem Lcl.blk (b : Nat) (cs : Array Value) (t : TypeId) : Lcl (Blk b cs t) where
  keep := by rintro w w' S ⟨h1, h2⟩ h; exact ⟨(h b ((h2 b).2 rfl)).trans h1, h2⟩
  lt := by rintro w S k ⟨h1, h2⟩ q; rw [(h2 k).1 q]; exact (Array.getElem?_eq_some_iff.1 h1).1
theorem owns_keep {w w' : World} {base : Nat} {e : TypeId} {size : Nat} {v : Value} {n : Nat} {xs : List Value} (h : w.ownsRow base e size v n xs) (hk : ∀ k, v.ownBlock = some k → w'.heap[k]? = w.heap[k]?) : w'.ownsRow base e size v n xs := by
  refine ⟨h.1, ?_⟩
  rcases h.2 with hn | ⟨g, cap, cur, rfl, hb, hgg, rest⟩
  · exact .inl hn
  · exact .inr ⟨g, cap, cur, rfl, hb, by rw [hk g rfl]; exact hgg, rest⟩
theorem Lcl.row (e : TypeId) (k : IntKind) (v : Value) (xs : List Int) : Lcl (Row e k v xs) where
  keep := by rintro w w' S ⟨h1, h2⟩ h; exact ⟨owns_keep h1 (fun b q => h b ((h2 b).2 q)), h2⟩
  lt := by rintro w S b ⟨h1, h2⟩ q; exact (h1.lt b ((h2 b).1 q)).2

theorem Lcl.stay {A : Asn} (hA : Lcl A) {w w' : World} {S T : Nat → Prop} (h : A w S) (k : Keep T w w') (d : ∀ x, S x → T x → False) : A w' S :=
  hA.keep h fun x q => k.block x (hA.lt h q) (fun t => d x q t)

section
variable {A B C : Asn} {w w' : World} {S : Nat → Prop}
theorem Sep.pair {S1 S2 : Nat → Prop} (a : A w S1) (b : B w S2) (d : ∀ k, S1 k → S2 k → False) : Sep A B w (fun k => S1 k ∨ S2 k) := ⟨S1, S2, a, b, d, fun _ => Iff.rfl⟩
theorem Sep.comm (h : Sep A B w S) : Sep B A w S := by
  obtain ⟨S1, S2, a, b, d, e⟩ := h
  exact ⟨S2, S1, b, a, fun k x y => d k y x, fun k => (e k).trans Or.comm⟩
theorem Sep.assoc (h : Sep (Sep A B) C w S) : Sep A (Sep B C) w S := by
  obtain ⟨S1, S2, ⟨S3, S4, a, b, d', e'⟩, c, d, e⟩ := h
  refine ⟨S3, fun k => S4 k ∨ S2 k, a, ⟨S4, S2, b, c, fun k x y => d k ((e' k).2 (.inr x)) y, fun _ => Iff.rfl⟩, fun k x y => ?_, fun k => ?_⟩
  · rcases y with y | y
    · exact d' k x y
    · exact d k ((e' k).2 (.inl x)) y
  · rw [e k, e' k, or_assoc]
theorem Sep.assoc' (h : Sep A (Sep B C) w S) : Sep (Sep A B) C w S := by
  obtain ⟨S1, S2, a, ⟨S3, S4, b, c, d', e'⟩, d, e⟩ := h
  refine ⟨fun k => S1 k ∨ S3 k, S4, ⟨S1, S3, a, b, fun k x y => d k x ((e' k).2 (.inl y)), fun _ => Iff.rfl⟩, c, fun k x y => ?_, fun k => ?_⟩
  · rcases x with x | x
    · exact d k x ((e' k).2 (.inr y))
    · exact d' k x y
  · rw [e k, e' k, or_assoc]
/-- A, B, C: B first. -/
theorem Sep.second (h : Sep A (Sep B C) w S) : Sep B (Sep A C) w S := by
  have h1 := h.assoc'
  obtain ⟨S1, S2, x, y, d, e⟩ := h1
  exact Sep.assoc ⟨S1, S2, x.comm, y, d, e⟩
theorem Sep.emp_left (h : A w S) : Sep Emp A w S := ⟨fun _ => False, S, fun _ => id, h, fun _ x _ => x, fun k => by simp⟩
theorem Sep.emp_right (h : A w S) : Sep A Emp w S := ⟨S, fun _ => False, h, fun _ => id, fun _ _ x => x, fun k => by simp⟩
theorem Sep.left_of_emp (h : Sep A Emp w S) : A w S := by
  obtain ⟨S1, S2, a, b, d, e⟩ := h
  have : S = S1 := funext fun k => propext ⟨fun q => ((e k).1 q).resolve_right (b k), fun q => (e k).2 (.inl q)⟩
  rw [this]; exact a
/-- What is dropped is no longer counted. -/
theorem Sep.drop (h : Sep A B w S) : ∃ S', B w S' ∧ ∀ k, S' k → S k := by
  obtain ⟨S1, S2, a, b, d, e⟩ := h
  exact ⟨S2, b, fun k q => (e k).2 (.inr q)⟩
theorem Sep.imp_left {A' : Asn} (h : Sep A B w S) (f : ∀ T, A w T → A' w T) : Sep A' B w S := by
  obtain ⟨S1, S2, a, b, d, e⟩ := h
  exact ⟨S1, S2, f _ a, b, d, e⟩
theorem Sep.imp_right {B' : Asn} (h : Sep A B w S) (f : ∀ T, B w T → B' w T) : Sep A B' w S := by
  obtain ⟨S1, S2, a, b, d, e⟩ := h
  exact ⟨S1, S2, a, f _ b, d, e⟩
end

/-- A step on the first piece leaves the second. -/
theorem Sep.step {A' B : Asn} (hB : Lcl B) {w w' : World} {S1 S2 S1' : Nat → Prop} (b : B w S2) (d : ∀ k, S1 k → S2 k → False) (h : A' w' S1') (st : Step S1 S1' w w') :
    Sep A' B w' (fun k => S1' k ∨ S2 k) ∧ Step (fun k => S1 k ∨ S2 k) (fun k => S1' k ∨ S2 k) w w' := by
  refine ⟨⟨S1', S2, h, hB.stay b st.keep (fun x p q => d x q p), fun k x y => ?_, fun _ => Iff.rfl⟩, st.keep.mono (fun _ _ q => .inl q), fun k q => ?_⟩
  · rcases st.fresh k x with x | x
    · exact d k x y
    · have := hB.lt b y; omega
  · rcases q with q | q
    · rcases st.fresh k q with q | q
      · exact .inl (.inl q)
      · exact .inr q
    · exact .inl (.inr q)

/-- A call that works on the first piece alone. -/
theorem Calls.sep {P : Program} {f : FuncId} {args : Array Value} {A B : Asn} {Post : Ending → Asn} {w : World} {S : Nat → Prop} (hB : Lcl B) (h : Sep A B w S)
    (c : ∀ S1, A w S1 → Calls P f args w fun e w' => ∃ S1', Post e w' S1' ∧ Step S1 S1' w w') :
    Calls P f args w fun e w' => ∃ S', Sep (Post e) B w' S' ∧ Step S S' w w' := by
  obtain ⟨S1, S2, a, b, d, e⟩ := h
  refine (c S1 a).mono ?_
  rintro e' w' ⟨S1', hp, st⟩
  have hS : S = fun k => S1 k ∨ S2 k := funext fun k => propext (e k)
  refine ⟨fun k => S1' k ∨ S2 k, ⟨S1', S2, hp, hB.stay b st.keep (fun x p q => d x q p), fun k x y => ?_, fun _ => Iff.rfl⟩, ?_⟩
  · rcases st.fresh k x with x | x
    · exact d k x y
    · have := hB.lt b y; omega
  · rw [hS]
    refine ⟨st.keep.mono (fun _ _ q => .inl q), fun k q => ?_⟩
    rcases q with q | q
    · rcases st.fresh k q with q | q
      · exact .inl (.inl q)
      · exact .inr q
    · exact .inl (.inr q)

/-- A new block. -/
theorem Sep.alloc {A : Asn} (hA : Lcl A) {w : World} {S : Nat → Prop} (h : A w S) (cs : Array Value) (t : TypeId) :
    Sep (Blk w.heap.size cs t) A (w.alloc (.cells cs t)) (fun k => k = w.heap.size ∨ S k) ∧ Step S (fun k => k = w.heap.size ∨ S k) w (w.alloc (.cells cs t)) := by
  refine ⟨⟨fun k => k = w.heap.size, S, ⟨heap_alloc_new w _, fun _ => Iff.rfl⟩, hA.keep h (fun k q => Below.heap_alloc _ _ _ (hA.lt h q)), fun k x y => ?_, fun _ => Iff.rfl⟩, (Keep.refl S w).alloc _, fun k q => ?_⟩
  · have := hA.lt h y; omega
  · rcases q with q | q
    · exact .inr (by omega)
    · exact .inl q

theorem Blk.cell {b : Nat} {cs : Array Value} {t : TypeId} {w : World} {S : Nat → Prop} (h : Blk b cs t w S) (i : Nat) : w.cell? ⟨b, i, none⟩ = cs[i]? := cell_of_row w b i cs t (0, 0) h.1
theorem Blk.free {b : Nat} {cs : Array Value} {t : TypeId} {w : World} {S : Nat → Prop} (h : Blk b cs t w S) (i : Nat) : w.frozen? ⟨b, i, none⟩ = false := frozen_of_row w b i cs t h.1
theorem Blk.set {b : Nat} {cs : Array Value} {t : TypeId} {w : World} {S : Nat → Prop} (h : Blk b cs t w S) (i : Nat) (v : Value) : Blk b (cs.setIfInBounds i v) t (w.setCell ⟨b, i, none⟩ v) S ∧ Step S S w (w.setCell ⟨b, i, none⟩ v) :=
  ⟨⟨by simp [World.setCell, Array.getElem?_modify, h.1], h.2⟩, (Keep.refl S w).setCell (fun _ => (h.2 b).2 rfl) v, fun _ q => .inl q⟩

/-- A call: from the piece A to the piece that Post tells. -/
abbrev Tri (P : Program) (f : FuncId) (args : Array Value) (A : Asn) (Post : Ending → Asn) : Prop := ∀ w S, A w S → Calls P f args w fun e w' => ∃ S', Post e w' S' ∧ Step S S' w w'
theorem Tri.frame {P : Program} {f : FuncId} {args : Array Value} {A B : Asn} {Post : Ending → Asn} (h : Tri P f args A Post) (hB : Lcl B) : Tri P f args (Sep A B) (fun e => Sep (Post e) B) :=
  fun w _ hs => Calls.sep hB hs fun S1 a => h w S1 a
theorem Tri.mono {P : Program} {f : FuncId} {args : Array Value} {A A' : Asn} {Post Post' : Ending → Asn} (h : Tri P f args A Post) (h1 : ∀ w S, A' w S → A w S) (h2 : ∀ e w S, Post e w S → Post' e w S) : Tri P f args A' Post' :=
  fun w S a => (h w S (h1 w S a)).mono fun _ _ ⟨S', p, st⟩ => ⟨S', h2 _ _ _ p, st⟩
theorem Sep.fact {p : Prop} {A B : Asn} {w : World} {S : Nat → Prop} (h : Sep (Fact p A) B w S) : p ∧ Sep A B w S := by
  obtain ⟨S1, S2, ⟨hp, a⟩, b, d, e⟩ := h
  exact ⟨hp, S1, S2, a, b, d, e⟩
theorem Sep.some {α : Type} {A : α → Asn} {B : Asn} {w : World} {S : Nat → Prop} (h : Sep (Some A) B w S) : ∃ x, Sep (A x) B w S := by
  obtain ⟨S1, S2, ⟨x, a⟩, b, d, e⟩ := h
  exact ⟨x, S1, S2, a, b, d, e⟩
theorem Sep.left {A B : Asn} {w : World} {S : Nat → Prop} (h : Sep A B w S) : ∃ T, A w T ∧ ∀ k, T k → S k := by
  obtain ⟨S1, S2, a, b, d, e⟩ := h
  exact ⟨S1, a, fun k q => (e k).2 (.inl q)⟩

theorem max_ints (ats : Array TypeId) (ty : TypeId) (k k' : IntKind) (a b : Int) : Builtin.max_ ats ty #[.int k a, .int k' b] = pure (.int k (max a b)) := by
  simp only [Builtin.max_, List.foldlM_cons, List.foldlM_nil, Builtin.max2]
  by_cases h : b ≤ a
  · rw [Int.max_eq_left h]; simp [show ¬ a < b by omega]
  · rw [Int.max_eq_right (by omega)]; simp [show a < b by omega]
theorem min_ints (ats : Array TypeId) (ty : TypeId) (k k' : IntKind) (a b : Int) : Builtin.min_ ats ty #[.int k a, .int k' b] = pure (.int k (min a b)) := by
  simp only [Builtin.min_, List.foldlM_cons, List.foldlM_nil, Builtin.min2]
  by_cases h : a ≤ b
  · rw [Int.min_eq_left h]; simp [show ¬ b < a by omega]
  · rw [Int.min_eq_right (by omega)]; simp [show b < a by omega]

/-- A slice's cells, read: nothing is said of who has them. -/
def Reads (w : World) (k : IntKind) (A : Option Addr) (xs : List Int) : Prop :=
  ∀ i, i < xs.length → ∃ b o, A = some ⟨b, o, none⟩ ∧ b < w.heap.size ∧ w.cell? ⟨b, o + i, none⟩ = some (.int k (xs.getD i 0))
theorem Reads.at {w : World} {k : IntKind} {A : Option Addr} {xs : List Int} (h : Reads w k A xs) {i : Nat} (hi : i < xs.length) :
    ∃ b o, A = some ⟨b, o, none⟩ ∧ b < w.heap.size ∧ w.cell? ⟨b, o + i, none⟩ = some (.int k (xs.getD i 0)) := h i hi
theorem Reads.below {w w' : World} {k : IntKind} {A : Option Addr} {xs : List Int} (h : Reads w k A xs) {B : Nat} (hb : Below B w w') (hA : ∀ a, A = some a → a.block < B) : Reads w' k A xs := by
  intro i hi
  obtain ⟨b, o, rfl, h1, h2⟩ := h i hi
  exact ⟨b, o, rfl, Nat.lt_of_lt_of_le h1 hb.size, (hb.cell (p := ⟨b, o + i, none⟩) (show b < B from hA ⟨b, o, none⟩ rfl)).trans h2⟩
theorem Reads.keep {w w' : World} {k : IntKind} {A : Option Addr} {xs : List Int} (h : Reads w k A xs) {S : Nat → Prop} (hb : Keep S w w') (hA : ∀ a, A = some a → ¬ S a.block) : Reads w' k A xs := by
  intro i hi
  obtain ⟨b, o, rfl, h1, h2⟩ := h i hi
  exact ⟨b, o, rfl, Nat.lt_of_lt_of_le h1 hb.size, hb.cell h2 (show ¬ S b from hA ⟨b, o, none⟩ rfl)⟩

end Go.Proofs.Ythemincohmgihaa.Own
