/- A region that draws and makes a struct literal in a block of its own ('x := T{.., append([]E{}, s..)}'): what holds whatever the order. It speaks of no program. -/
import Derived.Test.YthemincohmgihaaRelyD
namespace Go.Proofs.Ythemincohmgihaa.Lit
open Go Go.RowKit Go.Proofs.Ythemincohmgihaa.Own Go.Proofs.Ythemincohmgihaa.Rely

/-- From the heap's size n0 on, blocks of the type t may be written, each with what F tells; nothing else. -/
structure RL (n0 : Nat) (t : TypeId) (F : World → Array Value → Prop) (w w' : World) : Prop where
  os : w'.os = w.os
  tape : w'.tape = w.tape
  output : w'.output = w.output
  size : w.heap.size ≤ w'.heap.size
  block : ∀ k, k < w.heap.size → w'.heap[k]? = w.heap[k]? ∨ (n0 ≤ k ∧ (∃ cs, w.heap[k]? = some (.cells cs t (0, 0))) ∧ ∃ cs, w'.heap[k]? = some (.cells cs t (0, 0)) ∧ F w' cs)

variable {n0 : Nat} {t : TypeId} {F : World → Array Value → Prop}
theorem RL.refl (w : World) : RL n0 t F w w := ⟨rfl, rfl, rfl, Nat.le_refl _, fun _ _ => .inl rfl⟩
theorem RL.trans (hF : ∀ w w' cs, F w cs → RL n0 t F w w' → F w' cs) (a b c : World) (h : RL n0 t F a b) (k : RL n0 t F b c) : RL n0 t F a c :=
  ⟨k.os.trans h.os, k.tape.trans h.tape, k.output.trans h.output, Nat.le_trans h.size k.size, fun j hj => by
    rcases h.block j hj with e | ⟨n, x, y, e, f⟩
    · rcases k.block j (Nat.lt_of_lt_of_le hj h.size) with e' | ⟨n', ⟨x', ex⟩, y', e', f'⟩
      · exact .inl (e'.trans e)
      · exact .inr ⟨n', ⟨x', by rw [← e]; exact ex⟩, y', e', f'⟩
    · rcases k.block j (Nat.lt_of_lt_of_le hj h.size) with e' | ⟨n', _, y', e', f'⟩
      · exact .inr ⟨n, x, y, e'.trans e, hF _ _ _ f k⟩
      · exact .inr ⟨n', x, y', e', f'⟩⟩
theorem RL.ext {w w' : World} (h : Ext w w') : RL n0 t F w w' := ⟨h.os, h.tape, h.output, h.size, fun k hk => .inl (h.block k hk)⟩
theorem RL.below {w w' : World} (h : RL n0 t F w w') (hn : n0 ≤ w.heap.size) : Below n0 w w' :=
  ⟨h.os, h.tape, h.output, h.size, fun k hk => by
    rcases h.block k (by omega) with e | ⟨n, _⟩
    · exact e
    · omega⟩
theorem RL.undrew {a b : World} (h : RL n0 t F a.drew b) : RL n0 t F a b := ⟨h.os, h.tape, h.output, h.size, h.block⟩
/-- A block of another type stays. -/
theorem RL.other {w w' : World} (h : RL n0 t F w w') {k : Nat} {cs : Array Value} {e : TypeId} {fr : Nat × Nat} (hk : w.heap[k]? = some (.cells cs e fr)) (he : e ≠ t) : w'.heap[k]? = w.heap[k]? := by
  rcases h.block k (Array.getElem?_eq_some_iff.1 hk).1 with e' | ⟨_, ⟨cs', ex⟩, _⟩
  · exact e'
  · rw [hk] at ex
    injection ex with ex
    injection ex with _ ex
    exact absurd ex he
/-- A row of its own, made from n0 on, stays. -/
def Fresh (n0 : Nat) (e : TypeId) (k : IntKind) (v : Value) (xs : List Int) (w : World) : Prop := ∃ S, Row e k v xs w S ∧ ∀ b, S b → n0 ≤ b
theorem Fresh.later {e : TypeId} {k : IntKind} {v : Value} {xs : List Int} {w w' : World} (h : Fresh n0 e k v xs w) (r : RL n0 t F w w') (he : e ≠ t) : Fresh n0 e k v xs w' := by
  obtain ⟨S, hr, hn⟩ := h
  refine ⟨S, (Lcl.row e k v xs).keep hr fun b hb => ?_, hn⟩
  have hown := hr.1.2
  rcases hown with ⟨rfl, _⟩ | ⟨g, cap, cur, rfl, hg, hh, _⟩
  · have := (hr.2 b).1 hb; simp [Value.ownBlock] at this
  · have : g = b := by simpa [Value.ownBlock] using (hr.2 b).1 hb
    subst this
    exact r.other hh he
/-- What the block holds: x0, x1 and such a row. -/
def Holds (n0 : Nat) (e : TypeId) (k : IntKind) (x0 x1 : Value) (xs : List Int) (w : World) (cs : Array Value) : Prop := ∃ v, cs = #[x0, x1, v] ∧ Fresh n0 e k v xs w
theorem holds_later {e : TypeId} {k : IntKind} {x0 x1 : Value} {xs : List Int} (he : e ≠ t) :
    ∀ w w' cs, Holds n0 e k x0 x1 xs w cs → RL n0 t (Holds n0 e k x0 x1 xs) w w' → Holds n0 e k x0 x1 xs w' cs :=
  fun _ _ _ ⟨v, h1, h2⟩ r => ⟨v, h1, h2.later r he⟩
/-- The variable's block. -/
def Var (n0 : Nat) (t : TypeId) (v : Value) (w : World) : Prop := ∃ b, v = .pointer (some ⟨b, 0, none⟩) ∧ n0 ≤ b ∧ ∃ y0 y1 y2, w.heap[b]? = some (.cells #[y0, y1, y2] t (0, 0))
theorem Var.later {e : TypeId} {k : IntKind} {x0 x1 : Value} {xs : List Int} {v : Value} {w w' : World} (h : Var n0 t v w) (r : RL n0 t (Holds n0 e k x0 x1 xs) w w') : Var n0 t v w' := by
  obtain ⟨b, rfl, hb, y0, y1, y2, hh⟩ := h
  rcases r.block b (Array.getElem?_eq_some_iff.1 hh).1 with e' | ⟨_, _, cs, hc, u, rfl, _⟩
  · exact ⟨b, rfl, hb, y0, y1, y2, e'.trans hh⟩
  · exact ⟨b, rfl, hb, x0, x1, u, hc⟩
/-- The variable's block, written. -/
def Put (n0 : Nat) (t : TypeId) (b : Nat) (e : TypeId) (k : IntKind) (x0 x1 : Value) (xs : List Int) (w : World) : Prop := ∃ cs, w.heap[b]? = some (.cells cs t (0, 0)) ∧ Holds n0 e k x0 x1 xs w cs
theorem Put.later {e : TypeId} {k : IntKind} {x0 x1 : Value} {xs : List Int} {b : Nat} {w w' : World} (he : e ≠ t) (h : Put n0 t b e k x0 x1 xs w) (r : RL n0 t (Holds n0 e k x0 x1 xs) w w') : Put n0 t b e k x0 x1 xs w' := by
  obtain ⟨cs, hh, hf⟩ := h
  rcases r.block b (Array.getElem?_eq_some_iff.1 hh).1 with e' | ⟨_, _, cs', hc, hf'⟩
  · exact ⟨cs, e'.trans hh, holds_later he _ _ _ hf r⟩
  · exact ⟨cs', hc, hf'⟩

/-- The blocks of the type t from n0 on. -/
def At (n0 : Nat) (t : TypeId) (w : World) (b : Nat) : Prop := n0 ≤ b ∧ ∃ cs, w.heap[b]? = some (.cells cs t (0, 0))
/-- Of the type t none is new; R1: none is new where there is one. -/
def R0 (n0 : Nat) (t : TypeId) (F : World → Array Value → Prop) (w w' : World) : Prop := RL n0 t F w w' ∧ ∀ b, At n0 t w' b → At n0 t w b
def R1 (n0 : Nat) (t : TypeId) (F : World → Array Value → Prop) (w w' : World) : Prop := RL n0 t F w w' ∧ ∀ b, At n0 t w b → ∀ b', At n0 t w' b' → At n0 t w b'
theorem R0.sub {w w' : World} (h : R0 n0 t F w w') : R1 n0 t F w w' := ⟨h.1, fun _ _ b' hb' => h.2 b' hb'⟩
theorem R0.refl (w : World) : R0 n0 t F w w := ⟨RL.refl w, fun _ h => h⟩
theorem R1.refl (w : World) : R1 n0 t F w w := ⟨RL.refl w, fun _ _ _ h => h⟩
theorem R0.trans (hF : ∀ w w' cs, F w cs → RL n0 t F w w' → F w' cs) (a b c : World) (h : R0 n0 t F a b) (k : R0 n0 t F b c) : R0 n0 t F a c := ⟨RL.trans hF a b c h.1 k.1, fun x hx => h.2 x (k.2 x hx)⟩
theorem At.later {w w' : World} (r : RL n0 t F w w') {b : Nat} (h : At n0 t w b) : At n0 t w' b := by
  obtain ⟨hn, cs, hc⟩ := h
  rcases r.block b (Array.getElem?_eq_some_iff.1 hc).1 with e | ⟨_, _, cs', hc', _⟩
  · exact ⟨hn, cs, e.trans hc⟩
  · exact ⟨hn, cs', hc'⟩
theorem R1.trans (hF : ∀ w w' cs, F w cs → RL n0 t F w w' → F w' cs) (a b c : World) (h : R1 n0 t F a b) (k : R1 n0 t F b c) : R1 n0 t F a c :=
  ⟨RL.trans hF a b c h.1 k.1, fun x hx y hy => h.2 x hx y (k.2 x (At.later h.1 hx) y hy)⟩
theorem R0.undrew {a b : World} (h : R0 n0 t F a.drew b) : R0 n0 t F a b := ⟨h.1.undrew, h.2⟩
theorem R1.undrew {a b : World} (h : R1 n0 t F a.drew b) : R1 n0 t F a b := ⟨h.1.undrew, h.2⟩
/-- A world that has only grown, by blocks of other types. -/
theorem R0.ext {w w' : World} (h : Ext w w') (hn : ∀ k, w.heap.size ≤ k → ∀ cs, w'.heap[k]? ≠ some (.cells cs t (0, 0))) : R0 n0 t F w w' :=
  ⟨RL.ext h, fun b ⟨h0, cs, hc⟩ => by
    by_cases hb : b < w.heap.size
    · exact ⟨h0, cs, by rw [← h.block b hb]; exact hc⟩
    · exact absurd hc (hn b (by omega) cs)⟩
theorem R0.same {w : World} : R0 n0 t F w w := R0.refl w
theorem R0.alloc {w : World} {cs : Array Value} {e : TypeId} (he : e ≠ t) : R0 n0 t F w (w.alloc (.cells cs e (0, 0))) :=
  R0.ext (Below.refl _ _ |>.alloc (Nat.le_refl _) _) fun k hk cs' hc => by
    by_cases hk' : k = w.heap.size
    · subst hk'
      rw [heap_alloc_new] at hc
      injection hc with hc
      injection hc with _ hc
      exact he hc
    · have : (w.alloc (.cells cs e (0, 0))).heap.size = w.heap.size + 1 := by simp
      rw [Array.getElem?_eq_none (by omega)] at hc
      cases hc
/-- The variable, and no other block of its type. -/
def One (n0 : Nat) (t : TypeId) (v : Value) (w : World) : Prop := ∃ b, v = .pointer (some ⟨b, 0, none⟩) ∧ n0 ≤ b ∧ (∃ y0 y1 y2, w.heap[b]? = some (.cells #[y0, y1, y2] t (0, 0))) ∧ ∀ b', At n0 t w b' → b' = b
theorem One.later {e : TypeId} {k : IntKind} {x0 x1 : Value} {xs : List Int} {v : Value} {w w' : World} (h : One n0 t v w) (r : R1 n0 t (Holds n0 e k x0 x1 xs) w w') : One n0 t v w' := by
  obtain ⟨b, rfl, hb, ⟨y0, y1, y2, hh⟩, hu⟩ := h
  have hat : At n0 t w b := ⟨hb, _, hh⟩
  have hu' : ∀ b', At n0 t w' b' → b' = b := fun b' hb' => hu b' (r.2 b hat b' hb')
  rcases r.1.block b (Array.getElem?_eq_some_iff.1 hh).1 with e' | ⟨_, _, cs, hc, u, rfl, _⟩
  · exact ⟨b, rfl, hb, ⟨y0, y1, y2, e'.trans hh⟩, hu'⟩
  · exact ⟨b, rfl, hb, ⟨x0, x1, u, hc⟩, hu'⟩
theorem one_new {w0 w : World} {n0 : Nat} (h : R0 n0 t F w0 w) (hn : n0 = w0.heap.size) (z : Array Value) {y0 y1 y2 : Value} (hz : z = #[y0, y1, y2]) :
    R1 n0 t F w (w.alloc (.cells z t (0, 0))) ∧ One n0 t (.pointer (some ⟨w.heap.size, 0, none⟩)) (w.alloc (.cells z t (0, 0))) := by
  subst hz
  have hno : ∀ b, ¬ At n0 t w b := fun b hb => by
    obtain ⟨h1, cs, hc⟩ := h.2 b hb
    have := (Array.getElem?_eq_some_iff.1 hc).1
    omega
  refine ⟨⟨RL.ext (Below.refl _ _ |>.alloc (Nat.le_refl _) _), fun b hb => absurd hb (hno b)⟩, w.heap.size, rfl, by rw [hn]; exact h.1.size, ⟨y0, y1, y2, heap_alloc_new _ _⟩, fun b' ⟨h0, cs, hc⟩ => ?_⟩
  by_cases hb : b' = w.heap.size
  · exact hb
  · by_cases hlt : b' < w.heap.size
    · have e : (w.alloc (.cells #[y0, y1, y2] t (0, 0))).heap[b']? = w.heap[b']? := Below.heap_alloc _ _ _ hlt
      rw [e] at hc
      exact absurd ⟨h0, cs, hc⟩ (hno b')
    · have : (w.alloc (.cells #[y0, y1, y2] t (0, 0))).heap.size = w.heap.size + 1 := by simp
      rw [Array.getElem?_eq_none (by omega)] at hc
      cases hc

theorem size_setCell (w : World) (p : Addr) (v : Value) : (w.setCell p v).heap.size = w.heap.size := by simp [World.setCell]
theorem Fresh.keep {e : TypeId} {k : IntKind} {v : Value} {xs : List Int} {w w' : World} {b : Nat} {cs : Array Value} (h : Fresh n0 e k v xs w) (hk : Keep (fun x => x = b) w w') (hh : w.heap[b]? = some (.cells cs t (0, 0))) (he : e ≠ t) : Fresh n0 e k v xs w' := by
  obtain ⟨S, hr, hn⟩ := h
  refine ⟨S, (Lcl.row e k v xs).keep hr fun q hq => ?_, hn⟩
  have hlt := (Lcl.row e k v xs).lt hr hq
  refine hk.block q hlt ?_
  rintro rfl
  rcases hr.1.2 with ⟨rfl, _⟩ | ⟨g, cap, cur, rfl, hg, hh', _⟩
  · have := (hr.2 q).1 hq; simp [Value.ownBlock] at this
  · have : g = q := by simpa [Value.ownBlock] using (hr.2 q).1 hq
    subst this
    rw [hh] at hh'
    injection hh' with hh'
    injection hh' with _ hh'
    exact he hh'.symm
theorem put_three {e : TypeId} {k : IntKind} {x0 x1 y0 y1 y2 v : Value} {xs : List Int} {w : World} {b : Nat} (hb : n0 ≤ b) (hh : w.heap[b]? = some (.cells #[y0, y1, y2] t (0, 0))) (hf : Fresh n0 e k v xs w) (he : e ≠ t) :
    R0 n0 t (Holds n0 e k x0 x1 xs) w (((w.setCell ⟨b, 0, none⟩ x0).setCell ⟨b, 1, none⟩ x1).setCell ⟨b, 2, none⟩ v) ∧
      At n0 t (((w.setCell ⟨b, 0, none⟩ x0).setCell ⟨b, 1, none⟩ x1).setCell ⟨b, 2, none⟩ v) b ∧ Put n0 t b e k x0 x1 xs (((w.setCell ⟨b, 0, none⟩ x0).setCell ⟨b, 1, none⟩ x1).setCell ⟨b, 2, none⟩ v) := by
  have hB : Blk b #[y0, y1, y2] t w (fun x => x = b) := ⟨hh, fun _ => Iff.rfl⟩
  have h1 := Blk.set hB 0 x0
  have h2 := Blk.set h1.1 1 x1
  have h3 := Blk.set h2.1 2 v
  have hst := (h1.2.trans h2.2).trans h3.2
  have hsz : (((w.setCell ⟨b, 0, none⟩ x0).setCell ⟨b, 1, none⟩ x1).setCell ⟨b, 2, none⟩ v).heap.size = w.heap.size := by rw [size_setCell, size_setCell, size_setCell]
  generalize ((w.setCell ⟨b, 0, none⟩ x0).setCell ⟨b, 1, none⟩ x1).setCell ⟨b, 2, none⟩ v = w' at h3 hst hsz ⊢
  have hnew : w'.heap[b]? = some (.cells #[x0, x1, v] t (0, 0)) := h3.1.1
  have hfr := hf.keep hst.keep hh he
  have hH : Holds n0 e k x0 x1 xs w' #[x0, x1, v] := ⟨v, rfl, hfr⟩
  refine ⟨⟨⟨hst.keep.os, hst.keep.tape, hst.keep.output, hst.keep.size, fun q hq => ?_⟩, fun q ⟨hq0, cs, hc⟩ => ?_⟩, ⟨hb, _, hnew⟩, _, hnew, hH⟩
  · by_cases hqb : q = b
    · subst hqb
      exact .inr ⟨hb, ⟨_, hh⟩, _, hnew, hH⟩
    · exact .inl (hst.keep.block q hq hqb)
  · by_cases hqb : q = b
    · subst hqb; exact ⟨hb, _, hh⟩
    · have hq : q < w.heap.size := by rw [← hsz]; exact (Array.getElem?_eq_some_iff.1 hc).1
      exact ⟨hq0, cs, by rw [← hst.keep.block q hq hqb]; exact hc⟩
/-- What is known behind such a region. -/
theorem one_put {e : TypeId} {k : IntKind} {x0 x1 v : Value} {xs : List Int} {w : World} (h : One n0 t v w) (hp : ∃ b, At n0 t w b ∧ Put n0 t b e k x0 x1 xs w) :
    ∃ b A c, v = .pointer (some ⟨b, 0, none⟩) ∧ n0 ≤ b ∧ xs.length ≤ c ∧ w.heap[b]? = some (.cells #[x0, x1, .slice A xs.length c] t (0, 0)) ∧ Fresh n0 e k (.slice A xs.length c) xs w := by
  obtain ⟨b, rfl, hb, _, hu⟩ := h
  obtain ⟨b', hat, cs, hc, v, rfl, S, hr, hn⟩ := hp
  obtain rfl := hu b' hat
  obtain ⟨A, c, rfl, hle, _⟩ := hr.shape
  exact ⟨b', A, c, rfl, hb, hle, hc, S, hr, hn⟩

section
variable {P : Program} {ops : Array Oper} {rest : List Oper} {o : Oper} {a : Act} {Q : Exit → Act → World → Prop}
/-- append([]E{}, s..), where s is not empty: a row of its own, just made. -/
theorem lit_append (w : World) (hgd : o.guard = none) (s x : Operand) (t : TypeId) (ho : o.op = .call { callee := .builtin .append, args := #[s, x], argTypes := #[t, t] })
    (e : TypeId) (k : IntKind) (bytes : Nat) (ht : P.underlying t = some (.slice e)) (hinfo : (P.info? e).map (fun i => (i.zero, i.size, i.bytes)) = some (some (.int k 0), 1, bytes)) (hb0 : 0 < bytes)
    (b : Addr) (ys : List Int) (A : Option Addr) (m c n0 : Nat) (hs : a.eval s = .slice (some b) 0 0) (hx : a.eval x = .slice A m c) (hm : m = ys.length) (h0 : 0 < ys.length)
    (hr : ∀ i, i < ys.length → ∃ ad, A = some ad ∧ w.cell? (ad.add i) = some (.int k (ys.getD i 0))) (hl : ys.length * bytes ≤ 140737488355328) (hn : n0 ≤ w.heap.size)
    (K : ∀ (cap : Nat) (cs : Array Value), ys.length ≤ cap → Fresh n0 e k (.slice (some ⟨w.heap.size, 0, none⟩) ys.length cap) ys (w.drew.alloc (.cells cs e (0, 0))) → wpList P ops Q rest (a.put o.dst (.slice (some ⟨w.heap.size, 0, none⟩) ys.length cap)) (w.drew.alloc (.cells cs e (0, 0)))) : wpList P ops Q (o :: rest) a w := by
  subst hm
  obtain ⟨i0, hi, hzz⟩ := Option.map_eq_some_iff.1 hinfo
  simp only [Prod.mk.injEq] at hzz
  obtain ⟨hz0, hz1, hz2⟩ := hzz
  have hlen : ys.length ≤ 140737488355328 := Nat.le_trans (Nat.le_mul_of_pos_right _ hb0) hl
  obtain ⟨ad, rfl, _⟩ := hr 0 h0
  have hcells : ∀ j u, (ys.map (Value.int k))[j]? = some u → w.cell? (ad.add j) = some u := by
    intro j u hu
    have hj : j < ys.length := by
      rcases Nat.lt_or_ge j ys.length with h | h
      · exact h
      · simp [List.getElem?_eq_none h] at hu
    obtain ⟨ad2, q, hc⟩ := hr j hj
    injection q with q
    subst q
    rw [hc]
    simp [List.getElem?_eq_getElem hj] at hu
    rw [← hu]
    simp [List.getD_eq_getElem?_getD, List.getElem?_eq_getElem hj]
  have hge := grownCap_ge w (0 + ys.length) 0 e
  have hcm : grownCap w (0 + ys.length) 0 e ≤ maxLen := grownCap_le_maxLen w (0 + ys.length) 0 e (by simp only [maxLen]; omega)
  have hrun := run_append_grow (P := P) (w := w) t o.type e i0 (.int k 0) ht hi hz0 b 0 0 [] (by simp) (fun j u h => by simp at h) ad ys.length c (ys.map (Value.int k)) (by rw [hz1]; simp) hcells (by omega) (by omega)
    (growslice_fits (by omega) (by rw [hz2, Nat.zero_add]; exact hl))
  refine wpList_plain hgd fun K' hK => ?_
  unfold Oper.wp execOp
  simp only [ho, resolve, invoke, builtin, Sem.run_bind, Sem.run_pure, Result.andThen_ok, List.map_toArray, List.map_cons, List.map_nil, hs, hx, hrun]
  rw [Nat.zero_add] at hge hcm ⊢
  refine hK _ _ (K _ _ hge ⟨fun q => q = w.heap.size, ⟨⟨by simp, .inr ⟨w.heap.size, _, _, rfl, Nat.zero_le _, heap_alloc_new w.drew _, hge, hcm, ?_, ?_⟩⟩, fun q => ?_⟩, fun q hq => by rw [hq]; exact hn⟩)
  · simp only [Array.size_append, List.size_toArray, size_zeroCells, List.length_map]
    simp only [Value.cells]
    simp
    omega
  · simp
  · simp [Value.ownBlock]
    exact eq_comm
end
end Go.Proofs.Ythemincohmgihaa.Lit
