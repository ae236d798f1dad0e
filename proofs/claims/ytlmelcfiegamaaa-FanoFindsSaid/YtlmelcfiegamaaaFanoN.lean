/- A cursor through numbers that don't fall: what Next, Select, From tell. -/
import Derived.Test.YtlmelcfiegamaaaFano
import Derived.Test.YtlmelcfiegamaaaBitsRef
namespace Go.Proofs.Ytlmelcfiegamaaa.Fano
open Go.RowKit Go.Proofs.Ytlmelcfiegamaaa.Own Go.Proofs.Ytlmelcfiegamaaa.Rely Go.Proofs.Ytlmelcfiegamaaa.Bits
attribute [local go_sem] max_ints min_ints

/-! ### the bits at a place -/
theorem getD_mid (P R : List Bool) (u j : Nat) (hj : j < u) : (P ++ (List.replicate u true ++ [false]) ++ R).getD (P.length + j) false = true := by
  simp only [List.getD_eq_getElem?_getD, List.append_assoc]
  rw [List.getElem?_append_right (by omega), Nat.add_sub_cancel_left, List.getElem?_append_left (by simpa using hj)]
  simp [hj]
theorem getD_end (P R : List Bool) (u : Nat) : (P ++ (List.replicate u true ++ [false]) ++ R).getD (P.length + u) false = false := by
  simp only [List.getD_eq_getElem?_getD, List.append_assoc]
  rw [List.getElem?_append_right (by omega), Nat.add_sub_cancel_left, List.getElem?_append_right (by simp)]
  simp
theorem getD_part (P M R : List Bool) (j : Nat) (hj : j < M.length) : (P ++ M ++ R).getD (P.length + j) false = M.getD j false := by
  simp only [List.getD_eq_getElem?_getD, List.append_assoc]
  rw [List.getElem?_append_right (by omega), Nat.add_sub_cancel_left, List.getElem?_append_left hj]
theorem highT_split (k : Nat) (l : List Int) (i : Nat) : ∀ d, ∃ R, highT k l (i + d) = highT k l i ++ R
  | 0 => ⟨[], by simp⟩
  | d + 1 => by
    obtain ⟨R, h⟩ := highT_split k l i d
    exact ⟨R ++ List.replicate (upN k l (i + d) - wasN k l (i + d)) true ++ [false], by rw [← Nat.add_assoc, highT, h]; simp only [List.append_assoc]⟩
theorem lowT_split (k : Nat) (l : List Int) (i : Nat) : ∀ d, ∃ R, lowT k l (i + d) = lowT k l i ++ R
  | 0 => ⟨[], by simp⟩
  | d + 1 => by
    obtain ⟨R, h⟩ := lowT_split k l i d
    exact ⟨R ++ bitsOf (val l (i + d)) k, by rw [← Nat.add_assoc, lowT, h]; simp only [List.append_assoc]⟩
theorem high_at {l : List Int} (h : NF l) (k : Nat) {i : Nat} (hi : i < l.length) :
    Ones (pack (highT k l l.length)) (i + wasN k l i) (upN k l i - wasN k l i) ∧ bitAt (pack (highT k l l.length)) (i + wasN k l i + (upN k l i - wasN k l i)) = false ∧ i + wasN k l i + (upN k l i - wasN k l i) < 8 * (pack (highT k l l.length)).length := by
  obtain ⟨R, hR⟩ := highT_split k l (i + 1) (l.length - (i + 1))
  rw [show i + 1 + (l.length - (i + 1)) = l.length by omega, highT, List.append_assoc (highT k l i)] at hR
  have hl := highT_len h k i (by omega)
  have hpa := (pack_all (highT k l l.length)).2
  refine ⟨fun j hj => ?_, ?_, ?_⟩
  · rw [hpa, hR, ← hl]; exact getD_mid _ _ _ _ hj
  · rw [hpa, hR, ← hl]; exact getD_end _ _ _
  · have h1 := pack_length (highT k l l.length)
    have h2 := congrArg List.length hR
    simp only [List.length_append, List.length_replicate, List.length_singleton] at h2
    omega
theorem bitsOf_getD' (n : Nat) : ∀ k i, i < k → (bitsOf n k).getD i false = (n / 2 ^ (k - 1 - i) % 2 == 1)
  | 0, i, h => by omega
  | k + 1, 0, h => by simp [bitsOf]
  | k + 1, i + 1, h => by
    have := bitsOf_getD' n k i (by omega)
    simp only [bitsOf, List.getD_cons_succ]
    rw [this, show k + 1 - 1 - (i + 1) = k - 1 - i by omega]
theorem num_bits' {B : List Int} {at_ n k : Nat} (h : ∀ i, i < k → bitAt B (at_ + i) = (n / 2 ^ (k - 1 - i) % 2 == 1)) : num B at_ k = n % 2 ^ k := by
  have key : ∀ j, j ≤ k → num B at_ j = n / 2 ^ (k - j) % 2 ^ j := by
    intro j
    induction j with
    | zero => intro _; simp [num, Nat.mod_one]
    | succ j ih =>
      intro hj
      have h1 := ih (by omega)
      have h2 := h j (by omega)
      simp only [num]
      rw [h1, h2]
      have e1 : k - j = (k - (j + 1)) + 1 := by omega
      have e2 : k - 1 - j = k - (j + 1) := by omega
      rw [e1, e2]
      generalize k - (j + 1) = d
      rw [Nat.pow_succ, ← Nat.div_div_eq_div_mul, Nat.pow_succ 2 j]
      generalize n / 2 ^ d = q
      have hm : q % (2 ^ j * 2) = 2 * (q / 2 % 2 ^ j) + q % 2 := by
        rw [Nat.mul_comm (2 ^ j) 2, Nat.mod_mul]; omega
      rw [hm]
      by_cases hb : q % 2 = 1
      · rw [hb]; simp
      · have : q % 2 = 0 := by omega
        rw [this]; simp
  have := key k (Nat.le_refl k)
  rw [this, Nat.sub_self]
  simp
theorem low_at (k : Nat) (l : List Int) {i : Nat} (hi : i < l.length) : num (pack (lowT k l l.length)) (i * k) k = val l i % 2 ^ k ∧ i * k + k ≤ 8 * (pack (lowT k l l.length)).length := by
  obtain ⟨R, hR⟩ := lowT_split k l (i + 1) (l.length - (i + 1))
  rw [show i + 1 + (l.length - (i + 1)) = l.length by omega, lowT] at hR
  have hl := lowT_len k l i
  have hpa := (pack_all (lowT k l l.length)).2
  refine ⟨num_bits' fun j hj => ?_, ?_⟩
  · rw [hpa, hR, ← hl, getD_part _ _ _ _ (by rw [bitsOf_length]; exact hj), bitsOf_getD' _ _ _ hj]
  · have h1 := pack_length (lowT k l l.length)
    have h2 := congrArg List.length hR
    simp only [List.length_append, bitsOf_length, hl] at h2
    omega
theorem glue {v k : Nat} (hv : v < 4294967296) (hk : k ≤ 31) : Go.bits .or .u32 (IntKind.u32.wrap (((v / 2 ^ k : Nat) : Int) * 2 ^ k)) ((v % 2 ^ k : Nat) : Int) = (v : Int) := by
  have hp : (2 : Int) ^ k = ((2 ^ k : Nat) : Int) := by rw [Int.natCast_pow]; rfl
  have hle : v / 2 ^ k * 2 ^ k ≤ v := Nat.div_mul_le_self _ _
  have hw : IntKind.u32.wrap (((v / 2 ^ k : Nat) : Int) * 2 ^ k) = ((v / 2 ^ k * 2 ^ k : Nat) : Int) := by
    rw [hp, ← Int.natCast_mul]
    generalize v / 2 ^ k * 2 ^ k = q at hle
    have : IntKind.u32.wrap (q : Int) = (q : Int) % 4294967296 := by simp [IntKind.wrap, IntKind.bits, IntKind.signed]
    rw [this]
    omega
  have hlt : v % 2 ^ k < 2 ^ k := Nat.mod_lt _ (Nat.pow_pos (by omega))
  have hm : v % 2 ^ k ≤ v := Nat.mod_le _ _
  rw [hw, Bit.or32, BitVec.ofInt_natCast, BitVec.ofInt_natCast, BitVec.toNat_or, BitVec.toNat_ofNat, BitVec.toNat_ofNat, Nat.mod_eq_of_lt (by omega), Nat.mod_eq_of_lt (by omega), Nat.mul_comm, ← Nat.two_pow_add_eq_or_of_lt hlt, Nat.div_add_mod]

/-! ### a cursor -/
/-- What was there stays. -/
def Old (w0 : World) : Asn := fun w S => (∀ k, S k ↔ k < w0.heap.size) ∧ w0.heap.size ≤ w.heap.size ∧ ∀ k, k < w0.heap.size → w.heap[k]? = w0.heap[k]?
theorem loc_old (w0 : World) : Lcl (Old w0) where
  keep h q := by
    refine ⟨h.1, ?_, fun k hk => (q k ((h.1 k).2 hk)).trans (h.2.2 k hk)⟩
    rcases Nat.eq_zero_or_pos w0.heap.size with hz | hz
    · omega
    · have h1 := q (w0.heap.size - 1) ((h.1 _).2 (by omega))
      have h2 : w0.heap[w0.heap.size - 1]? = some w0.heap[w0.heap.size - 1] := Array.getElem?_eq_getElem (by omega)
      rw [h.2.2 _ (by omega), h2] at h1
      have := (Array.getElem?_eq_some_iff.1 h1).1
      omega
  lt h q := Nat.lt_of_lt_of_le ((h.1 _).1 q) h.2.1
theorem old_reads {w0 w : World} {S : Nat → Prop} {k : IntKind} {A : Option Addr} {xs : List Int} (h : Old w0 w S) (hr : Reads w0 k A xs) : Reads w k A xs := by
  intro i hi
  obtain ⟨b, o, e, hb, hc⟩ := hr i hi
  exact ⟨b, o, e, Nat.lt_of_lt_of_le hb h.2.1, (World.cell?_of_block (a := ⟨b, o + i, none⟩) (h.2.2 b hb)).trans hc⟩
/-- A row's fields as they lie in memory. -/
structure Lies (w0 : World) (l : List Int) (A1 A2 : Option Addr) (c1 c2 : Nat) : Prop where
  nf : NF l
  u : U32s l
  le : l.length ≤ 4096
  r1 : Reads w0 .u8 A1 (lowsF l)
  r2 : Reads w0 .u8 A2 (highF l)
/-- A cursor: where its readers stand, how many it took, the higher bits of the last. -/
structure Cur (w0 : World) (l : List Int) (A1 A2 : Option Addr) (c1 c2 p p1 p2 a1 a2 i up : Nat) (w : World) : Prop where
  ext : Ext w0 w
  b1 : w.heap[p1]? = some (.cells #[.slice A1 (lowsF l).length c1, .int .i64 a1, .bool false] 113 (0, 0))
  b2 : w.heap[p2]? = some (.cells #[.slice A2 (highF l).length c2, .int .i64 a2, .bool false] 113 (0, 0))
  bc : w.heap[p]? = some (.cells #[.int .i64 l.length, .int .u32 (lastN l), .int .i64 (lowF l), .slice A1 (lowsF l).length c1, .slice A2 (highF l).length c2, .pointer (some ⟨p1, 0, none⟩), .pointer (some ⟨p2, 0, none⟩), .int .i64 i, .int .u32 up] 93 (0, 0))
theorem bl_lt {w : World} {p : Nat} {o : Obj} (h : w.heap[p]? = some o) : p < w.heap.size := (Array.getElem?_eq_some_iff.1 h).1
theorem Cur.later {w0 : World} {l : List Int} {A1 A2 : Option Addr} {c1 c2 p p1 p2 a1 a2 i up : Nat} {w w' : World} (h : Cur w0 l A1 A2 c1 c2 p p1 p2 a1 a2 i up w) (hx : Ext w w') : Cur w0 l A1 A2 c1 c2 p p1 p2 a1 a2 i up w' :=
  ⟨Ext.trans _ _ _ h.ext hx, (hx.block p1 (bl_lt h.b1)).trans h.b1, (hx.block p2 (bl_lt h.b2)).trans h.b2, (hx.block p (bl_lt h.bc)).trans h.bc⟩
structure Fresh3 (n p p1 p2 : Nat) : Prop where
  h : n ≤ p
  h1 : n ≤ p1
  h2 : n ≤ p2
  d1 : ¬ p1 = p
  d2 : ¬ p2 = p
  d3 : ¬ p1 = p2
theorem bl_cell {w : World} {p : Nat} {cs : Array Value} {t : TypeId} (h : w.heap[p]? = some (.cells cs t (0, 0))) (i : Nat) : w.cell? ⟨p, i, none⟩ = cs[i]? := Blk.cell (S := fun q => q = p) ⟨h, fun _ => Iff.rfl⟩ i
theorem bl_free {w : World} {p : Nat} {cs : Array Value} {t : TypeId} (h : w.heap[p]? = some (.cells cs t (0, 0))) (i : Nat) : w.frozen? ⟨p, i, none⟩ = false := Blk.free (S := fun q => q = p) ⟨h, fun _ => Iff.rfl⟩ i
theorem old_of {w0 w : World} (h : Ext w0 w) : Old w0 w (fun k => k < w0.heap.size) := ⟨fun _ => Iff.rfl, h.size, h.block⟩
theorem rd_of {w0 w : World} {p : Nat} (A : Option Addr) (c : Nat) (B : List Int) (at_ : Nat) (hp : w0.heap.size ≤ p) (h : Ext w0 w) (hb : w.heap[p]? = some (.cells #[.slice A B.length c, .int .i64 at_, .bool false] 113 (0, 0))) :
    RD p A c B at_ false (Old w0) w (fun k => k = p ∨ k < w0.heap.size) :=
  ⟨fun k => k = p, fun k => k < w0.heap.size, ⟨hb, fun _ => Iff.rfl⟩, old_of h, fun k e q => by omega, fun _ => Iff.rfl⟩
/-- What a step of a reader leaves: its block turned, all else as it was. -/
theorem rd_out {w0 w w' : World} {p : Nat} {A : Option Addr} {c : Nat} {B : List Int} {at_ : Nat} {sh : Bool} {S' : Nat → Prop} (h : Ext w0 w) (hr : RD p A c B at_ sh (Old w0) w' S') (hst : Step (fun k => k = p ∨ k < w0.heap.size) S' w w') :
    Ext w0 w' ∧ w'.heap[p]? = some (.cells #[.slice A B.length c, .int .i64 at_, .bool sh] 113 (0, 0)) ∧ ∀ q, w0.heap.size ≤ q → ¬ q = p → q < w.heap.size → w'.heap[q]? = w.heap[q]? := by
  obtain ⟨S1, S2, a, b, d, e⟩ := hr
  refine ⟨⟨hst.keep.os.trans h.os, hst.keep.tape.trans h.tape, hst.keep.output.trans h.output, b.2.1, b.2.2⟩, a.1, fun q h1 h2 h3 => hst.keep.block q h3 (fun hq => ?_)⟩
  rcases hq with hq | hq
  · exact h2 hq
  · omega
theorem lies_low {w0 : World} {l : List Int} {A1 A2 : Option Addr} {c1 c2 : Nat} (h : Lies w0 l A1 A2 c1 c2) (h0 : 0 < l.length) : lowF l ≤ 31 := by
  have hl := h.u.at (i := l.length - 1) (by omega)
  exact (lowerN_spec h0 (by unfold lastN val; omega)).1

theorem heap_setCell_same {w : World} {p i : Nat} {cs : Array Value} {t : TypeId} (h : w.heap[p]? = some (.cells cs t (0, 0))) (v : Value) : (w.setCell ⟨p, i, none⟩ v).heap[p]? = some (.cells (cs.setIfInBounds i v) t (0, 0)) := by
  have := (Blk.set (S := fun q => q = p) ⟨h, fun _ => Iff.rfl⟩ i v).1
  exact this.1
theorem ext_set {w0 w : World} {p i : Nat} (h : Ext w0 w) (hp : w0.heap.size ≤ p) (v : Value) : Ext w0 (w.setCell ⟨p, i, none⟩ v) :=
  ⟨h.os, h.tape, h.output, by have := h.size; simpa [World.setCell] using this, fun k hk => by rw [Below.heap_setCell _ _ _ _ (show k ≠ p by omega)]; exact h.block k hk⟩
theorem Cur.setUp {w0 : World} {l : List Int} {A1 A2 : Option Addr} {c1 c2 p p1 p2 a1 a2 i up : Nat} {w : World} (hF : Fresh3 w0.heap.size p p1 p2) (h : Cur w0 l A1 A2 c1 c2 p p1 p2 a1 a2 i up w) (u : Nat) : Cur w0 l A1 A2 c1 c2 p p1 p2 a1 a2 i u (w.setCell ⟨p, 8, none⟩ (.int .u32 u)) :=
  ⟨ext_set h.ext hF.h _, by rw [Below.heap_setCell _ _ _ _ hF.d1]; exact h.b1, by rw [Below.heap_setCell _ _ _ _ hF.d2]; exact h.b2, heap_setCell_same h.bc _⟩
theorem Cur.setAt {w0 : World} {l : List Int} {A1 A2 : Option Addr} {c1 c2 p p1 p2 a1 a2 i up : Nat} {w : World} (hF : Fresh3 w0.heap.size p p1 p2) (h : Cur w0 l A1 A2 c1 c2 p p1 p2 a1 a2 i up w) (j : Nat) : Cur w0 l A1 A2 c1 c2 p p1 p2 a1 a2 j up (w.setCell ⟨p, 7, none⟩ (.int .i64 j)) :=
  ⟨ext_set h.ext hF.h _, by rw [Below.heap_setCell _ _ _ _ hF.d1]; exact h.b1, by rw [Below.heap_setCell _ _ _ _ hF.d2]; exact h.b2, heap_setCell_same h.bc _⟩
theorem Cur.rd2 {w0 : World} {l : List Int} {A1 A2 : Option Addr} {c1 c2 p p1 p2 a1 a2 i up a : Nat} {w w' : World} {S' : Nat → Prop} (hF : Fresh3 w0.heap.size p p1 p2) (h : Cur w0 l A1 A2 c1 c2 p p1 p2 a1 a2 i up w)
    (hr : RD p2 A2 c2 (highF l) a false (Old w0) w' S') (hst : Step (fun k => k = p2 ∨ k < w0.heap.size) S' w w') : Cur w0 l A1 A2 c1 c2 p p1 p2 a1 a i up w' := by
  obtain ⟨g1, g2, g3⟩ := rd_out h.ext hr hst
  exact ⟨g1, (g3 p1 hF.h1 hF.d3 (bl_lt h.b1)).trans h.b1, g2, (g3 p hF.h (fun e => hF.d2 e.symm) (bl_lt h.bc)).trans h.bc⟩
theorem Cur.rd1 {w0 : World} {l : List Int} {A1 A2 : Option Addr} {c1 c2 p p1 p2 a1 a2 i up a : Nat} {w w' : World} {S' : Nat → Prop} (hF : Fresh3 w0.heap.size p p1 p2) (h : Cur w0 l A1 A2 c1 c2 p p1 p2 a1 a2 i up w)
    (hr : RD p1 A1 c1 (lowsF l) a false (Old w0) w' S') (hst : Step (fun k => k = p1 ∨ k < w0.heap.size) S' w w') : Cur w0 l A1 A2 c1 c2 p p1 p2 a a2 i up w' := by
  obtain ⟨g1, g2, g3⟩ := rd_out h.ext hr hst
  exact ⟨g1, g2, (g3 p2 hF.h2 (fun e => hF.d3 e.symm) (bl_lt h.b2)).trans h.b2, (g3 p hF.h (fun e => hF.d1 e.symm) (bl_lt h.bc)).trans h.bc⟩

-- NEXT
set_option maxHeartbeats 8000000 in
set_option maxRecDepth 20000 in
theorem next_c {w0 : World} {l : List Int} {A1 A2 : Option Addr} {c1 c2 p p1 p2 i : Nat} {w : World} (hL : Lies w0 l A1 A2 c1 c2) (hF : Fresh3 w0.heap.size p p1 p2) (hC : Cur w0 l A1 A2 c1 c2 p p1 p2 (i * lowF l) (i + wasN (lowF l) l i) i (wasN (lowF l) l i) w) (hi : i < l.length) :
    Calls Try.prog 28 #[.pointer (some ⟨p, 0, none⟩)] w fun e w' => e = .returned (.tuple #[.int .u32 (val l i), .bool true]) ∧ Cur w0 l A1 A2 c1 c2 p p1 p2 ((i + 1) * lowF l) (i + 1 + wasN (lowF l) l (i + 1)) (i + 1) (wasN (lowF l) l (i + 1)) w' := by
  have hk31 := lies_low hL (by omega)
  have hle := hL.le
  have hx := hL.u.at hi
  have hxl := hL.u.at (i := l.length - 1) (by omega)
  have hhi := high_at hL.nf (lowF l) hi
  have hlo := low_at (lowF l) l hi
  have hul := up_le hL.nf (lowF l) (show i ≤ l.length - 1 by omega) (by omega)
  have hub := up_bound hL.nf hL.u hi
  have hwu := was_le hL.nf (lowF l) hi
  have hmu := up_bound hL.nf hL.u (i := l.length - 1) (by omega)
  have HL := Lib.hid hL
  have HF := Lib.hid hF
  obtain ⟨n, hn⟩ : ∃ n, val l i = n := ⟨_, rfl⟩
  have hn4 : n < 4294967296 := by rw [← hn]; unfold val; omega
  obtain ⟨X, hX⟩ : ∃ X, lastN l = X := ⟨_, rfl⟩
  have hX4 : X < 4294967296 := by rw [← hX]; unfold lastN val; omega
  obtain ⟨M, hM⟩ : ∃ M, upN (lowF l) l (l.length - 1) = M := ⟨_, rfl⟩
  have hxM : (X : Int) / 2 ^ lowF l = (M : Int) := by
    rw [← hM, ← hX]
    show ((lastN l : Nat) : Int) / 2 ^ lowF l = ((lastN l / 2 ^ lowF l : Nat) : Int)
    rw [Int.natCast_ediv, Int.natCast_pow]; rfl
  obtain ⟨U, hU⟩ : ∃ U, upN (lowF l) l i = U := ⟨_, rfl⟩
  have hnU : n / 2 ^ lowF l = U := by rw [← hU, ← hn]; rfl
  obtain ⟨V, hV⟩ : ∃ V, wasN (lowF l) l i = V := ⟨_, rfl⟩
  have hws : wasN (lowF l) l (i + 1) = U := hU
  rw [hU, hV] at hhi hwu
  rw [hU, hM] at hul
  rw [hU] at hub
  rw [hM] at hmu
  rw [hn] at hlo
  obtain ⟨D, hD⟩ : ∃ D, U - V = D := ⟨_, rfl⟩
  rw [hD] at hhi
  have hdm : D ≤ M := by omega
  obtain ⟨W, hW⟩ : ∃ W, n % 2 ^ lowF l = W := ⟨_, rfl⟩
  rw [hW] at hlo
  have hglue := glue hn4 hk31
  rw [hnU, hW] at hglue
  have hWle : W < 4294967296 := by rw [← hW]; exact Nat.lt_of_le_of_lt (Nat.mod_le _ _) hn4
  obtain ⟨a1, ha1⟩ : ∃ a1, i * lowF l = a1 := ⟨_, rfl⟩
  obtain ⟨a2, ha2⟩ : ∃ a2, i + V = a2 := ⟨_, rfl⟩
  rw [ha2] at hhi
  rw [ha1] at hlo
  rw [hV, ha1, ha2] at hC
  have HEND := Lib.hid (show (i + 1) * lowF l = a1 + lowF l ∧ i + 1 + U = a2 + D + 1 from ⟨by rw [Nat.succ_mul, ha1], by omega⟩)
  have hkof : kOf ((lowF l : Nat) : Int) = lowF l := by unfold kOf; omega
  have HHB := Lib.hid (show Ones (highF l) a2 D ∧ bitAt (highF l) (a2 + D) = false ∧ a2 + D < 8 * (highF l).length from hhi)
  have HLB := Lib.hid (show num (lowsF l) a1 (lowF l) = W ∧ a1 + lowF l ≤ 8 * (lowsF l).length from hlo)
  have HBY2 := Lib.hid (show ∀ x ∈ highF l, 0 ≤ x ∧ x ≤ 255 from (pack_all _).1)
  have HBY1 := Lib.hid (show ∀ x ∈ lowsF l, 0 ≤ x ∧ x ≤ 255 from (pack_all _).1)
  have hlen2 : (highF l).length ≤ 1000000000 := by
    have h1 : (highF l).length = _ := pack_length (highT (lowF l) l l.length)
    have h2 := highT_len hL.nf (lowF l) l.length (Nat.le_refl _)
    have h3 : wasN (lowF l) l l.length ≤ 8192 := by
      rw [show l.length = (l.length - 1) + 1 by omega]
      show upN (lowF l) l (l.length - 1) ≤ 8192
      omega
    omega
  have hlen1 : (lowsF l).length ≤ 1000000000 := by
    have h1 : (lowsF l).length = _ := pack_length (lowT (lowF l) l l.length)
    have h2 := lowT_len (lowF l) l l.length
    have h3 : l.length * lowF l ≤ 4096 * 31 := Nat.mul_le_mul hle hk31
    omega
  have hwr1 : IntKind.u32.wrap (D : Int) = D := by
    have : IntKind.u32.wrap (D : Int) = (D : Int) % 4294967296 := by simp [IntKind.wrap, IntKind.bits, IntKind.signed]
    rw [this]; omega
  have hwr2 : IntKind.u32.wrap ((V : Int) + (D : Int)) = U := by
    have : IntKind.u32.wrap ((V : Int) + (D : Int)) = ((V : Int) + (D : Int)) % 4294967296 := by simp [IntKind.wrap, IntKind.bits, IntKind.signed]
    rw [this]; omega
  have hwr3 : IntKind.u32.wrap (W : Int) = W := by
    have : IntKind.u32.wrap (W : Int) = (W : Int) % 4294967296 := by simp [IntKind.wrap, IntKind.bits, IntKind.signed]
    rw [this]; omega
  have hge : decide ((l.length : Int) ≤ (i : Int)) = false := by simp; omega
  rw [hn, hws, HEND.out.1, HEND.out.2]
  have HC := Lib.hid hC
  clear hL hF hx hxl hhi hlo hn hM hU hV hws hD hW hnU ha1 ha2 HEND
  have c0 := bl_cell hC.bc 0
  have cc1 := bl_cell hC.bc 1
  have cc2 := bl_cell hC.bc 2
  have c5 := bl_cell hC.bc 5
  have c6 := bl_cell hC.bc 6
  have c7 := bl_cell hC.bc 7
  have c8 := bl_cell hC.bc 8
  simp only [List.getElem?_toArray, List.getElem?_cons_zero, List.getElem?_cons_succ] at c0 cc1 cc2 c5 c6 c7 c8
  rw [hX] at cc1
  have hnT : ¬ (p = p2 ∨ p < w0.heap.size) := fun e => e.elim (fun e => HF.out.d2 e.symm) (fun e => by have := HF.out.h; omega)
  have hnT1 : ¬ (p = p1 ∨ p < w0.heap.size) := fun e => e.elim (fun e => HF.out.d1 e.symm) (fun e => by have := HF.out.h; omega)
  have HX := Lib.hid hX
  clear hC hX
  go_enter Try.func28, Try.ntmps28
  go_wp2_with fail
  go_quiet (fail)
  go_wp2_with fail
  have HC1 := Lib.hid (HC.out.later (Wire.ext_drewN w nq))
  clear c0 cc1 cc2 c5 c6 c7 c8 HC
  generalize w.drewN nq = wd at HC1 ⊢
  have cc1 := bl_cell HC1.out.bc 1
  have cc2 := bl_cell HC1.out.bc 2
  have c6 := bl_cell HC1.out.bc 6
  have c8 := bl_cell HC1.out.bc 8
  simp only [List.getElem?_toArray, List.getElem?_cons_zero, List.getElem?_cons_succ] at cc1 cc2 c6 c8
  rw [HX.out] at cc1
  obtain ⟨G1, hG1⟩ : ∃ G1 : World → Prop, G1 = Cur w0 l A1 A2 c1 c2 p p1 p2 a1 (a2 + D + 1) i V := ⟨_, rfl⟩
  have HGE1 : RowKit.Hid (∀ a b, G1 a → Ext a b → G1 b) := Lib.hid (by rw [hG1]; exact fun a b h e => h.later e)
  have HGI1 : RowKit.Hid (∀ w, Cur w0 l A1 A2 c1 c2 p p1 p2 a1 (a2 + D + 1) i V w → G1 w) := Lib.hid (by rw [hG1]; exact fun w h => h)
  have HGO1 : RowKit.Hid (∀ w, G1 w → Cur w0 l A1 A2 c1 c2 p p1 p2 a1 (a2 + D + 1) i V w) := Lib.hid (by rw [hG1]; exact fun w h => h)
  clear hG1
  refine wp_region_next (by kernel_rfl) ?_
  refine next_win 0 24 Ext (Wire.RK (fun k => k = p2 ∨ k < w0.heap.size) G1) 21 2097136 (Wire.RK.ext HGE1.out) Ext.refl Ext.trans (Wire.RK.refl _ _) (Wire.RK.trans _ _) [[(0, none)], [(19, some 0)], [(20, some 1)], [(21, some 2)], [(0, none)], [(23, some 4)], [(24, some 5)], [(25, some 6)], [(0, none)], [(27, some 8)], [(28, some 9)], [(29, some 10)], [(30, some 11)], [(0, none)], [(32, some 13)], [(33, some 14)], [(34, some 15)], [(35, some 16)], [(31, some 12), (36, some 17)], [(37, some 18)], [(38, some 19)], [(26, some 7), (39, some 20)], [(40, some 21)], [(22, some 3), (41, some 22)]] [some 19, some 20, some 21, some 22, some 23, some 24, some 25, some 26, some 27, some 28, some 29, some 30, some 31, some 32, some 33, some 34, some 35, some 36, some 37, some 38, some 39, some 40, some 41, some 42] (by kernel_rfl) (by kernel_rfl) (by kernel_rfl) (by kernel_rfl) ?_
  intro Nx hNx
  -- 0: slot 19 := Op.move (t0)
  apply relyD_const (by decide) (by decide); case h => (intro wr hR a' h0 K hK; go_wp2_with fail; exact Ext.refl _)
  -- 1: slot 20 := Op.nilCheck (t19)
  apply relyD_const (by decide) (by decide); case h => (intro wr hR a' h19 K hK; go_wp2_with fail; exact Ext.refl _)
  -- 2: slot 21 := Op.fieldAddr 93 (t20) 4
  apply relyD_const (by decide) (by decide); case h => (intro wr hR a' h20 K hK; go_wp2_with fail; exact Ext.refl _)
  -- 3: slot 22 := Op.load 26 (t21)
  apply relyD_const (by decide) (by decide); case h => (intro wr hR a' h21 K hK; have cl := (Wire.keep_undrew hR.1).cell c8 hnT; go_wp2_with fail; exact Ext.refl _)
  -- 4: slot 23 := Op.move (t0)
  apply relyD_const_e (by decide) (by decide); case h => (intro wr hR a' h0 K hK; go_wp2_with fail; exact Ext.refl _)
  -- 5: slot 24 := Op.nilCheck (t23)
  apply relyD_const_e (by decide) (by decide); case h => (intro wr hR a' h23 K hK; go_wp2_with fail; exact Ext.refl _)
  -- 6: slot 25 := Op.fieldAddr 93 (t24) 2
  apply relyD_const_e (by decide) (by decide); case h => (intro wr hR a' h24 K hK; go_wp2_with fail; exact Ext.refl _)
  -- 7: slot 26 := Op.load 90 (t25)
  apply relyD_const_e (by decide) (by decide); case h => (intro wr hR a' h25 K hK; have cl := Ext.cell hR.undrew c6; go_wp2_with fail; exact Ext.refl _)
  -- 8: slot 27 := Op.move (t0)
  apply relyD_const_e (by decide) (by decide); case h => (intro wr hR a' h0 K hK; go_wp2_with fail; exact Ext.refl _)
  -- 9: slot 28 := Op.nilCheck (t27)
  apply relyD_const_e (by decide) (by decide); case h => (intro wr hR a' h27 K hK; go_wp2_with fail; exact Ext.refl _)
  -- 10: slot 29 := Op.fieldAddr 93 (t28) 0
  apply relyD_const_e (by decide) (by decide); case h => (intro wr hR a' h28 K hK; go_wp2_with fail; exact Ext.refl _)
  -- 11: slot 30 := Op.fieldAddr 29 (t29) 1
  apply relyD_const_e (by decide) (by decide); case h => (intro wr hR a' h29 K hK; go_wp2_with fail; exact Ext.refl _)
  -- 12: slot 31 := Op.load 26 (t30)
  apply relyD_const_e (by decide) (by decide); case h => (intro wr hR a' h30 K hK; have cl := Ext.cell hR.undrew cc1; go_wp2_with fail; exact Ext.refl _)
  -- 13: slot 32 := Op.move (t0)
  apply relyD_const_e (by decide) (by decide); case h => (intro wr hR a' h0 K hK; go_wp2_with fail; exact Ext.refl _)
  -- 14: slot 33 := Op.nilCheck (t32)
  apply relyD_const_e (by decide) (by decide); case h => (intro wr hR a' h32 K hK; go_wp2_with fail; exact Ext.refl _)
  -- 15: slot 34 := Op.fieldAddr 93 (t33) 0
  apply relyD_const_e (by decide) (by decide); case h => (intro wr hR a' h33 K hK; go_wp2_with fail; exact Ext.refl _)
  -- 16: slot 35 := Op.fieldAddr 29 (t34) 2
  apply relyD_const_e (by decide) (by decide); case h => (intro wr hR a' h34 K hK; go_wp2_with fail; exact Ext.refl _)
  -- 17: slot 36 := Op.load 3 (t35)
  apply relyD_const_e (by decide) (by decide); case h => (intro wr hR a' h35 K hK; have cl := Ext.cell hR.undrew cc2; go_wp2_with fail; exact Ext.refl _)
  -- 18: slot 37 := Op.binOp BinOp.shr 26 (t31) (t36) 3
  apply relyD_const_e (by decide) (by decide); case h => (intro wr hR a' h31 h36 K hK; go_wp2_with fail; exact Ext.refl _)
  -- 19: slot 38 := Op.convert 26 3 (t37)
  apply relyD_const_e (by decide) (by decide); case h => (intro wr hR a' h37 K hK; go_wp2_with fail; exact Ext.refl _)
  -- 20: slot 39 := Op.binOp BinOp.add 3 (t38) (Operand.const (Value.int IntKind.i64 1)) 3
  apply relyD_const_e (by decide) (by decide); case h => (intro wr hR a' h38 K hK; go_wp2_with fail; exact Ext.refl _)
  -- 21: slot 40 := Op.call { callee := Callee.value (Operand.func 55), args := #[t26, t39], argTypes := #[90, 3] }
  refine relyD_the rfl (fun v w => v = .int .i64 ((D : Nat) : Int) ∧ G1 w) (fun _ _ _ h r => ⟨h.1, r.2 h.2⟩) ?h21 ?_
  case h21 =>
    intro wr hR a' h26 h39 K hK
    have HK := Lib.hid hK
    have HB := Lib.hid (HC1.out.later hR.undrew)
    clear hK
    go_wp2_with fail
    refine (unary_ok p2 A2 c2 (highF l) a2 D ((M : Int) + 1) (Old w0) (loc_old w0) (fun w S h => old_reads h HL.out.r2) HBY2.out hlen2 HHB.out.2.2 HHB.out.1 HHB.out.2.1 (show ((D : Nat) : Int) ≤ (M : Int) + 1 by omega) _ _ (rd_of A2 c2 (highF l) _ HF.out.h2 HB.out.ext HB.out.b2)).mono ?_
    rintro e w2 ⟨S2, ⟨rfl, h2⟩, st2⟩
    have hg := HGI1.out _ (Cur.rd2 HF.out HB.out h2 st2)
    have hk2 : Wire.RK (fun k => k = p2 ∨ k < w0.heap.size) G1 wr w2 := ⟨st2.keep, fun _ => hg⟩
    have HK2 := Lib.hid hk2
    have HG2 := Lib.hid hg
    clear h2 st2 hg hk2
    go_wp2_with fail
    exact HK.out _ _ HK2.out ⟨rfl, HG2.out⟩
  -- 22: slot 41 := Op.convert 3 26 (t40)
  apply relyD_const (by decide) (by decide); case h => (rintro wr hR a' v h40 ⟨rfl, _⟩ K hK; go_wp2_with fail; exact Ext.refl _)
  -- 23: slot 42 := Op.binOp BinOp.add 26 (t22) (t41) 26
  apply relyD_const (by decide) (by decide); case h => (intro wr hR a' h22 h41 K hK; go_wp2_with fail; exact Ext.refl _)
  refine relyD_end ?_
  intro wr hR
  simp only [had, List.take_succ_cons, List.take_zero, List.map_cons, List.map_nil, List.cons_append, List.nil_append, ends, Act.put, List.setIfInBounds_toArray, List.set_cons_zero, List.set_cons_succ]
  rintro v40 ⟨rfl, hg1⟩
  refine hNx _ _ ?_
  have HC2 := Lib.hid (HGO1.out _ hg1)
  obtain ⟨G2, hG2⟩ : ∃ G2 : World → Prop, G2 = Cur w0 l A1 A2 c1 c2 p p1 p2 a1 (a2 + D + 1) i U := ⟨_, rfl⟩
  have HGE2 : RowKit.Hid (∀ a b, G2 a → Ext a b → G2 b) := Lib.hid (by rw [hG2]; exact fun a b h e => h.later e)
  have HGI2 : RowKit.Hid (∀ w, Cur w0 l A1 A2 c1 c2 p p1 p2 a1 (a2 + D + 1) i U w → G2 w) := Lib.hid (by rw [hG2]; exact fun w h => h)
  have HGO2 : RowKit.Hid (∀ w, G2 w → Cur w0 l A1 A2 c1 c2 p p1 p2 a1 (a2 + D + 1) i U w) := Lib.hid (by rw [hG2]; exact fun w h => h)
  clear hG2 hg1 hR HGE1 HGI1 HGO1 HC1
  refine next_win 24 27 Ext (Wire.RK (fun k => k = p) G2) 26 67108863 (Wire.RK.ext HGE2.out) Ext.refl Ext.trans (Wire.RK.refl _ _) (Wire.RK.trans _ _) [[(19, none)], [(43, some 24)], [(44, some 25), (42, none)]] [none, none, none, none, none, none, none, none, none, none, none, none, none, none, none, none, none, none, none, none, none, none, none, none, some 43, some 44, none] (by kernel_rfl) (by kernel_rfl) (by kernel_rfl) (by kernel_rfl) ?_
  intro Nx hNx
  -- 24: slot 43 := Op.nilCheck (t19)
  apply relyD_const_e (by decide) (by decide); case h => (intro wr hR a' h19 K hK; go_wp2_with fail; exact Ext.refl _)
  -- 25: slot 44 := Op.fieldAddr 93 (t43) 4
  apply relyD_const_e (by decide) (by decide); case h => (intro wr hR a' h43 K hK; go_wp2_with fail; exact Ext.refl _)
  -- 26: slot None := Op.store 26 (t44) (t42)
  refine relyD_the rfl (fun v w => G2 w) (fun _ _ _ h r => r.2 h) ?h26 ?_
  case h26 =>
    intro wr hR a' h44 h42 K hK
    have HK := Lib.hid hK
    have HB := Lib.hid (HC2.out.later hR)
    have hc8 := bl_cell HB.out.bc 8
    have hf8 := bl_free HB.out.bc 8
    simp only [List.getElem?_toArray, List.getElem?_cons_zero, List.getElem?_cons_succ] at hc8
    have hg := HGI2.out _ (Cur.setUp HF.out HB.out U)
    have hk2 : Wire.RK (fun k => k = p) G2 wr (wr.setCell ⟨p, 8, none⟩ (.int .u32 U)) := ⟨(Keep.refl (fun k => k = p) wr).setCell (p := ⟨p, 8, none⟩) (fun _ => rfl) _, fun _ => hg⟩
    have HK2 := Lib.hid hk2
    have HG2 := Lib.hid hg
    clear hK hg hk2
    go_wp2_with fail
    exact HK.out undef _ HK2.out HG2.out
  refine relyD_end ?_
  intro wr hR
  simp only [had, List.take_succ_cons, List.take_zero, List.map_cons, List.map_nil, List.cons_append, List.nil_append, ends, Act.put, List.setIfInBounds_toArray, List.set_cons_zero, List.set_cons_succ]
  rintro v_ hg2
  refine hNx _ _ ?_
  refine next_done rfl ?_
  try simp only [Act.put, List.setIfInBounds_toArray, List.set_cons_zero, List.set_cons_succ]
  have HC3 := Lib.hid (HGO2.out _ hg2)
  clear hg2 hR HGE2 HGI2 HGO2 HC2 cc1 cc2 c6 c8 hNx
  go_wp2_with fail
  generalize wr = we at HC3 ⊢
  have d2 := bl_cell HC3.out.bc 2
  have d5 := bl_cell HC3.out.bc 5
  have d8 := bl_cell HC3.out.bc 8
  simp only [List.getElem?_toArray, List.getElem?_cons_zero, List.getElem?_cons_succ] at d2 d5 d8
  obtain ⟨G3, hG3⟩ : ∃ G3 : World → Prop, G3 = Cur w0 l A1 A2 c1 c2 p p1 p2 (a1 + lowF l) (a2 + D + 1) i U := ⟨_, rfl⟩
  have HGE3 : RowKit.Hid (∀ a b, G3 a → Ext a b → G3 b) := Lib.hid (by rw [hG3]; exact fun a b h e => h.later e)
  have HGI3 : RowKit.Hid (∀ w, Cur w0 l A1 A2 c1 c2 p p1 p2 (a1 + lowF l) (a2 + D + 1) i U w → G3 w) := Lib.hid (by rw [hG3]; exact fun w h => h)
  have HGO3 : RowKit.Hid (∀ w, G3 w → Cur w0 l A1 A2 c1 c2 p p1 p2 (a1 + lowF l) (a2 + D + 1) i U w) := Lib.hid (by rw [hG3]; exact fun w h => h)
  clear hG3
  refine wp_region_next (by kernel_rfl) ?_
  refine next_win 0 23 Ext (Wire.RK (fun k => k = p1 ∨ k < w0.heap.size) G3) 19 523264 (Wire.RK.ext HGE3.out) Ext.refl Ext.trans (Wire.RK.refl _ _) (Wire.RK.trans _ _) [[(0, none)], [(45, some 0)], [(46, some 1)], [(47, some 2)], [(0, none)], [(49, some 4)], [(50, some 5)], [(51, some 6)], [(52, some 7)], [(48, some 3), (53, some 8)], [(0, none)], [(55, some 10)], [(56, some 11)], [(57, some 12)], [(0, none)], [(59, some 14)], [(60, some 15)], [(61, some 16)], [(62, some 17)], [(58, some 13), (63, some 18)], [(64, some 19)], [(54, some 9), (65, some 20)], [(66, some 21)]] [some 45, some 46, some 47, some 48, some 49, some 50, some 51, some 52, some 53, some 54, some 55, some 56, some 57, some 58, some 59, some 60, some 61, some 62, some 63, some 64, some 65, some 66, some 4] (by kernel_rfl) (by kernel_rfl) (by kernel_rfl) (by kernel_rfl) ?_
  intro Nx hNx
  -- 0: slot 45 := Op.move (t0)
  apply relyD_const (by decide) (by decide); case h => (intro wr hR a' h0 K hK; go_wp2_with fail; exact Ext.refl _)
  -- 1: slot 46 := Op.nilCheck (t45)
  apply relyD_const (by decide) (by decide); case h => (intro wr hR a' h45 K hK; go_wp2_with fail; exact Ext.refl _)
  -- 2: slot 47 := Op.fieldAddr 93 (t46) 4
  apply relyD_const (by decide) (by decide); case h => (intro wr hR a' h46 K hK; go_wp2_with fail; exact Ext.refl _)
  -- 3: slot 48 := Op.load 26 (t47)
  apply relyD_const (by decide) (by decide); case h => (intro wr hR a' h47 K hK; have cl := (Wire.keep_undrew hR.1).cell d8 hnT1; go_wp2_with fail; exact Ext.refl _)
  -- 4: slot 49 := Op.move (t0)
  apply relyD_const (by decide) (by decide); case h => (intro wr hR a' h0 K hK; go_wp2_with fail; exact Ext.refl _)
  -- 5: slot 50 := Op.nilCheck (t49)
  apply relyD_const (by decide) (by decide); case h => (intro wr hR a' h49 K hK; go_wp2_with fail; exact Ext.refl _)
  -- 6: slot 51 := Op.fieldAddr 93 (t50) 0
  apply relyD_const (by decide) (by decide); case h => (intro wr hR a' h50 K hK; go_wp2_with fail; exact Ext.refl _)
  -- 7: slot 52 := Op.fieldAddr 29 (t51) 2
  apply relyD_const (by decide) (by decide); case h => (intro wr hR a' h51 K hK; go_wp2_with fail; exact Ext.refl _)
  -- 8: slot 53 := Op.load 3 (t52)
  apply relyD_const (by decide) (by decide); case h => (intro wr hR a' h52 K hK; have cl := (Wire.keep_undrew hR.1).cell d2 hnT1; go_wp2_with fail; exact Ext.refl _)
  -- 9: slot 54 := Op.binOp BinOp.shl 26 (t48) (t53) 3
  apply relyD_const (by decide) (by decide); case h => (intro wr hR a' h48 h53 K hK; go_wp2_with fail; exact Ext.refl _)
  -- 10: slot 55 := Op.move (t0)
  apply relyD_const_e (by decide) (by decide); case h => (intro wr hR a' h0 K hK; go_wp2_with fail; exact Ext.refl _)
  -- 11: slot 56 := Op.nilCheck (t55)
  apply relyD_const_e (by decide) (by decide); case h => (intro wr hR a' h55 K hK; go_wp2_with fail; exact Ext.refl _)
  -- 12: slot 57 := Op.fieldAddr 93 (t56) 1
  apply relyD_const_e (by decide) (by decide); case h => (intro wr hR a' h56 K hK; go_wp2_with fail; exact Ext.refl _)
  -- 13: slot 58 := Op.load 90 (t57)
  apply relyD_const_e (by decide) (by decide); case h => (intro wr hR a' h57 K hK; have cl := Ext.cell hR.undrew d5; go_wp2_with fail; exact Ext.refl _)
  -- 14: slot 59 := Op.move (t0)
  apply relyD_const_e (by decide) (by decide); case h => (intro wr hR a' h0 K hK; go_wp2_with fail; exact Ext.refl _)
  -- 15: slot 60 := Op.nilCheck (t59)
  apply relyD_const_e (by decide) (by decide); case h => (intro wr hR a' h59 K hK; go_wp2_with fail; exact Ext.refl _)
  -- 16: slot 61 := Op.fieldAddr 93 (t60) 0
  apply relyD_const_e (by decide) (by decide); case h => (intro wr hR a' h60 K hK; go_wp2_with fail; exact Ext.refl _)
  -- 17: slot 62 := Op.fieldAddr 29 (t61) 2
  apply relyD_const_e (by decide) (by decide); case h => (intro wr hR a' h61 K hK; go_wp2_with fail; exact Ext.refl _)
  -- 18: slot 63 := Op.load 3 (t62)
  apply relyD_const_e (by decide) (by decide); case h => (intro wr hR a' h62 K hK; have cl := Ext.cell hR.undrew d2; go_wp2_with fail; exact Ext.refl _)
  -- 19: slot 64 := Op.call { callee := Callee.value (Operand.func 56), args := #[t58, t63], argTypes := #[90, 3] }
  refine relyD_the rfl (fun v w => v = .int .u64 ((W : Nat) : Int) ∧ G3 w) (fun _ _ _ h r => ⟨h.1, r.2 h.2⟩) ?h19 ?_
  case h19 =>
    intro wr hR a' h58 h63 K hK
    have HK := Lib.hid hK
    have HB := Lib.hid (HC3.out.later hR.undrew)
    clear hK
    go_wp2_with fail
    have htk := take_c p1 A1 c1 (lowsF l) a1 ((lowF l : Nat) : Int) (Old w0) (loc_old w0) (fun w S h => old_reads h HL.out.r1) HBY1.out hlen1 (by rw [hkof]; exact HLB.out.2)
    rw [hkof, HLB.out.1] at htk
    refine (htk _ _ (rd_of A1 c1 (lowsF l) _ HF.out.h1 HB.out.ext HB.out.b1)).mono ?_
    clear htk
    rintro e w2 ⟨S2, ⟨rfl, h2⟩, st2⟩
    have hg := HGI3.out _ (Cur.rd1 HF.out HB.out h2 st2)
    have hk2 : Wire.RK (fun k => k = p1 ∨ k < w0.heap.size) G3 wr w2 := ⟨st2.keep, fun _ => hg⟩
    have HK2 := Lib.hid hk2
    have HG2 := Lib.hid hg
    clear h2 st2 hg hk2
    go_wp2_with fail
    exact HK.out _ _ HK2.out ⟨rfl, HG2.out⟩
  -- 20: slot 65 := Op.convert 37 26 (t64)
  apply relyD_const (by decide) (by decide); case h => (rintro wr hR a' v h64 ⟨rfl, _⟩ K hK; go_wp2_with fail; exact Ext.refl _)
  -- 21: slot 66 := Op.binOp BinOp.or 26 (t54) (t65) 26
  apply relyD_const (by decide) (by decide); case h => (intro wr hR a' h54 h65 K hK; go_wp2_with fail; exact Ext.refl _)
  -- 22: slot 4 := Op.assign (t66)
  apply relyD_const (by decide) (by decide); case h => (intro wr hR a' h66 K hK; go_wp2_with fail; exact Ext.refl _)
  refine relyD_end ?_
  intro wr hR
  simp only [had, List.take_succ_cons, List.take_zero, List.map_cons, List.map_nil, List.cons_append, List.nil_append, ends, Act.put, List.setIfInBounds_toArray, List.set_cons_zero, List.set_cons_succ]
  rintro v64 ⟨rfl, hg3⟩
  refine hNx _ _ ?_
  refine next_done rfl ?_
  try simp only [Act.put, List.setIfInBounds_toArray, List.set_cons_zero, List.set_cons_succ]
  have HC4 := Lib.hid (HGO3.out _ hg3)
  clear hg3 hR HGE3 HGI3 HGO3 HC3 d2 d5 d8 hNx
  generalize wr = wf at HC4 ⊢
  have c5 := bl_cell HC4.out.bc 5
  have c6 := bl_cell HC4.out.bc 6
  have c7 := bl_cell HC4.out.bc 7
  have f7 := bl_free HC4.out.bc 7
  simp only [List.getElem?_toArray, List.getElem?_cons_zero, List.getElem?_cons_succ] at c5 c6 c7
  go_wp2_with fail
  refine (short_is p2 A2 c2 (highF l) _ false (Old w0) wf _ (rd_of A2 c2 (highF l) _ HF.out.h2 HC4.out.ext HC4.out.b2)).mono ?_
  rintro e w5 ⟨rfl, rfl⟩
  go_wp2_with fail
  refine (short_is p1 A1 c1 (lowsF l) _ false (Old w0) _ _ (rd_of A1 c1 (lowsF l) _ HF.out.h1 HC4.out.ext HC4.out.b1)).mono ?_
  rintro e w6 ⟨rfl, rfl⟩
  go_wp2_with fail
  go_ret2
  have hfin := Cur.setAt HF.out HC4.out (i + 1)
  have hg2 : Go.bits .or .u32 ((U : Int) * 2 ^ lowF l % 4294967296) (W : Int) = n := by
    have : IntKind.u32.wrap ((U : Int) * 2 ^ lowF l) = (U : Int) * 2 ^ lowF l % 4294967296 := by simp [IntKind.wrap, IntKind.bits, IntKind.signed]
    rw [← this]; exact hglue
  have hi2 : ((i : Int) + 1) = ((i + 1 : Nat) : Int) := by omega
  rw [hi2]
  exact ⟨by rw [hg2]; rfl, hfin⟩
end Go.Proofs.Ytlmelcfiegamaaa.Fano
