/- An argument's row of items (a number, a size, ones, which of the two): how it is read; the bits that the items ask for. -/
import Derived.Test.YtpgnlpcnancplaaBitsRef
import Derived.ChangeSlices
import Derived.Deep.Slices
import Derived.Lib.SmallJoins
namespace Go.Proofs.Ytpgnlpcnancplaa.Bits
open Go.RowKit Go.ChangeShapes Go.Proofs.Ytpgnlpcnancplaa.Own Go.Proofs.Ytpgnlpcnancplaa.Rely

structure It where
  n : Int
  size : Int
  ones : Int
  un : Bool
def z0 : It := ⟨0, 0, 0, false⟩
structure It.Ok (x : It) : Prop where
  n0 : 0 ≤ x.n
  n1 : x.n ≤ 18446744073709551615
  s0 : -9223372036854775808 ≤ x.size
  s1 : x.size ≤ 9223372036854775807
  o0 : 0 ≤ x.ones
  o1 : x.ones ≤ 255
/-- An argument's row of items. -/
structure ArgS (w : World) (A : Option Addr) (c : Nat) (xs : List It) : Prop where
  reads : ∀ i, i < xs.length → ∃ b o, A = some ⟨b, o, none⟩ ∧ b < w.heap.size ∧ w.cell? ⟨b, o + i * 4, none⟩ = some (.int .u64 (xs.getD i z0).n) ∧ w.cell? ⟨b, o + i * 4 + 1, none⟩ = some (.int .i64 (xs.getD i z0).size) ∧
    w.cell? ⟨b, o + i * 4 + 2, none⟩ = some (.int .u8 (xs.getD i z0).ones) ∧ w.cell? ⟨b, o + i * 4 + 3, none⟩ = some (.bool (xs.getD i z0).un)
  cap : xs.length ≤ c
  okay : ∀ x ∈ xs, x.Ok

theorem item_of {H : Type} {enc : TypeId × Value → H} {W : World} {A : Option Addr} {len cap : Nat} {d : DataW H} {p : List MemPlace}
    (h : DataW.Trod enc Try.prog W 0 (fun _ => true) true 54 (.slice A len cap) d p) : ∃ xs : List It, len = xs.length ∧ ArgS W A cap xs := by
  obtain ⟨fuel, hf⟩ := h
  have hsz : Try.prog.cellsOf 56 = 4 := by kernel_rfl
  rcases Go.Deep.open_slice Try.underlying54 hf with ⟨hcs, _⟩ | ⟨a, l, c, m, n, D, Pl, hcs, _, hl, hc, hm, _, hx⟩
  · simp [Value.cells] at hcs
    obtain ⟨rfl, rfl, rfl⟩ := hcs
    exact ⟨[], rfl, ⟨fun i hi => absurd hi (Nat.not_lt_zero i), by simp, (fun s hs => by cases hs)⟩⟩
  · simp [Value.cells] at hcs
    obtain ⟨rfl, rfl, rfl⟩ := hcs
    rw [hsz] at hx
    have key : ∀ i, i < len → ∃ s : It, ((W.cell? ((a.add (i * 4)).add 0) = some (.int .u64 s.n) ∧ W.cell? ((a.add (i * 4)).add 1) = some (.int .i64 s.size) ∧ W.cell? ((a.add (i * 4)).add 2) = some (.int .u8 s.ones) ∧ W.cell? ((a.add (i * 4)).add 3) = some (.bool s.un)) ∧ s.Ok) := by
      intro i hi
      obtain ⟨cs', h1, h2⟩ := hx i (by rw [hm, if_pos rfl]; omega)
      obtain ⟨_, hlen, hcell⟩ := World.cells?_some h1
      obtain ⟨y0, y1, y2, y3, n', _, _, e0, e1, e2, e3⟩ := Go.Joins.trod_struct4 Try.underlying56 h2
      match cs', hlen with
      | [u0, u1, u2, u3], _ =>
        have c1 : Try.prog.cellsOf 22 = 1 := by kernel_rfl
        have c2 : Try.prog.cellsOf 3 = 1 := by kernel_rfl
        have c3 : Try.prog.cellsOf 5 = 1 := by kernel_rfl
        have c4 : Try.prog.cellsOf 4 = 1 := by kernel_rfl
        simp only [c1, c2, c3, c4] at e0 e1 e2 e3
        obtain ⟨x0, g0, _, w0⟩ := DataW.trod_int Try.underlying22 e0
        obtain ⟨x1, g1, _, w1⟩ := DataW.trod_int Try.underlying3 e1
        obtain ⟨x2, g2, _, w2⟩ := DataW.trod_int Try.underlying5 e2
        obtain ⟨x3, g3, _⟩ := DataW.trod_bool Try.underlying4 e3
        simp at g0 g1 g2 g3
        subst g0 g1 g2 g3
        have w0' : (decide (0 ≤ x0) && decide (x0 ≤ 18446744073709551615)) = true := w0
        have w1' : (decide (-9223372036854775808 ≤ x1) && decide (x1 ≤ 9223372036854775807)) = true := w1
        have w2' : (decide (0 ≤ x2) && decide (x2 ≤ 255)) = true := w2
        simp only [Bool.and_eq_true, decide_eq_true_eq] at w0' w1' w2'
        have k0 := hcell 0 (by simp)
        have k1 := hcell 1 (by simp)
        have k2 := hcell 2 (by simp)
        have k3 := hcell 3 (by simp)
        exact ⟨⟨x0, x1, x2, x3⟩, ⟨k0, k1, k2, k3⟩, ⟨w0'.1, w0'.2, w1'.1, w1'.2, w2'.1, w2'.2⟩⟩
    haveI : Inhabited It := ⟨z0⟩
    obtain ⟨V, hV⟩ := Go.Deep.choose_lt key
    refine ⟨(List.range len).map V, by simp, ⟨fun i hi => ?_, by simpa using hl, fun s hs => ?_⟩⟩
    · have hi' : i < len := by simpa using hi
      have hg : ((List.range len).map V).getD i z0 = V i := by
        rw [List.getD_eq_getElem?_getD, List.getElem?_map, List.getElem?_range hi']; rfl
      rw [hg]
      obtain ⟨⟨q0, q1, q2, q3⟩, _⟩ := hV i hi'
      rcases a with ⟨b, o, s⟩
      cases s with
      | some q =>
        exfalso
        obtain ⟨⟨p0, _⟩, _⟩ := hV 0 (by omega)
        have e0 : ((⟨b, o, some q⟩ : Addr).add (0 * 4)).add 0 = ⟨b, o, some q⟩ := by rw [Nat.zero_mul]; unfold Addr.add; rfl
        rw [e0] at p0
        unfold World.cell? at p0
        split at p0
        · cases p0
        · cases p0
      | none =>
        rw [add_lit', add_lit'] at q0 q1 q2 q3
        rw [Nat.add_zero] at q0
        exact ⟨b, o, rfl, World.block_lt_of_cell? W ⟨b, o + i * 4, none⟩ q0, q0, q1, q2, q3⟩
    · obtain ⟨i, hi, rfl⟩ := List.mem_map.1 hs
      exact (hV i (by simpa using hi)).2

/-- An item's bits. -/
def itB (x : It) : List Bool := if x.un then List.replicate (x.ones % 40).toNat true ++ [false] else bitsOf x.n.toNat (kOf x.size)
def itsB : List It → List Bool
  | [] => []
  | x :: l => itB x ++ itsB l
theorem itsB_app : ∀ a b : List It, itsB (a ++ b) = itsB a ++ itsB b
  | [], b => rfl
  | x :: a, b => by simp only [List.cons_append, itsB, itsB_app a b, List.append_assoc]
theorem itB_len (x : It) : (itB x).length ≤ 64 := by
  unfold itB
  split
  · simp; omega
  · rw [bitsOf_length]; exact kOf_le _
theorem itsB_len : ∀ l : List It, (itsB l).length ≤ 64 * l.length
  | [] => by simp [itsB]
  | x :: l => by
    have h1 := itB_len x
    have h2 := itsB_len l
    simp only [itsB, List.length_append, List.length_cons]
    omega
theorem itsB_at (xs : List It) (k : Nat) (hk : k < xs.length) :
    itsB xs = itsB (xs.take k) ++ (itB (xs.getD k z0) ++ itsB (xs.drop (k + 1))) ∧ itsB (xs.take (k + 1)) = itsB (xs.take k) ++ itB (xs.getD k z0) := by
  have hx : xs.getD k z0 = xs[k] := by rw [List.getD_eq_getElem?_getD, List.getElem?_eq_getElem hk]; rfl
  have e1 : xs = xs.take k ++ (xs[k] :: xs.drop (k + 1)) := by rw [← List.drop_eq_getElem_cons hk, List.take_append_drop]
  have e2 : xs.take (k + 1) = xs.take k ++ [xs[k]] := by rw [List.take_add_one, List.getElem?_eq_getElem hk]; rfl
  rw [hx]
  constructor
  · conv => lhs; rw [e1]
    rw [itsB_app]; rfl
  · rw [e2, itsB_app]; simp [itsB]
/-- The bits at an item's place. -/
theorem itsB_get (xs : List It) (k : Nat) (hk : k < xs.length) :
    (∀ i, i < (itB (xs.getD k z0)).length → (itsB xs).getD ((itsB (xs.take k)).length + i) false = (itB (xs.getD k z0)).getD i false) ∧
      (itsB (xs.take (k + 1))).length = (itsB (xs.take k)).length + (itB (xs.getD k z0)).length ∧ (itsB (xs.take k)).length + (itB (xs.getD k z0)).length ≤ (itsB xs).length := by
  obtain ⟨h1, h2⟩ := itsB_at xs k hk
  rw [h1, h2]
  generalize itsB (xs.take k) = P
  generalize itsB (xs.drop (k + 1)) = Q
  generalize itB (xs.getD k z0) = X
  refine ⟨fun i hi => ?_, by simp, by simp⟩
  rw [List.getD_eq_getElem?_getD, List.getElem?_append_right (by omega), Nat.add_sub_cancel_left, List.getElem?_append_left hi, ← List.getD_eq_getElem?_getD]
/-- A number's bits, taken, are the number below the size's power. -/
theorem bitsOf_getD (n : Nat) : ∀ k i, i < k → (bitsOf n k).getD i false = (n / 2 ^ (k - 1 - i) % 2 == 1)
  | 0, i, h => by omega
  | k + 1, 0, h => by simp [bitsOf]
  | k + 1, i + 1, h => by
    have := bitsOf_getD n k i (by omega)
    simp only [bitsOf, List.getD_cons_succ]
    rw [this, show k + 1 - 1 - (i + 1) = k - 1 - i by omega]
theorem num_bits {B : List Int} {at_ n k : Nat} (h : ∀ i, i < k → bitAt B (at_ + i) = (n / 2 ^ (k - 1 - i) % 2 == 1)) : num B at_ k = n % 2 ^ k := by
  have key : ∀ j, j ≤ k → num B at_ j = n / 2 ^ (k - j) % 2 ^ j := by
    intro j
    induction j with
    | zero => intro _; simp [num, Nat.mod_one]
    | succ j ih =>
      intro hj
      have h1 := ih (by omega)
      have h2 := h j (by omega)
      simp only [num]
      rw [h1, h2]
      have e1 : k - j = (k - (j + 1)) + 1 := by omega
      have e2 : k - 1 - j = k - (j + 1) := by omega
      rw [e1, e2]
      generalize k - (j + 1) = d
      rw [Nat.pow_succ, ← Nat.div_div_eq_div_mul, Nat.pow_succ 2 j]
      generalize n / 2 ^ d = q
      have hm : q % (2 ^ j * 2) = 2 * (q / 2 % 2 ^ j) + q % 2 := by
        rw [Nat.mul_comm (2 ^ j) 2, Nat.mod_mul]; omega
      rw [hm]
      by_cases hb : q % 2 = 1
      · rw [hb]; simp
      · have : q % 2 = 0 := by omega
        rw [this]; simp
  have := key k (Nat.le_refl k)
  rw [this, Nat.sub_self]
  simp
end Go.Proofs.Ytpgnlpcnancplaa.Bits
