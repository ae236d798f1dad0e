/- An argument's row of the index's items: how it is read. -/
import Derived.Test.YtfpeeilenocaoaaIdx
import Derived.Test.YtfpeeilenocaoaaFrameR
import Derived.Lib.SmallJoins
namespace Go.Proofs.Ytfpeeilenocaoaa.Idx
open Go.RowKit Go.ChangeShapes Go.Proofs.Ytfpeeilenocaoaa.Own Go.Proofs.Ytfpeeilenocaoaa.Rely
open Go.Proofs.Ytfpeeilenocaoaa.Frame (slice_shape)

/-- A letter, a number, a size, the tail's bytes. -/
abbrev Itm := Int × Int × Int × List Int
def t0 : Itm := (0, 0, 0, [])
def Itm.Ok (x : Itm) : Prop := (0 ≤ x.1 ∧ x.1 ≤ 255) ∧ (0 ≤ x.2.1 ∧ x.2.1 ≤ 255) ∧ (0 ≤ x.2.2.1 ∧ x.2.2.1 ≤ 65535) ∧ IsBytes x.2.2.2
/-- Items that are read. -/
def ReadsI (w : World) (A : Option Addr) (l : List Itm) : Prop := ∀ i, i < l.length → ∃ b o A3 c3, A = some ⟨b, o, none⟩ ∧ b < w.heap.size ∧ w.cell? ⟨b, o + i * 4, none⟩ = some (.int .u8 (l.getD i t0).1) ∧ w.cell? ⟨b, o + i * 4 + 1, none⟩ = some (.int .u8 (l.getD i t0).2.1) ∧
  w.cell? ⟨b, o + i * 4 + 2, none⟩ = some (.int .u16 (l.getD i t0).2.2.1) ∧ w.cell? ⟨b, o + i * 4 + 3, none⟩ = some (.slice A3 (l.getD i t0).2.2.2.length c3) ∧ Reads w .u8 A3 (l.getD i t0).2.2.2 ∧ (l.getD i t0).2.2.2.length ≤ c3 ∧ c3 ≤ 9223372036854775807
theorem ReadsI.ext {w w' : World} {A : Option Addr} {l : List Itm} (h : ReadsI w A l) (x : Ext w w') : ReadsI w' A l := by
  intro i hi
  obtain ⟨b, o, A3, c3, e, hb, h0, h1, h2, h3, h4, h5⟩ := h i hi
  exact ⟨b, o, A3, c3, e, Nat.lt_of_lt_of_le hb x.size, x.cell h0, x.cell h1, x.cell h2, x.cell h3, x.reads h4, h5⟩
structure ArgT (w : World) (A : Option Addr) (c : Nat) (l : List Itm) : Prop where
  reads : ReadsI w A l
  cap : l.length ≤ c
  cap2 : c ≤ 9223372036854775807
  okay : ∀ x ∈ l, x.Ok
theorem itm_of {H : Type} {enc : TypeId × Value → H} {W : World} {A : Option Addr} {len cap : Nat} {d : DataW H} {p : List MemPlace}
    (h : DataW.Trod enc Try.prog W 0 (fun _ => true) true 48 (.slice A len cap) d p) : ∃ xs : List Itm, len = xs.length ∧ ArgT W A cap xs := by
  obtain ⟨fuel, hf⟩ := h
  have hsz : Try.prog.cellsOf 61 = 4 := by kernel_rfl
  rcases Go.Deep.open_slice Try.underlying48 hf with ⟨hcs, _⟩ | ⟨a, l, c, m, n, D, Pl, hcs, _, hl, hc, hm, _, hx⟩
  · simp [Value.cells] at hcs
    obtain ⟨rfl, rfl, rfl⟩ := hcs
    exact ⟨[], rfl, ⟨fun i hi => absurd hi (Nat.not_lt_zero i), by simp, by simp, (fun s hs => by cases hs)⟩⟩
  · simp [Value.cells] at hcs
    obtain ⟨rfl, rfl, rfl⟩ := hcs
    rw [hsz] at hx
    have key : ∀ i, i < len → ∃ s : Itm, (∃ A3 c3, W.cell? ((a.add (i * 4)).add 0) = some (.int .u8 s.1) ∧ W.cell? ((a.add (i * 4)).add 1) = some (.int .u8 s.2.1) ∧ W.cell? ((a.add (i * 4)).add 2) = some (.int .u16 s.2.2.1) ∧ W.cell? ((a.add (i * 4)).add 3) = some (.slice A3 s.2.2.2.length c3) ∧ ArgI W .u8 A3 c3 s.2.2.2) ∧ s.Ok := by
      intro i hi
      obtain ⟨cs', h1, h2⟩ := hx i (by rw [hm, if_pos rfl]; omega)
      obtain ⟨_, hlen, hcell⟩ := World.cells?_some h1
      obtain ⟨y0, y1, y2, y3, n', _, _, e0, e1, e2, e3⟩ := Go.Joins.trod_struct4 Try.underlying61 h2
      match cs', hlen with
      | [u0, u1, u2, u3], _ =>
        have c1 : Try.prog.cellsOf 5 = 1 := by kernel_rfl
        have c2 : Try.prog.cellsOf 25 = 1 := by kernel_rfl
        have c4 : Try.prog.cellsOf 22 = 1 := by kernel_rfl
        simp only [c1, c2, c4] at e0 e1 e2 e3
        obtain ⟨x0, g0, _, w0⟩ := DataW.trod_int Try.underlying5 e0
        obtain ⟨x1, g1, _, w1⟩ := DataW.trod_int Try.underlying5 e1
        obtain ⟨x2, g2, _, w2⟩ := DataW.trod_int Try.underlying25 e2
        simp at g0 g1 g2 e3
        obtain ⟨A3, l3, c3, rfl⟩ := slice_shape e3
        obtain ⟨tl, rfl, w3⟩ := argI_of (P := Try.prog) Try.underlying22 Try.underlying5 (by kernel_rfl) (show DataW.Trod enc Try.prog W 0 (fun _ => true) true 22 (.slice A3 l3 c3) y3.1 y3.2 from ⟨n', e3⟩)
        subst g0 g1 g2
        have w0' := wf_u8 w0
        have w1' := wf_u8 w1
        have w2' := wf_u16 w2
        have k0 := hcell 0 (by simp)
        have k1 := hcell 1 (by simp)
        have k2 := hcell 2 (by simp)
        have k3 := hcell 3 (by simp)
        exact ⟨(x0, x1, x2, tl), ⟨A3, c3, k0, k1, k2, k3, w3⟩, w0', w1', w2', fun x hx => wf_u8 (w3.rng x hx)⟩
    haveI : Inhabited Itm := ⟨t0⟩
    obtain ⟨V, hV⟩ := Go.Deep.choose_lt key
    refine ⟨(List.range len).map V, by simp, ⟨fun i hi => ?_, by simpa using hl, hc, fun s hs => ?_⟩⟩
    · have hi' : i < len := by simpa using hi
      have hg : ((List.range len).map V).getD i t0 = V i := by
        rw [List.getD_eq_getElem?_getD, List.getElem?_map, List.getElem?_range hi']; rfl
      rw [hg]
      obtain ⟨⟨A3, c3, q0, q1, q2, q3, q4⟩, _⟩ := hV i hi'
      rcases a with ⟨b, o, s⟩
      cases s with
      | some q =>
        exfalso
        obtain ⟨⟨_, _, p0, _⟩, _⟩ := hV 0 (by omega)
        have e0 : ((⟨b, o, some q⟩ : Addr).add (0 * 4)).add 0 = ⟨b, o, some q⟩ := by rw [Nat.zero_mul]; unfold Addr.add; rfl
        rw [e0] at p0
        unfold World.cell? at p0
        split at p0
        · cases p0
        · cases p0
      | none =>
        rw [add_lit', add_lit'] at q0 q1 q2 q3
        rw [Nat.add_zero] at q0
        exact ⟨b, o, A3, c3, rfl, World.block_lt_of_cell? W ⟨b, o + i * 4, none⟩ q0, q0, q1, q2, q3, q4.reads, q4.le, q4.cap⟩
    · obtain ⟨i, hi, rfl⟩ := List.mem_map.1 hs
      exact (hV i (by simpa using hi)).2
end Go.Proofs.Ytfpeeilenocaoaa.Idx
