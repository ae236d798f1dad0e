/- How an argument of pairs (a hash, a number) is read. -/
import Derived.Test.YthemincohmgihaaCmsPure
import Derived.Test.YthemincohmgihaaOwnB
import Derived.ChangeSlices
import Derived.Deep.Slices
namespace Go.Proofs.Ythemincohmgihaa.PCmsMerges
open Go Go.RowKit Go.ChangeShapes Go.Proofs.YthemincohmgihaaW.PrintWords

/-- An argument's row of pairs. -/
structure ArgS (W : World) (A : Option Addr) (c : Nat) (xs : List S54) : Prop where
  reads : Kd.C k54 W A xs.length xs
  cap : xs.length ≤ c
  okay : Okay xs
  hash : ∀ s ∈ xs, 0 ≤ s.f0 ∧ s.f0 ≤ 18446744073709551615

theorem seen_of {H : Type} {enc : TypeId × Value → H} {W : World} {A : Option Addr} {len cap : Nat} {d : DataW H} {p : List MemPlace}
    (h : DataW.Trod enc Try.prog W 0 (fun _ => true) true 46 (.slice A len cap) d p) :
    ∃ xs : List S54, len = xs.length ∧ ArgS W A cap xs := by
  obtain ⟨fuel, hf⟩ := h
  have hsz : Try.prog.cellsOf 54 = 2 := by kernel_rfl
  rcases Go.Deep.open_slice Try.underlying46 hf with ⟨hcs, _⟩ | ⟨a, l, c, m, n, D, Pl, hcs, _, hl, hc, hm, _, hx⟩
  · simp [Value.cells] at hcs
    obtain ⟨rfl, rfl, rfl⟩ := hcs
    exact ⟨[], rfl, ⟨⟨rfl, by simp, fun h => by simp at h⟩, by simp, (fun s hs => by cases hs), (fun s hs => by cases hs)⟩⟩
  · simp [Value.cells] at hcs
    obtain ⟨rfl, rfl, rfl⟩ := hcs
    rw [hsz] at hx
    have key : ∀ i, i < len → ∃ s : S54, (W.cell? (a.add (i * 2)) = some (.int .u64 s.f0) ∧ W.cell? (a.add (i * 2 + 1)) = some (.int .u32 s.f1)) ∧ (0 ≤ s.f1 ∧ s.f1 ≤ 4294967295) ∧ (0 ≤ s.f0 ∧ s.f0 ≤ 18446744073709551615) := by
      intro i hi
      obtain ⟨cs', h1, h2⟩ := hx i (by rw [hm, if_pos rfl]; omega)
      obtain ⟨_, hlen, hcell⟩ := World.cells?_some h1
      obtain ⟨y0, y1, n', _, _, e0, e1⟩ := trod_struct2 Try.underlying54 h2
      match cs', hlen with
      | [u0, u1], _ =>
        have c1 : Try.prog.cellsOf 24 = 1 := by kernel_rfl
        have c2 : Try.prog.cellsOf 22 = 1 := by kernel_rfl
        simp only [c1, c2] at e0 e1
        obtain ⟨x0, g0, _, w0⟩ := DataW.trod_int Try.underlying24 e0
        obtain ⟨x1, g1, _, w1⟩ := DataW.trod_int Try.underlying22 e1
        simp at g0 g1
        subst g0 g1
        have w0' : (decide (0 ≤ x0) && decide (x0 ≤ 18446744073709551615)) = true := w0
        have w1' : (decide (0 ≤ x1) && decide (x1 ≤ 4294967295)) = true := w1
        simp only [Bool.and_eq_true, decide_eq_true_eq] at w0' w1'
        have k0 := hcell 0 (by simp)
        have k1 := hcell 1 (by simp)
        exact ⟨⟨x0, x1⟩, ⟨by simpa [Addr.add] using k0, by rw [show a.add (i * 2 + 1) = (a.add (i * 2)).add 1 from (Addr.add_add ..).symm]; exact k1⟩, w1', w0'⟩
    haveI : Inhabited S54 := ⟨⟨0, 0⟩⟩
    obtain ⟨V, hV⟩ := Go.Deep.choose_lt key
    refine ⟨(List.range len).map V, by simp, ⟨⟨rfl, by simp; unfold maxLen at hc; omega, fun _ => ⟨a, rfl, fun j s hj => ?_⟩⟩, by simpa using hl, fun s hs => ?_, fun s hs => ?_⟩⟩
    · have hjl : j < len := by
        have := (List.getElem?_eq_some_iff.1 hj).1
        simpa using this
      rw [List.getElem?_map, List.getElem?_range hjl] at hj
      simp at hj
      subst hj
      refine ⟨_, rfl, k54_mk W _, ?_⟩
      intro i u hu
      match i, hu with
      | 0, hu => simp at hu; subst hu; exact (hV j hjl).1.1
      | 1, hu => simp at hu; subst hu; exact (hV j hjl).1.2
      | n + 2, hu => simp at hu
    · obtain ⟨i, hi, rfl⟩ := List.mem_map.1 hs
      exact (hV i (by simpa using hi)).2.1
    · obtain ⟨i, hi, rfl⟩ := List.mem_map.1 hs
      exact (hV i (by simpa using hi)).2.2

theorem u8_of {a : Int} (h : (Lit.int .u8 a).wf = true) : 0 ≤ a ∧ a ≤ 255 := by
  have h' : (decide (0 ≤ a) && decide (a ≤ 255)) = true := h
  simpa using h'
theorem u32_of {a : Int} (h : (Lit.int .u32 a).wf = true) : 0 ≤ a ∧ a ≤ 4294967295 := by
  have h' : (decide (0 ≤ a) && decide (a ≤ 4294967295)) = true := h
  simpa using h'

end Go.Proofs.Ythemincohmgihaa.PCmsMerges
