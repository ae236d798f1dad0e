/- How an argument that is a small frame is read. -/
import Derived.Test.YtfpeeilenocaoaaProg
import Derived.Test.YtfpeeilenocaoaaOwnB
import Derived.ChangeSlices
import Derived.Deep.Slices
import Derived.Deep.Strs
import Derived.WideShapes
namespace Go.Proofs.Ytfpeeilenocaoaa.Frame
open Go Go.RowKit Go.ChangeShapes Go.WideShapes Go.Proofs.Ytfpeeilenocaoaa.Own

theorem slice_shape {H : Type} {enc : TypeId × Value → H} {W : World} {n : Nat} {u : Value} {y : DataW H × List MemPlace}
    (h : DataW.trod enc Try.prog W 0 (fun _ => true) true n 22 [u] = some y) : ∃ A len cap, u = .slice A len cap := by
  rcases open_ints Try.underlying22 Try.underlying5 (by kernel_rfl) h with ⟨hcs, _⟩ | ⟨x, l, c, zs, hcs, _⟩
  · simp at hcs; exact ⟨_, _, _, hcs⟩
  · simp at hcs; exact ⟨_, _, _, hcs⟩
theorem small_of {H : Type} {enc : TypeId × Value → H} {W : World} {base : Nat} {v : Value} {d : DataW H} {p : List MemPlace}
    (hv : Value.okWide Try.prog W .any base 24 v) (h : DataW.Trod enc Try.prog W 0 (fun _ => true) true 24 v d p) :
    ∃ A1 c1 nm k A2 c2 pay, v = .agg #[.slice A1 (List.length nm) c1, .int .u8 k, .slice A2 (List.length pay) c2] ∧ ArgI W .u8 A1 c1 nm ∧ (Lit.int .u8 k).wf = true ∧ ArgI W .u8 A2 c2 pay := by
  obtain ⟨cs, rfl, _⟩ := okWide_struct Try.underlying24 hv
  obtain ⟨fuel, hf⟩ := h
  obtain ⟨y0, y1, y2, n, _, hlen, e0, e1, e2⟩ := Go.Deep.trod_struct3 Try.underlying24 hf
  have hc3 : Try.prog.cellsOf 24 = 3 := by kernel_rfl
  have hs1 : Try.prog.cellsOf 22 = 1 := by kernel_rfl
  have hs2 : Try.prog.cellsOf 5 = 1 := by kernel_rfl
  rw [hc3] at hlen
  simp only [Value.cells] at hlen e0 e1 e2
  simp only [hs1, hs2] at e0 e1 e2
  obtain ⟨u0, u1, u2, rfl⟩ : ∃ u0 u1 u2, cs = #[u0, u1, u2] := by
    rcases cs with ⟨l⟩
    match l, hlen with
    | [a, b, c], _ => exact ⟨a, b, c, rfl⟩
  simp only [List.drop_zero, List.drop_succ_cons, List.take_succ_cons, List.take_zero] at e0 e1 e2
  obtain ⟨A1, l1, c1, rfl⟩ := slice_shape e0
  obtain ⟨A2, l2, c2, rfl⟩ := slice_shape e2
  obtain ⟨nm, rfl, w1⟩ := argI_of (P := Try.prog) Try.underlying22 Try.underlying5 (by kernel_rfl) (show DataW.Trod enc Try.prog W 0 (fun _ => true) true 22 (.slice A1 l1 c1) y0.1 y0.2 from ⟨n, e0⟩)
  obtain ⟨pay, rfl, w2⟩ := argI_of (P := Try.prog) Try.underlying22 Try.underlying5 (by kernel_rfl) (show DataW.Trod enc Try.prog W 0 (fun _ => true) true 22 (.slice A2 l2 c2) y2.1 y2.2 from ⟨n, e2⟩)
  obtain ⟨x1, g1, _, w3⟩ := DataW.trod_int Try.underlying5 e1
  simp at g1
  subst g1
  exact ⟨A1, c1, nm, x1, A2, c2, pay, rfl, w1, w3, w2⟩
end Go.Proofs.Ytfpeeilenocaoaa.Frame
