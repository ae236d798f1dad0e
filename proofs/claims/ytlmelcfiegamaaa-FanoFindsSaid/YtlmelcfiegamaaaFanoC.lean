/- A row of numbers that don't fall: a cursor at its beginning, at its end; Select, From. -/
import Derived.Test.YtlmelcfiegamaaaFanoN
import Derived.Deep.RegionWith
namespace Go.Proofs.Ytlmelcfiegamaaa.Fano
open Go.RowKit Go.Proofs.Ytlmelcfiegamaaa.Own Go.Proofs.Ytlmelcfiegamaaa.Rely Go.Proofs.Ytlmelcfiegamaaa.Bits
attribute [local go_sem] max_ints min_ints

set_option maxHeartbeats 4000000 in
theorem next_end {w0 : World} {l : List Int} {A1 A2 : Option Addr} {c1 c2 p p1 p2 a1 a2 up : Nat} {w : World} (hl : l.length ≤ 4096) (hC : Cur w0 l A1 A2 c1 c2 p p1 p2 a1 a2 l.length up w) :
    Calls Try.prog 28 #[.pointer (some ⟨p, 0, none⟩)] w fun e w' => e = .returned (.tuple #[.int .u32 0, .bool false]) ∧ Cur w0 l A1 A2 c1 c2 p p1 p2 a1 a2 l.length up w' := by
  have HC := Lib.hid hC
  have c0 := bl_cell hC.bc 0
  have c7 := bl_cell hC.bc 7
  simp only [List.getElem?_toArray, List.getElem?_cons_zero, List.getElem?_cons_succ] at c0 c7
  have hge : decide ((l.length : Int) ≤ (l.length : Int)) = true := by simp
  clear hC
  go_enter Try.func28, Try.ntmps28
  go_wp2_with fail
  go_quiet (fail)
  go_wp2_with fail
  go_ret2
  exact ⟨rfl, HC.out.later (Wire.ext_drewN w _)⟩

theorem cur_made (w : World) (l : List Int) (A1 A2 : Option Addr) (c1 c2 n1 n2 : Nat) (h1 : (lowsF l).length = n1) (h2 : (highF l).length = n2) :
    Fresh3 w.heap.size (w.heap.size + 1 + 1 + 1) (w.heap.size + 1) (w.heap.size + 1 + 1) ∧ Cur w l A1 A2 c1 c2 (w.heap.size + 1 + 1 + 1) (w.heap.size + 1) (w.heap.size + 1 + 1) 0 0 0 0
      ((((w.alloc (.cells #[.int .i64 l.length, .int .u32 (lastN l), .int .i64 (lowF l), .slice A1 n1 c1, .slice A2 n2 c2] 29)).alloc (.cells #[.slice A1 n1 c1, .int .i64 0, .bool false] 113)).alloc (.cells #[.slice A2 n2 c2, .int .i64 0, .bool false] 113)).alloc
        (.cells #[.int .i64 l.length, .int .u32 (lastN l), .int .i64 (lowF l), .slice A1 n1 c1, .slice A2 n2 c2, .pointer (some ⟨w.heap.size + 1, 0, none⟩), .pointer (some ⟨w.heap.size + 1 + 1, 0, none⟩), .int .i64 0, .int .u32 0] 93)).drew := by
  subst h1 h2
  generalize hR : Obj.cells #[Value.int .i64 l.length, .int .u32 (lastN l), .int .i64 (lowF l), .slice A1 (lowsF l).length c1, .slice A2 (highF l).length c2] 29 = R
  refine ⟨⟨by omega, by omega, by omega, by omega, by omega, by omega⟩, ⟨?_, ?_, ?_, ?_⟩⟩
  · exact ((((Below.refl _ _).alloc (Nat.le_refl _) _).alloc (by simp) _).alloc (by simp; omega) _).alloc (by simp; omega) _ |>.drew
  · show (World.alloc _ _).heap[_]? = _
    rw [Below.heap_alloc _ _ _ (by simp), Below.heap_alloc _ _ _ (by simp)]
    have := heap_alloc_new (w.alloc R) (.cells #[.slice A1 (lowsF l).length c1, .int .i64 0, .bool false] 113)
    rwa [show (w.alloc R).heap.size = w.heap.size + 1 by simp] at this
  · show (World.alloc _ _).heap[_]? = _
    rw [Below.heap_alloc _ _ _ (by simp)]
    have := heap_alloc_new ((w.alloc R).alloc (.cells #[.slice A1 (lowsF l).length c1, .int .i64 0, .bool false] 113)) (.cells #[.slice A2 (highF l).length c2, .int .i64 0, .bool false] 113)
    rwa [show ((w.alloc R).alloc (.cells #[.slice A1 (lowsF l).length c1, .int .i64 0, .bool false] 113)).heap.size = w.heap.size + 1 + 1 by simp] at this
  · show (World.alloc _ _).heap[_]? = _
    have := heap_alloc_new (((w.alloc R).alloc (.cells #[.slice A1 (lowsF l).length c1, .int .i64 0, .bool false] 113)).alloc (.cells #[.slice A2 (highF l).length c2, .int .i64 0, .bool false] 113)) (.cells #[.int .i64 l.length, .int .u32 (lastN l), .int .i64 (lowF l), .slice A1 (lowsF l).length c1, .slice A2 (highF l).length c2, .pointer (some ⟨w.heap.size + 1, 0, none⟩), .pointer (some ⟨w.heap.size + 1 + 1, 0, none⟩), .int .i64 0, .int .u32 0] 93)
    rwa [show (((w.alloc R).alloc (.cells #[.slice A1 (lowsF l).length c1, .int .i64 0, .bool false] 113)).alloc (.cells #[.slice A2 (highF l).length c2, .int .i64 0, .bool false] 113)).heap.size = w.heap.size + 1 + 1 + 1 by simp] at this

set_option maxHeartbeats 4000000 in
theorem cursor_c {l : List Int} {A1 A2 : Option Addr} {c1 c2 : Nat} (w : World) :
    Calls Try.prog 27 #[.agg #[.int .i64 l.length, .int .u32 (lastN l), .int .i64 (lowF l), .slice A1 (lowsF l).length c1, .slice A2 (highF l).length c2]] w fun e w' => ∃ p p1 p2, e = .returned (.pointer (some ⟨p, 0, none⟩)) ∧ Fresh3 w.heap.size p p1 p2 ∧ Cur w l A1 A2 c1 c2 p p1 p2 0 0 0 0 w' := by
  generalize h1 : (lowsF l).length = n1
  generalize h2 : (highF l).length = n2
  have HM := Lib.hid (cur_made w l A1 A2 c1 c2 n1 n2 h1 h2)
  clear h1 h2
  go_enter Try.func27, Try.ntmps27
  go_wp2_with fail
  go_region_with (go_at_call 54; first | (refine (read_is A1 n1 c1 _).mono ?_; rintro e w2 ⟨rfl, rfl⟩) | (refine (read_is A2 n2 c2 _).mono ?_; rintro e w2 ⟨rfl, rfl⟩))
  all_goals go_wp2_with fail
  all_goals go_ret
  all_goals exact ⟨_, _, _, rfl, HM.out⟩
end Go.Proofs.Ytlmelcfiegamaaa.Fano
