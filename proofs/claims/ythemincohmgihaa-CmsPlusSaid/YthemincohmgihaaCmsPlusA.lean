/- The law CmsPlus answers true for every three numbers of 32 bits: sums are cut at 2^32 less one, in either order, in either grouping. No condition. -/
import Derived.Test.YthemincohmgihaaProg
import Derived.WalkKit
import Derived.Below
import Derived.KernelRfl
import Derived.RowKit3
import Derived.WideLaws
import Derived.WalkLawsBesides
import Derived.Outline
import Derived.Lib.Hide
namespace Go.Proofs.Ythemincohmgihaa.CmsPlusA
open Go.RowKit

/-- The sum, cut. -/
def sat (a b : Int) : Int := if a + b ≤ 4294967295 then a + b else 4294967295

theorem sat_bd {a b : Int} (ha : 0 ≤ a) (hb : 0 ≤ b) : 0 ≤ sat a b ∧ sat a b ≤ 4294967295 := by
  unfold sat; split <;> omega
theorem sat_comm (a b : Int) : sat a b = sat b a := by unfold sat; rw [Int.add_comm]
theorem sat_assoc {a b c : Int} (ha : 0 ≤ a) (hb : 0 ≤ b) (hc : 0 ≤ c) : sat (sat a b) c = sat a (sat b c) := by
  unfold sat; repeat' split
  all_goals omega

set_option maxHeartbeats 1000000 in
theorem plus_calls (a b : Int) (w : World) (ha : 0 ≤ a) (ha' : a ≤ 4294967295) (hb : 0 ≤ b) (hb' : b ≤ 4294967295) :
    Calls Try.prog 16 #[.int .u32 a, .int .u32 b] w fun e w' => e = .returned (.int .u32 (sat a b)) ∧ w = w' := by
  by_cases h : a + b ≤ 4294967295
  · have H : sat a b = a + b := by unfold sat; rw [if_pos h]
    rw [H]; clear H
    have h1 : (a + b) % 4294967296 = a + b := by omega
    go_enter Try.func16, Try.ntmps16
    go_wp2
    go_ret
    exact ⟨rfl, rfl⟩
  · have H : sat a b = 4294967295 := by unfold sat; rw [if_neg h]
    rw [H]; clear H
    have h1 : (a + b) % 4294967296 = a + b - 4294967296 := by omega
    have h2 : decide (a ≤ a + b - 4294967296) = false := decide_eq_false (by omega)
    go_enter Try.func16, Try.ntmps16
    go_wp2
    go_ret
    exact ⟨rfl, rfl⟩

set_option maxHeartbeats 1000000 in
theorem awake_calls (w : World) : Calls Try.prog 15 #[] w fun e w' => e = .returned (.bool true) ∧ w = w' := by
  have h1 : sat 4294967295 5 = 4294967295 := by decide
  have h2 : sat 2 3 = 5 := by decide
  go_enter Try.func15, Try.ntmps15
  go_wp2_with (go_at_call 16; (with_reducible refine (plus_calls _ _ _ (by omega) (by omega) (by omega) (by omega)).mono ?_); rintro e w' ⟨rfl, rfl⟩)
  go_ret
  exact ⟨rfl, rfl⟩

set_option maxHeartbeats 1000000 in
theorem law_calls (a b c : Int) (w : World) (ha : 0 ≤ a) (ha' : a ≤ 4294967295) (hb : 0 ≤ b) (hb' : b ≤ 4294967295) (hc : 0 ≤ c) (hc' : c ≤ 4294967295) :
    Calls Try.prog 3 #[.int .u32 a, .int .u32 b, .int .u32 c] w fun e w' => e = .returned (.bool true) ∧ Below w.heap.size w w' := by
  have hab := sat_bd ha hb
  have hbc := sat_bd hb hc
  have e1 : sat b a = sat a b := sat_comm b a
  have e2 : sat (sat a b) c = sat a (sat b c) := sat_assoc ha hb hc
  have e3 : (if 4294967295 < a + b then 4294967295 else a + b) = sat a b := by unfold sat; split <;> split <;> omega
  go_enter Try.func3, Try.ntmps3
  go_wp2_with (first | (go_at_call 15; (with_reducible refine (awake_calls _).mono ?_); rintro e w' ⟨rfl, rfl⟩) | (go_at_call 16; (with_reducible refine (plus_calls _ _ _ (by omega) (by omega) (by omega) (by omega)).mono ?_); rintro e w' ⟨rfl, rfl⟩))
  go_ret
  exact ⟨rfl, Below.refl _ _⟩

theorem u32_of {a : Int} (h : (Lit.int .u32 a).wf = true) : 0 ≤ a ∧ a ≤ 4294967295 := by
  have h' : (decide (0 ≤ a) && decide (a ≤ 4294967295)) = true := h
  simpa using h'

theorem law_wf (a b c : Int) (w : World) (ha : (Lit.int .u32 a).wf = true) (hb : (Lit.int .u32 b).wf = true) (hc : (Lit.int .u32 c).wf = true) :
    Calls Try.prog 3 #[.int .u32 a, .int .u32 b, .int .u32 c] w fun e w' => e = .returned (.bool true) ∧ Below w.heap.size w w' :=
  law_calls a b c w (u32_of ha).1 (u32_of ha).2 (u32_of hb).1 (u32_of hb).2 (u32_of hc).1 (u32_of hc).2

end Go.Proofs.Ythemincohmgihaa.CmsPlusA
