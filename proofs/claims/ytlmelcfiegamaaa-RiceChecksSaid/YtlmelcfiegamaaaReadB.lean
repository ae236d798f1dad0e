/- The wire's reader, more: a word, nil ones. -/
import Derived.Test.YtlmelcfiegamaaaRead
namespace Go.Proofs.Ytlmelcfiegamaaa.Wire
open Go.RowKit Go.Proofs.Ytlmelcfiegamaaa.Own
attribute [local go_sem] max_ints min_ints

/-! ### a word -/
def rword (xs : List Int) (s : RS) : Nat × RS :=
  if rleft xs s < 4 then (0, rfail s 3) else (Bit.le4 (xs.getD s.at_ 0) (xs.getD (s.at_ + 1) 0) (xs.getD (s.at_ + 2) 0) (xs.getD (s.at_ + 3) 0), ⟨s.at_ + 4, s.err⟩)

/-! ### nil ones -/
set_option maxHeartbeats 1000000 in
theorem nil_wbyte (c : Int) (w : World) : Calls Try.prog 53 #[.pointer none, .int .u8 c] w fun e w' => e = .returned (.tuple #[]) ∧ ∃ n, w' = w.drewN n := by
  go_enter Try.func53, Try.ntmps53
  go_wp2_with (first | fail)
  go_end0
  exact by refine ⟨rfl, ?_⟩; first | exact ⟨0, rfl⟩ | exact ⟨_, rfl⟩
set_option maxHeartbeats 1000000 in
theorem nil_wput (v : Value) (w : World) : Calls Try.prog 51 #[.pointer none, v] w fun e w' => e = .returned (.tuple #[]) ∧ ∃ n, w' = w.drewN n := by
  go_enter Try.func51, Try.ntmps51
  go_wp2_with (first | fail)
  go_end0
  exact by refine ⟨rfl, ?_⟩; first | exact ⟨0, rfl⟩ | exact ⟨_, rfl⟩
set_option maxHeartbeats 1000000 in
theorem nil_wlen (w : World) : Calls Try.prog 20 #[.pointer none] w fun e w' => e = .returned (.int .i64 0) ∧ ∃ n, w' = w.drewN n := by
  go_enter Try.func20, Try.ntmps20
  go_wp2_with (first | fail)
  go_ret
  exact by refine ⟨rfl, ?_⟩; first | exact ⟨0, rfl⟩ | exact ⟨_, rfl⟩
set_option maxHeartbeats 1000000 in
theorem nil_wbytes (w : World) : Calls Try.prog 30 #[.pointer none] w fun e w' => e = .returned (.slice none 0 0) ∧ ∃ n, w' = w.drewN n := by
  go_enter Try.func30, Try.ntmps30
  go_wp2_with (first | fail)
  go_ret
  exact by refine ⟨rfl, ?_⟩; first | exact ⟨0, rfl⟩ | exact ⟨_, rfl⟩
set_option maxHeartbeats 1000000 in
theorem nil_rfail (c : Int) (w : World) : Calls Try.prog 61 #[.pointer none, .int .i64 c] w fun e w' => e = .returned (.tuple #[]) ∧ ∃ n, w' = w.drewN n := by
  go_enter Try.func61, Try.ntmps61
  go_wp2_with (first | fail)
  go_end0
  exact by refine ⟨rfl, ?_⟩; first | exact ⟨0, rfl⟩ | exact ⟨_, rfl⟩
set_option maxHeartbeats 1000000 in
theorem nil_rerr (w : World) : Calls Try.prog 33 #[.pointer none] w fun e w' => e = .returned (.int .i64 1) ∧ ∃ n, w' = w.drewN n := by
  go_enter Try.func33, Try.ntmps33
  go_wp2_with (first | fail)
  go_ret
  exact by refine ⟨rfl, ?_⟩; first | exact ⟨0, rfl⟩ | exact ⟨_, rfl⟩
set_option maxHeartbeats 1000000 in
theorem nil_rleft (w : World) : Calls Try.prog 72 #[.pointer none] w fun e w' => e = .returned (.int .i64 0) ∧ ∃ n, w' = w.drewN n := by
  go_enter Try.func72, Try.ntmps72
  go_wp2_with (first | fail)
  go_ret
  exact by refine ⟨rfl, ?_⟩; first | exact ⟨0, rfl⟩ | exact ⟨_, rfl⟩
set_option maxHeartbeats 1000000 in
theorem nil_rat (w : World) : Calls Try.prog 35 #[.pointer none] w fun e w' => e = .returned (.int .i64 0) ∧ ∃ n, w' = w.drewN n := by
  go_enter Try.func35, Try.ntmps35
  go_wp2_with (first | fail)
  go_ret
  exact by refine ⟨rfl, ?_⟩; first | exact ⟨0, rfl⟩ | exact ⟨_, rfl⟩
set_option maxHeartbeats 1000000 in
theorem nil_rbyte (w : World) : Calls Try.prog 66 #[.pointer none] w fun e w' => e = .returned (.int .u8 0) ∧ ∃ n, w' = w.drewN n := by
  go_enter Try.func66, Try.ntmps66
  go_wp2_with (first | (go_at_call 72; (with_reducible refine (nil_rleft _).mono ?_); rintro e w' ⟨rfl, n, rfl⟩) | (go_at_call 61; (with_reducible refine (nil_rfail _ _).mono ?_); rintro e w' ⟨rfl, n, rfl⟩))
  go_ret
  exact by refine ⟨rfl, ?_⟩; first | exact ⟨0, rfl⟩ | exact ⟨_, rfl⟩
set_option maxHeartbeats 1000000 in
theorem nil_rend (w : World) : Calls Try.prog 41 #[.pointer none] w fun e w' => e = .returned (.int .i64 1) ∧ ∃ n, w' = w.drewN n := by
  go_enter Try.func41, Try.ntmps41
  go_wp2_with (first | (go_at_call 33; (with_reducible refine (nil_rerr _).mono ?_); rintro e w' ⟨rfl, n, rfl⟩))
  go_quiet (fail)
  go_wp2_with (first | (go_at_call 33; (with_reducible refine (nil_rerr _).mono ?_); rintro e w' ⟨rfl, n, rfl⟩))
  go_ret
  exact by refine ⟨rfl, ?_⟩; first | exact ⟨0, rfl⟩ | exact ⟨_, rfl⟩

end Go.Proofs.Ytlmelcfiegamaaa.Wire
