/- The law WireErrors, at every input. -/
import Derived.Test.YtpgnlpcnancplaaWireJoins
import Derived.Test.YtpgnlpcnancplaaRead
namespace Go.Proofs.Ytpgnlpcnancplaa.Wire
open Go.RowKit Go.Proofs.Ytpgnlpcnancplaa.Own Go.Proofs.Ytpgnlpcnancplaa.Rely
attribute [local go_sem] max_ints min_ints

set_option maxHeartbeats 1000000 in
set_option maxRecDepth 20000 in
theorem nil_wuint6 (w : World) : Calls Try.prog 15 #[.pointer none, .int .u64 6] w fun e w' => e = .returned (.tuple #[]) ∧ Ext w w' := by
  go_enter Try.func15, Try.ntmps15
  go_wp2_with fail
  go_loopw [1] (fun v wr => v = .int .u64 6 ∧ wr = w) (fun _ _ => 0)
  case atStart => exact ⟨rfl, rfl⟩
  case round =>
    obtain ⟨rfl, rfl⟩ := hrel
    go_wp2_with fail
    refine (nil_wbyte 6 wr).mono ?_
    rintro e w2 ⟨rfl, n, rfl⟩
    go_wp2_with fail
    go_end0
    exact ⟨rfl, ext_drewN _ _⟩
set_option maxHeartbeats 1000000 in
set_option maxRecDepth 20000 in
theorem nil_wuint3 (w : World) : Calls Try.prog 15 #[.pointer none, .int .u64 3] w fun e w' => e = .returned (.tuple #[]) ∧ Ext w w' := by
  go_enter Try.func15, Try.ntmps15
  go_wp2_with fail
  go_loopw [1] (fun v wr => v = .int .u64 3 ∧ wr = w) (fun _ _ => 0)
  case atStart => exact ⟨rfl, rfl⟩
  case round =>
    obtain ⟨rfl, rfl⟩ := hrel
    go_wp2_with fail
    refine (nil_wbyte 3 wr).mono ?_
    rintro e w2 ⟨rfl, n, rfl⟩
    go_wp2_with fail
    go_end0
    exact ⟨rfl, ext_drewN _ _⟩
set_option maxHeartbeats 1000000 in
set_option maxRecDepth 20000 in
theorem nil_wint3 (w : World) : Calls Try.prog 18 #[.pointer none, .int .i64 3] w fun e w' => e = .returned (.tuple #[]) ∧ Ext w w' := by
  go_enter Try.func18, Try.ntmps18
  have hb := Bit.zig_bits 3 (by omega) (by omega)
  have hz : ((Bit.zig 3 : Nat) : Int) = 6 := by decide
  rw [hz] at hb
  clear hz
  go_wp2_with fail
  refine (nil_wuint6 _).mono ?_
  rintro e w2 ⟨rfl, hx⟩
  go_wp2_with fail
  go_end0
  exact ⟨rfl, hx⟩
set_option maxHeartbeats 1000000 in
set_option maxRecDepth 20000 in
theorem nil_wword3 (w : World) : Calls Try.prog 46 #[.pointer none, .int .u32 3] w fun e w' => e = .returned (.tuple #[]) ∧ Ext w w' := by
  go_enter Try.func46, Try.ntmps46
  go_wp2_with fail
  refine (nil_wput _ _).mono ?_
  rintro e w2 ⟨rfl, n, rfl⟩
  go_wp2_with fail
  go_end0
  exact ⟨rfl, Ext.trans _ _ _ (Below.refl _ _ |>.alloc (Nat.le_refl _) _) (ext_drewN _ _)⟩
set_option maxHeartbeats 1000000 in
set_option maxRecDepth 20000 in
theorem nil_rbytes1 (w : World) : Calls Try.prog 34 #[.pointer none, .int .i64 1] w fun e w' => e = .returned (.slice none 0 0) ∧ Ext w w' := by
  go_enter Try.func34, Try.ntmps34
  go_wp2_with (first | (go_at_call 35; (with_reducible refine (nil_rleft _).mono ?_); rintro e w' ⟨rfl, n, rfl⟩) | (go_at_call 51; (with_reducible refine (nil_rfail _ _).mono ?_); rintro e w' ⟨rfl, n, rfl⟩))
  go_ret
  refine ⟨rfl, ?_⟩
  first | exact ext_drewN _ _ | exact Ext.trans _ _ _ (ext_drewN _ _) (ext_drewN _ _) | exact Ext.refl _
set_option maxHeartbeats 1000000 in
set_option maxRecDepth 20000 in
theorem nil_rbytes4 (w : World) : Calls Try.prog 34 #[.pointer none, .int .i64 4] w fun e w' => e = .returned (.slice none 0 0) ∧ Ext w w' := by
  go_enter Try.func34, Try.ntmps34
  go_wp2_with (first | (go_at_call 35; (with_reducible refine (nil_rleft _).mono ?_); rintro e w' ⟨rfl, n, rfl⟩) | (go_at_call 51; (with_reducible refine (nil_rfail _ _).mono ?_); rintro e w' ⟨rfl, n, rfl⟩))
  go_ret
  refine ⟨rfl, ?_⟩
  first | exact ext_drewN _ _ | exact Ext.trans _ _ _ (ext_drewN _ _) (ext_drewN _ _) | exact Ext.refl _
set_option maxHeartbeats 1000000 in
set_option maxRecDepth 20000 in
theorem nil_rword (w : World) : Calls Try.prog 45 #[.pointer none] w fun e w' => e = .returned (.int .u32 0) ∧ Ext w w' := by
  go_enter Try.func45, Try.ntmps45
  go_wp2_with fail
  refine (nil_rbytes4 _).mono ?_
  rintro e w2 ⟨rfl, hx⟩
  go_wp2_with fail
  go_ret
  exact ⟨rfl, hx⟩
set_option maxHeartbeats 1000000 in
set_option maxRecDepth 20000 in
theorem nil_ruint (w : World) : Calls Try.prog 31 #[.pointer none, .int .u64 18446744073709551615] w fun e w' => e = .returned (.int .u64 0) ∧ Ext w w' := by
  go_enter Try.func31, Try.ntmps31
  go_wp2_with fail
  go_loopw [5, 6] (fun v5 v6 wr => v5 = .int .u64 0 ∧ v6 = .int .i64 0 ∧ wr = w) (fun _ _ _ => 0)
  case atStart => exact ⟨rfl, rfl, rfl⟩
  case round =>
    obtain ⟨rfl, rfl, rfl⟩ := hrel
    go_wp2_with fail
    refine (nil_rbyte wr).mono ?_
    rintro e w2 ⟨rfl, n, rfl⟩
    go_wp2_with fail
    refine (nil_rerr _).mono ?_
    rintro e w3 ⟨rfl, n3, rfl⟩
    go_wp2_with fail
    go_ret
    exact ⟨rfl, ext_drewN _ _⟩
set_option maxHeartbeats 1000000 in
set_option maxRecDepth 20000 in
theorem nil_rint (w : World) : Calls Try.prog 32 #[.pointer none] w fun e w' => e = .returned (.int .i64 0) ∧ Ext w w' := by
  go_enter Try.func32, Try.ntmps32
  go_wp2_with fail
  refine (nil_ruint _).mono ?_
  rintro e w2 ⟨rfl, hx⟩
  have hz : Go.bits .xor .i64 0 (wrap64 (-wrap64 (Go.bits .and .u64 0 1))) = 0 := by decide +kernel
  go_wp2_with fail
  go_ret
  exact ⟨rfl, hx⟩

theorem long_err : (rnum [128, 0] 9 ⟨0, 0⟩).2.err = 4 := by decide +kernel
theorem far_err : (rnum [255, 255, 255, 255, 255, 255, 255, 255, 255, 2] 18446744073709551615 ⟨0, 0⟩).2.err = 4 := by decide +kernel
end Go.Proofs.Ytpgnlpcnancplaa.Wire
