/- The wire's reader, more: a word, nil ones. -/
import Derived.Test.YtpgnlpcnancplaaRead
namespace Go.Proofs.Ytpgnlpcnancplaa.Wire
open Go.RowKit Go.Proofs.Ytpgnlpcnancplaa.Own
attribute [local go_sem] max_ints min_ints

/-! ### a word -/
def rword (xs : List Int) (s : RS) : Nat × RS :=
  if rleft xs s < 4 then (0, rfail s 3) else (Bit.le4 (xs.getD s.at_ 0) (xs.getD (s.at_ + 1) 0) (xs.getD (s.at_ + 2) 0) (xs.getD (s.at_ + 3) 0), ⟨s.at_ + 4, s.err⟩)

set_option maxHeartbeats 1000000 in
set_option maxRecDepth 20000 in
theorem word_calls (p : Nat) (A : Option Addr) (c : Nat) (xs : List Int) (s : RS) (w : World) (S : Nat → Prop) (hx : IsBytes xs) (h : Rd p A c xs s w S) (hr : ∀ w', Keep S w w' → Reads w' .u8 A xs) :
    Calls Try.prog 45 #[.pointer (some ⟨p, 0, none⟩)] w fun r w' => ∃ S', Fact (r = .returned (.int .u32 (rword xs s).1)) (Rd p A c xs (rword xs s).2) w' S' ∧ Step S S' w w' := by
  have h1 := h.1.1
  by_cases hl : rleft xs s < 4
  · rw [show rword xs s = (0, rfail s 3) from if_pos hl]
    have hc := bytes_no p A c xs s 4 w S h (.inr (by omega)) (by omega)
    have HC := Lib.hid hc
    clear hc h hr hx hl
    go_enter Try.func45, Try.ntmps45
    go_wp2_with fail
    refine HC.out.mono ?_
    rintro e w1 ⟨S1, ⟨rfl, h1⟩, st1⟩
    have H1 := Lib.hid h1
    have ST1 := Lib.hid st1
    clear h1 st1
    go_wp2_with fail
    go_ret
    exact ⟨S1, ⟨rfl, H1.out⟩, ST1.out⟩
  · rw [show rword xs s = (Bit.le4 (xs.getD s.at_ 0) (xs.getD (s.at_ + 1) 0) (xs.getD (s.at_ + 2) 0) (xs.getD (s.at_ + 3) 0), ⟨s.at_ + 4, s.err⟩) from if_neg hl]
    have he : s.err = 0 := by
      apply Classical.byContradiction
      intro q
      have : rleft xs s = 0 := if_neg q
      omega
    have hl2 : rleft xs s = xs.length - s.at_ := if_pos he
    obtain ⟨b, o, rfl, hbs, hc0⟩ := (hr w (Keep.refl _ _)).at (show s.at_ < xs.length by omega)
    have hc := bytes_some p b o c xs s 4 w S h he (by omega) (by omega)
    have HC := Lib.hid hc
    have HR := Lib.hid hr
    have cell : ∀ (w1 : World) (hw : Keep S w w1) (i : Nat), i < 4 → w1.cell? ⟨b, o + s.at_ + i, none⟩ = some (.int .u8 (xs.getD (s.at_ + i) 0)) := by
      intro w1 hw i hi
      obtain ⟨b', o', q, _, hq⟩ := (hr w1 hw) (s.at_ + i) (by omega)
      injection q with q
      injection q with q1 q2 q3
      subst q1 q2
      rw [Nat.add_assoc]; exact hq
    have CE := Lib.hid cell
    have rg : ∀ i, i < xs.length → 0 ≤ xs.getD i 0 ∧ xs.getD i 0 ≤ 255 := fun i hi => hx _ (by simp [List.getD_eq_getElem?_getD, List.getElem?_eq_getElem hi])
    obtain ⟨z0, e0⟩ : ∃ z, xs.getD s.at_ 0 = z := ⟨_, rfl⟩
    obtain ⟨z1, e1⟩ : ∃ z, xs.getD (s.at_ + 1) 0 = z := ⟨_, rfl⟩
    obtain ⟨z2, e2⟩ : ∃ z, xs.getD (s.at_ + 2) 0 = z := ⟨_, rfl⟩
    obtain ⟨z3, e3⟩ : ∃ z, xs.getD (s.at_ + 3) 0 = z := ⟨_, rfl⟩
    have r0 := rg s.at_ (by omega)
    have r1 := rg (s.at_ + 1) (by omega)
    have r2 := rg (s.at_ + 2) (by omega)
    have r3 := rg (s.at_ + 3) (by omega)
    rw [e0] at r0; rw [e1] at r1; rw [e2] at r2; rw [e3] at r3
    have E0 := Lib.hid e0
    have E1 := Lib.hid e1
    have E2 := Lib.hid e2
    have E3 := Lib.hid e3
    rw [e0, e1, e2, e3]
    clear hc h hr hx hl hl2 he cell rg e0 e1 e2 e3 hc0 h1
    go_enter Try.func45, Try.ntmps45
    go_wp2_with fail
    refine HC.out.mono ?_
    rintro e w1 ⟨S1, ⟨rfl, h1⟩, st1⟩
    have H1 := Lib.hid h1
    have ST1 := Lib.hid st1
    have k0 := CE.out w1 st1.keep 0 (by omega)
    have k1 := CE.out w1 st1.keep 1 (by omega)
    have k2 := CE.out w1 st1.keep 2 (by omega)
    have k3 := CE.out w1 st1.keep 3 (by omega)
    simp only [Nat.add_zero] at k0
    rw [E0.out] at k0
    rw [E1.out] at k1; rw [E2.out] at k2; rw [E3.out] at k3
    clear h1 st1
    go_wp2_with fail
    go_quiet (fail)
    go_wp2
    go_ret
    exact ⟨S1, ⟨congrArg (fun x => Ending.returned (.int .u32 x)) (Bit.le4_bits r0 r1 r2 r3), H1.out⟩, ST1.out.drewN _⟩

/-! ### nil ones -/
set_option maxHeartbeats 1000000 in
theorem nil_wbyte (c : Int) (w : World) : Calls Try.prog 44 #[.pointer none, .int .u8 c] w fun e w' => e = .returned (.tuple #[]) ∧ ∃ n, w' = w.drewN n := by
  go_enter Try.func44, Try.ntmps44
  go_wp2_with (first | fail)
  go_end0
  exact by refine ⟨rfl, ?_⟩; first | exact ⟨0, rfl⟩ | exact ⟨_, rfl⟩
set_option maxHeartbeats 1000000 in
theorem nil_wput (v : Value) (w : World) : Calls Try.prog 47 #[.pointer none, v] w fun e w' => e = .returned (.tuple #[]) ∧ ∃ n, w' = w.drewN n := by
  go_enter Try.func47, Try.ntmps47
  go_wp2_with (first | fail)
  go_end0
  exact by refine ⟨rfl, ?_⟩; first | exact ⟨0, rfl⟩ | exact ⟨_, rfl⟩
set_option maxHeartbeats 1000000 in
theorem nil_wlen (w : World) : Calls Try.prog 13 #[.pointer none] w fun e w' => e = .returned (.int .i64 0) ∧ ∃ n, w' = w.drewN n := by
  go_enter Try.func13, Try.ntmps13
  go_wp2_with (first | fail)
  go_ret
  exact by refine ⟨rfl, ?_⟩; first | exact ⟨0, rfl⟩ | exact ⟨_, rfl⟩
set_option maxHeartbeats 1000000 in
theorem nil_wbytes (w : World) : Calls Try.prog 30 #[.pointer none] w fun e w' => e = .returned (.slice none 0 0) ∧ ∃ n, w' = w.drewN n := by
  go_enter Try.func30, Try.ntmps30
  go_wp2_with (first | fail)
  go_ret
  exact by refine ⟨rfl, ?_⟩; first | exact ⟨0, rfl⟩ | exact ⟨_, rfl⟩
set_option maxHeartbeats 1000000 in
theorem nil_rfail (c : Int) (w : World) : Calls Try.prog 51 #[.pointer none, .int .i64 c] w fun e w' => e = .returned (.tuple #[]) ∧ ∃ n, w' = w.drewN n := by
  go_enter Try.func51, Try.ntmps51
  go_wp2_with (first | fail)
  go_end0
  exact by refine ⟨rfl, ?_⟩; first | exact ⟨0, rfl⟩ | exact ⟨_, rfl⟩
set_option maxHeartbeats 1000000 in
theorem nil_rerr (w : World) : Calls Try.prog 42 #[.pointer none] w fun e w' => e = .returned (.int .i64 1) ∧ ∃ n, w' = w.drewN n := by
  go_enter Try.func42, Try.ntmps42
  go_wp2_with (first | fail)
  go_ret
  exact by refine ⟨rfl, ?_⟩; first | exact ⟨0, rfl⟩ | exact ⟨_, rfl⟩
set_option maxHeartbeats 1000000 in
theorem nil_rleft (w : World) : Calls Try.prog 35 #[.pointer none] w fun e w' => e = .returned (.int .i64 0) ∧ ∃ n, w' = w.drewN n := by
  go_enter Try.func35, Try.ntmps35
  go_wp2_with (first | fail)
  go_ret
  exact by refine ⟨rfl, ?_⟩; first | exact ⟨0, rfl⟩ | exact ⟨_, rfl⟩
set_option maxHeartbeats 1000000 in
theorem nil_rat (w : World) : Calls Try.prog 41 #[.pointer none] w fun e w' => e = .returned (.int .i64 0) ∧ ∃ n, w' = w.drewN n := by
  go_enter Try.func41, Try.ntmps41
  go_wp2_with (first | fail)
  go_ret
  exact by refine ⟨rfl, ?_⟩; first | exact ⟨0, rfl⟩ | exact ⟨_, rfl⟩
set_option maxHeartbeats 1000000 in
theorem nil_rbyte (w : World) : Calls Try.prog 43 #[.pointer none] w fun e w' => e = .returned (.int .u8 0) ∧ ∃ n, w' = w.drewN n := by
  go_enter Try.func43, Try.ntmps43
  go_wp2_with (first | (go_at_call 35; (with_reducible refine (nil_rleft _).mono ?_); rintro e w' ⟨rfl, n, rfl⟩) | (go_at_call 51; (with_reducible refine (nil_rfail _ _).mono ?_); rintro e w' ⟨rfl, n, rfl⟩))
  go_ret
  exact by refine ⟨rfl, ?_⟩; first | exact ⟨0, rfl⟩ | exact ⟨_, rfl⟩
set_option maxHeartbeats 1000000 in
theorem nil_rend (w : World) : Calls Try.prog 33 #[.pointer none] w fun e w' => e = .returned (.int .i64 1) ∧ ∃ n, w' = w.drewN n := by
  go_enter Try.func33, Try.ntmps33
  go_wp2_with (first | (go_at_call 42; (with_reducible refine (nil_rerr _).mono ?_); rintro e w' ⟨rfl, n, rfl⟩))
  go_quiet (fail)
  go_wp2_with (first | (go_at_call 42; (with_reducible refine (nil_rerr _).mono ?_); rintro e w' ⟨rfl, n, rfl⟩))
  go_ret
  exact by refine ⟨rfl, ?_⟩; first | exact ⟨0, rfl⟩ | exact ⟨_, rfl⟩

end Go.Proofs.Ytpgnlpcnancplaa.Wire
