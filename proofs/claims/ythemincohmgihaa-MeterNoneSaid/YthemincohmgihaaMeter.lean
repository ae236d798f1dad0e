/- The meter's functions: what each call answers and leaves. -/
import Derived.Test.YthemincohmgihaaProg
import Derived.Test.YthemincohmgihaaOwn
import Derived.Deep.QuietTactic
import Derived.BigQuiet
import Derived.Outline
namespace Go.Proofs.Ythemincohmgihaa.Meter
open Go.RowKit Go.Proofs.Ythemincohmgihaa.Own
attribute [local go_sem] max_ints min_ints

/-- A meter at block p. -/
def Mt (p : Nat) (u l : Int) : Asn := Blk p #[.int .i64 u, .int .i64 l] 71
theorem loc_mt (p : Nat) (u l : Int) : Lcl (Mt p u l) := Lcl.blk _ _ _
theorem Mt.c0 {p : Nat} {u l : Int} {w : World} {S : Nat → Prop} (h : Mt p u l w S) : w.cell? ⟨p, 0, none⟩ = some (.int .i64 u) := Blk.cell h 0
theorem Mt.c1 {p : Nat} {u l : Int} {w : World} {S : Nat → Prop} (h : Mt p u l w S) : w.cell? ⟨p, 1, none⟩ = some (.int .i64 l) := Blk.cell h 1
theorem Mt.f0 {p : Nat} {u l : Int} {w : World} {S : Nat → Prop} (h : Mt p u l w S) : w.frozen? ⟨p, 0, none⟩ = false := Blk.free h 0

set_option maxHeartbeats 1000000 in
theorem new_tri (a : Int) (h0 : -9223372036854775808 ≤ a) (h1 : a ≤ 9223372036854775807) :
    Tri Try.prog 18 #[.int .i64 a] Emp (fun e => Some fun p => Fact (e = .returned (.pointer (some ⟨p, 0, none⟩))) (Mt p 0 (max a 0))) := by
  intro w S hS
  have h := Lib.hid hS
  clear hS
  go_enter Try.func18, Try.ntmps18
  go_wp2
  go_ret
  exact ⟨_, ⟨w.heap.size, rfl, (Sep.alloc Lcl.emp h.out _ _).1.left_of_emp⟩, (Sep.alloc Lcl.emp h.out _ _).2⟩

set_option maxHeartbeats 1000000 in
theorem take_ok (p : Nat) (u l n : Int) (hu : 0 ≤ u) (hl : l ≤ 9223372036854775807) (h0 : -9223372036854775808 ≤ n) (h1 : n ≤ 9223372036854775807) (hg : max n 0 ≤ l - u) :
    Tri Try.prog 19 #[.pointer (some ⟨p, 0, none⟩), .int .i64 n] (Mt p u l) (fun e => Fact (e = .returned (.int .i64 0)) (Mt p (u + max n 0) l)) := by
  intro w S h
  have c0 := h.c0
  have c1 := h.c1
  have f0 := h.f0
  have H := Lib.hid h
  clear h
  have hm : 0 ≤ max n 0 := by omega
  have hm2 : max n 0 ≤ 9223372036854775807 := by omega
  have hz : decide (l - u < max n 0) = false := by simp; omega
  go_enter Try.func19, Try.ntmps19
  go_wp2
  go_quiet (fail)
  go_wp2
  go_ret
  exact ⟨_, ⟨rfl, (Blk.set (w := w.drewN _) H.out 0 _).1⟩, ((Step.refl S w).drewN _).trans (Blk.set (w := w.drewN _) H.out 0 _).2⟩

set_option maxHeartbeats 1000000 in
theorem take_no (p : Nat) (u l n : Int) (hu : 0 ≤ u) (hul : u ≤ l) (hl : l ≤ 9223372036854775807) (h1 : n ≤ 9223372036854775807) (hg : l - u < max n 0) :
    Tri Try.prog 19 #[.pointer (some ⟨p, 0, none⟩), .int .i64 n] (Mt p u l) (fun e => Fact (e = .returned (.int .i64 14)) (Mt p u l)) := by
  intro w S h
  have c0 := h.c0
  have c1 := h.c1
  have H := Lib.hid h
  clear h
  have hm : 0 ≤ max n 0 := by omega
  have hm2 : max n 0 ≤ 9223372036854775807 := by omega
  have hz : decide (l - u < max n 0) = true := by simp; omega
  go_enter Try.func19, Try.ntmps19
  go_wp2
  go_quiet (fail)
  go_wp2
  go_ret
  exact ⟨_, ⟨rfl, H.out⟩, (Step.refl S w).drewN _⟩

set_option maxHeartbeats 1000000 in
theorem take_nil (n : Int) (w : World) : Calls Try.prog 19 #[.pointer none, .int .i64 n] w fun e w' => e = .returned (.int .i64 0) ∧ w = w' := by
  go_enter Try.func19, Try.ntmps19
  go_wp2
  go_ret
  exact ⟨rfl, rfl⟩

set_option maxHeartbeats 1000000 in
theorem used_is (p : Nat) (u : Int) (w : World) (c0 : w.cell? ⟨p, 0, none⟩ = some (.int .i64 u)) : Calls Try.prog 20 #[.pointer (some ⟨p, 0, none⟩)] w fun e w' => e = .returned (.int .i64 u) ∧ w = w' := by
  go_enter Try.func20, Try.ntmps20
  go_wp2
  go_ret
  exact ⟨rfl, rfl⟩
set_option maxHeartbeats 1000000 in
theorem used_nil (w : World) : Calls Try.prog 20 #[.pointer none] w fun e w' => e = .returned (.int .i64 0) ∧ w = w' := by
  go_enter Try.func20, Try.ntmps20
  go_wp2
  go_ret
  exact ⟨rfl, rfl⟩
set_option maxHeartbeats 1000000 in
theorem limit_is (p : Nat) (l : Int) (w : World) (c0 : w.cell? ⟨p, 1, none⟩ = some (.int .i64 l)) : Calls Try.prog 23 #[.pointer (some ⟨p, 0, none⟩)] w fun e w' => e = .returned (.int .i64 l) ∧ w = w' := by
  go_enter Try.func23, Try.ntmps23
  go_wp2
  go_ret
  exact ⟨rfl, rfl⟩
set_option maxHeartbeats 1000000 in
theorem limit_nil (w : World) : Calls Try.prog 23 #[.pointer none] w fun e w' => e = .returned (.int .i64 0) ∧ w = w' := by
  go_enter Try.func23, Try.ntmps23
  go_wp2
  go_ret
  exact ⟨rfl, rfl⟩

set_option maxHeartbeats 1000000 in
theorem awake_tri : Tri Try.prog 17 #[] Emp (fun e => Fact (e = .returned (.bool true)) Emp) := by
  intro w S h
  have H := Lib.hid h
  clear h
  go_enter Try.func17, Try.ntmps17
  go_wp2_with fail
  refine (new_tri 5 (by omega) (by omega) _ _ H.out).mono ?_
  rintro e w1 ⟨S1, ⟨p, rfl, h1⟩, st1⟩
  have H1 := Lib.hid h1
  have ST1 := Lib.hid st1
  clear h1 st1
  go_wp2_with fail
  refine (take_ok p 0 5 3 (by omega) (by omega) (by omega) (by omega) (by omega) _ _ H1.out).mono ?_
  rintro e w2 ⟨S2, ⟨rfl, h2⟩, st2⟩
  have H2 := Lib.hid h2
  have ST2 := Lib.hid (ST1.out.trans st2)
  clear h2 st2
  go_wp2_with fail
  refine (take_no p 3 5 3 (by omega) (by omega) (by omega) (by omega) (by omega) _ _ H2.out).mono ?_
  rintro e w3 ⟨S3, ⟨rfl, h3⟩, st3⟩
  have H3 := Lib.hid h3
  have ST3 := Lib.hid (ST2.out.trans st3)
  clear h3 st3
  go_wp2_with fail
  refine (used_is p 3 _ H3.out.c0).mono ?_
  rintro e w4 ⟨rfl, rfl⟩
  go_wp2_with fail
  go_ret
  exact ⟨fun _ => False, ⟨rfl, fun _ x => x⟩, ST3.out.less (fun _ x => x.elim)⟩

/-! ### the laws -/

set_option maxHeartbeats 2000000 in
/-- MeterNone. -/
theorem none_law (l n : Int) (w : World) (l0 : -9223372036854775808 ≤ l) (l1 : l ≤ 9223372036854775807) (n0 : -9223372036854775808 ≤ n) (n1 : n ≤ 9223372036854775807) :
    Calls Try.prog 7 #[.int .i64 l, .int .i64 n] w fun e w' => e = .returned (.bool true) ∧ Below w.heap.size w w' := by
  have hem : Emp w (fun _ => False) := fun _ x => x
  have HE := Lib.hid hem
  clear hem
  have b1 : max l 0 ≤ 9223372036854775807 := by omega
  have b0 : 0 ≤ max l 0 := by omega
  by_cases hg : max n 0 ≤ max l 0
  · have m1 : 0 ≤ max n 0 := by omega
    go_enter Try.func7, Try.ntmps7
    go_wp2_with fail
    refine (awake_tri _ _ HE.out).mono ?_
    rintro e w1 ⟨S1, ⟨rfl, h1⟩, st1⟩
    have H1 := Lib.hid h1
    have ST1 := Lib.hid st1
    clear h1 st1
    go_wp2_with fail
    refine (new_tri l l0 l1 _ _ H1.out).mono ?_
    rintro e w2 ⟨S2, ⟨p, rfl, h2⟩, st2⟩
    have H2 := Lib.hid h2
    have ST2 := Lib.hid (ST1.out.trans st2)
    clear h2 st2
    go_wp2_with fail
    refine (take_ok p 0 (max l 0) n (by omega) (by omega) n0 n1 (by omega) _ _ H2.out).mono ?_
    rintro e w3 ⟨S3, ⟨rfl, h3⟩, st3⟩
    have H3 := Lib.hid h3
    have ST3 := Lib.hid (ST2.out.trans st3)
    clear h3 st3
    go_wp2_with (first | (go_at_call 19; (with_reducible refine (take_nil _ _).mono ?_); rintro e w' ⟨rfl, rfl⟩) | (go_at_call 20; first | ((with_reducible refine (used_nil _).mono ?_); rintro e w' ⟨rfl, rfl⟩) | ((with_reducible refine (used_is p _ _ H3.out.c0).mono ?_); rintro e w' ⟨rfl, rfl⟩)) | (go_at_call 23; first | ((with_reducible refine (limit_nil _).mono ?_); rintro e w' ⟨rfl, rfl⟩) | ((with_reducible refine (limit_is p _ _ H3.out.c1).mono ?_); rintro e w' ⟨rfl, rfl⟩)))
    go_ret
    exact ⟨rfl, ST3.out.keep.below (Nat.le_refl _) (fun _ _ x => x)⟩
  · have m1 : 0 ≤ max n 0 := by omega
    have hz : decide (max n 0 ≤ max l 0) = false := by simp; omega
    go_enter Try.func7, Try.ntmps7
    go_wp2_with fail
    refine (awake_tri _ _ HE.out).mono ?_
    rintro e w1 ⟨S1, ⟨rfl, h1⟩, st1⟩
    have H1 := Lib.hid h1
    have ST1 := Lib.hid st1
    clear h1 st1
    go_wp2_with fail
    refine (new_tri l l0 l1 _ _ H1.out).mono ?_
    rintro e w2 ⟨S2, ⟨p, rfl, h2⟩, st2⟩
    have H2 := Lib.hid h2
    have ST2 := Lib.hid (ST1.out.trans st2)
    clear h2 st2
    go_wp2_with fail
    refine (take_no p 0 (max l 0) n (by omega) (by omega) (by omega) n1 (by omega) _ _ H2.out).mono ?_
    rintro e w3 ⟨S3, ⟨rfl, h3⟩, st3⟩
    have H3 := Lib.hid h3
    have ST3 := Lib.hid (ST2.out.trans st3)
    clear h3 st3
    go_wp2_with (first | (go_at_call 19; (with_reducible refine (take_nil _ _).mono ?_); rintro e w' ⟨rfl, rfl⟩) | (go_at_call 20; first | ((with_reducible refine (used_nil _).mono ?_); rintro e w' ⟨rfl, rfl⟩) | ((with_reducible refine (used_is p _ _ H3.out.c0).mono ?_); rintro e w' ⟨rfl, rfl⟩)) | (go_at_call 23; first | ((with_reducible refine (limit_nil _).mono ?_); rintro e w' ⟨rfl, rfl⟩) | ((with_reducible refine (limit_is p _ _ H3.out.c1).mono ?_); rintro e w' ⟨rfl, rfl⟩)))
    go_ret
    exact ⟨rfl, ST3.out.keep.below (Nat.le_refl _) (fun _ _ x => x)⟩

end Go.Proofs.Ythemincohmgihaa.Meter
