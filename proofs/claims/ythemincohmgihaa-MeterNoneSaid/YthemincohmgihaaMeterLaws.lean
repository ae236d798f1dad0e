/- The laws MeterNone and MeterSplits, at every input. -/
import Derived.Test.YthemincohmgihaaMeter
import Derived.Test.YthemincohmgihaaOwnB
namespace Go.Proofs.Ythemincohmgihaa.Meter
open Go.RowKit Go.Proofs.Ythemincohmgihaa.Own
attribute [local go_sem] max_ints min_ints

theorem none_wf (l n : Int) (w : World) (hl : (Lit.int .i64 l).wf = true) (hn : (Lit.int .i64 n).wf = true) :
    Calls Try.prog 7 #[.int .i64 l, .int .i64 n] w fun e w' => e = .returned (.bool true) ∧ Below w.heap.size w w' :=
  none_law l n w (wf_i64 hl).1 (wf_i64 hl).2 (wf_i64 hn).1 (wf_i64 hn).2

set_option maxHeartbeats 4000000 in
theorem splits_law (l a b : Int) (w : World) (l0 : 0 ≤ l) (l1 : l ≤ 65535) (a0 : 0 ≤ a) (a1 : a ≤ 65535) (b0 : 0 ≤ b) (b1 : b ≤ 65535) :
    Calls Try.prog 4 #[.int .u16 l, .int .u16 a, .int .u16 b] w fun e w' => e = .returned (.bool true) ∧ Below w.heap.size w w' := by
  have hem : Emp w (fun _ => False) := fun _ x => x
  have HE := Lib.hid hem
  clear hem
  by_cases h1 : a + b ≤ l
  · have g1 : ((a + b : Int) == (a + b)) = true := by simp
    go_enter Try.func4, Try.ntmps4
    go_wp2_with fail
    refine (awake_tri _ _ HE.out).mono ?_
    rintro e w1 ⟨S1, ⟨rfl, h1⟩, st1⟩
    have H1 := Lib.hid h1
    have ST1 := Lib.hid st1
    clear h1 st1
    go_wp2_with fail
    refine (new_tri l (by omega) (by omega) _ _ H1.out).mono ?_
    rintro e w2 ⟨S2, ⟨p, rfl, h2⟩, st2⟩
    rw [Int.max_eq_left l0] at h2
    have H2 := Lib.hid (Sep.emp_left h2)
    have ST2 := Lib.hid (ST1.out.trans st2)
    clear h2 st2
    go_wp2_with fail
    refine ((new_tri l (by omega) (by omega)).frame (loc_mt _ _ _) _ _ H2.out).mono ?_
    rintro e w3 ⟨S3, h3s, st3⟩
    obtain ⟨q, h3f⟩ := Sep.some h3s
    obtain ⟨rfl, h3⟩ := Sep.fact h3f
    clear h3s h3f
    rw [Int.max_eq_left l0] at h3
    have H3 := Lib.hid h3.comm
    have ST3 := Lib.hid (ST2.out.trans st3)
    clear h3 st3
    go_wp2_with fail
    with_reducible refine ((take_ok p 0 l (a + b) (by omega) (by omega) (by omega) (by omega) (by omega)).frame (loc_mt _ _ _) _ _ H3.out).mono ?_
    rintro e w4 ⟨S4, h4f, st4⟩
    obtain ⟨rfl, h4⟩ := Sep.fact h4f
    clear h4f
    rw [show 0 + max (a + b) 0 = a + b by omega] at h4
    have H4 := Lib.hid h4.comm
    have ST4 := Lib.hid (ST3.out.trans st4)
    clear h4 st4
    go_wp2_with fail
    with_reducible refine ((take_ok q 0 l a (by omega) (by omega) (by omega) (by omega) (by omega)).frame (loc_mt _ _ _) _ _ H4.out).mono ?_
    rintro e w5 ⟨S5, h5f, st5⟩
    obtain ⟨rfl, h5⟩ := Sep.fact h5f
    clear h5f
    rw [show 0 + max a 0 = a by omega] at h5
    have H5 := Lib.hid h5
    have ST5 := Lib.hid (ST4.out.trans st5)
    clear h5 st5
    go_wp2_with fail
    with_reducible refine ((take_ok q a l b (by omega) (by omega) (by omega) (by omega) (by omega)).frame (loc_mt _ _ _) _ _ H5.out).mono ?_
    rintro e w6 ⟨S6, h6f, st6⟩
    obtain ⟨rfl, h6⟩ := Sep.fact h6f
    clear h6f
    rw [show a + max b 0 = a + b by omega] at h6
    obtain ⟨T6, hT6, _⟩ := h6.left
    obtain ⟨T7, hT7, _⟩ := h6.comm.left
    have c6 := hT6.c0
    have c7 := hT7.c0
    have ST6 := Lib.hid (ST5.out.trans st6)
    clear h6 st6 hT6 hT7
    go_wp2_with (first | (go_at_call 20; first | ((with_reducible refine (used_is p _ _ c7).mono ?_); rintro e w' ⟨rfl, rfl⟩) | ((with_reducible refine (used_is q _ _ c6).mono ?_); rintro e w' ⟨rfl, rfl⟩)))
    go_ret
    exact ⟨rfl, ST6.out.keep.below (Nat.le_refl _) (fun _ _ x => x)⟩
  · by_cases h2 : a ≤ l
    · have g1 : 0 ≤ a := a0
      go_enter Try.func4, Try.ntmps4
      go_wp2_with fail
      refine (awake_tri _ _ HE.out).mono ?_
      rintro e w1 ⟨S1, ⟨rfl, h1⟩, st1⟩
      have H1 := Lib.hid h1
      have ST1 := Lib.hid st1
      clear h1 st1
      go_wp2_with fail
      refine (new_tri l (by omega) (by omega) _ _ H1.out).mono ?_
      rintro e w2 ⟨S2, ⟨p, rfl, h2⟩, st2⟩
      rw [Int.max_eq_left l0] at h2
      have H2 := Lib.hid (Sep.emp_left h2)
      have ST2 := Lib.hid (ST1.out.trans st2)
      clear h2 st2
      go_wp2_with fail
      refine ((new_tri l (by omega) (by omega)).frame (loc_mt _ _ _) _ _ H2.out).mono ?_
      rintro e w3 ⟨S3, h3s, st3⟩
      obtain ⟨q, h3f⟩ := Sep.some h3s
      obtain ⟨rfl, h3⟩ := Sep.fact h3f
      clear h3s h3f
      rw [Int.max_eq_left l0] at h3
      have H3 := Lib.hid h3.comm
      have ST3 := Lib.hid (ST2.out.trans st3)
      clear h3 st3
      go_wp2_with fail
      with_reducible refine ((take_no p 0 l (a + b) (by omega) (by omega) (by omega) (by omega) (by omega)).frame (loc_mt _ _ _) _ _ H3.out).mono ?_
      rintro e w4 ⟨S4, h4f, st4⟩
      obtain ⟨rfl, h4⟩ := Sep.fact h4f
      clear h4f
      skip
      have H4 := Lib.hid h4.comm
      have ST4 := Lib.hid (ST3.out.trans st4)
      clear h4 st4
      go_wp2_with fail
      with_reducible refine ((take_ok q 0 l a (by omega) (by omega) (by omega) (by omega) (by omega)).frame (loc_mt _ _ _) _ _ H4.out).mono ?_
      rintro e w5 ⟨S5, h5f, st5⟩
      obtain ⟨rfl, h5⟩ := Sep.fact h5f
      clear h5f
      rw [show 0 + max a 0 = a by omega] at h5
      have H5 := Lib.hid h5
      have ST5 := Lib.hid (ST4.out.trans st5)
      clear h5 st5
      go_wp2_with fail
      with_reducible refine ((take_no q a l b (by omega) (by omega) (by omega) (by omega) (by omega)).frame (loc_mt _ _ _) _ _ H5.out).mono ?_
      rintro e w6 ⟨S6, h6f, st6⟩
      obtain ⟨rfl, h6⟩ := Sep.fact h6f
      clear h6f
      skip
      obtain ⟨T6, hT6, _⟩ := h6.left
      obtain ⟨T7, hT7, _⟩ := h6.comm.left
      have c6 := hT6.c0
      have c7 := hT7.c0
      have ST6 := Lib.hid (ST5.out.trans st6)
      clear h6 st6 hT6 hT7
      go_wp2_with (first | (go_at_call 20; first | ((with_reducible refine (used_is p _ _ c7).mono ?_); rintro e w' ⟨rfl, rfl⟩) | ((with_reducible refine (used_is q _ _ c6).mono ?_); rintro e w' ⟨rfl, rfl⟩)))
      go_ret
      exact ⟨rfl, ST6.out.keep.below (Nat.le_refl _) (fun _ _ x => x)⟩
    · by_cases h3 : b ≤ l
      · have g1 : 0 ≤ a := a0
        go_enter Try.func4, Try.ntmps4
        go_wp2_with fail
        refine (awake_tri _ _ HE.out).mono ?_
        rintro e w1 ⟨S1, ⟨rfl, h1⟩, st1⟩
        have H1 := Lib.hid h1
        have ST1 := Lib.hid st1
        clear h1 st1
        go_wp2_with fail
        refine (new_tri l (by omega) (by omega) _ _ H1.out).mono ?_
        rintro e w2 ⟨S2, ⟨p, rfl, h2⟩, st2⟩
        rw [Int.max_eq_left l0] at h2
        have H2 := Lib.hid (Sep.emp_left h2)
        have ST2 := Lib.hid (ST1.out.trans st2)
        clear h2 st2
        go_wp2_with fail
        refine ((new_tri l (by omega) (by omega)).frame (loc_mt _ _ _) _ _ H2.out).mono ?_
        rintro e w3 ⟨S3, h3s, st3⟩
        obtain ⟨q, h3f⟩ := Sep.some h3s
        obtain ⟨rfl, h3⟩ := Sep.fact h3f
        clear h3s h3f
        rw [Int.max_eq_left l0] at h3
        have H3 := Lib.hid h3.comm
        have ST3 := Lib.hid (ST2.out.trans st3)
        clear h3 st3
        go_wp2_with fail
        with_reducible refine ((take_no p 0 l (a + b) (by omega) (by omega) (by omega) (by omega) (by omega)).frame (loc_mt _ _ _) _ _ H3.out).mono ?_
        rintro e w4 ⟨S4, h4f, st4⟩
        obtain ⟨rfl, h4⟩ := Sep.fact h4f
        clear h4f
        skip
        have H4 := Lib.hid h4.comm
        have ST4 := Lib.hid (ST3.out.trans st4)
        clear h4 st4
        go_wp2_with fail
        with_reducible refine ((take_no q 0 l a (by omega) (by omega) (by omega) (by omega) (by omega)).frame (loc_mt _ _ _) _ _ H4.out).mono ?_
        rintro e w5 ⟨S5, h5f, st5⟩
        obtain ⟨rfl, h5⟩ := Sep.fact h5f
        clear h5f
        skip
        have H5 := Lib.hid h5
        have ST5 := Lib.hid (ST4.out.trans st5)
        clear h5 st5
        go_wp2_with fail
        with_reducible refine ((take_ok q 0 l b (by omega) (by omega) (by omega) (by omega) (by omega)).frame (loc_mt _ _ _) _ _ H5.out).mono ?_
        rintro e w6 ⟨S6, h6f, st6⟩
        obtain ⟨rfl, h6⟩ := Sep.fact h6f
        clear h6f
        rw [show 0 + max b 0 = b by omega] at h6
        obtain ⟨T6, hT6, _⟩ := h6.left
        obtain ⟨T7, hT7, _⟩ := h6.comm.left
        have c6 := hT6.c0
        have c7 := hT7.c0
        have ST6 := Lib.hid (ST5.out.trans st6)
        clear h6 st6 hT6 hT7
        go_wp2_with (first | (go_at_call 20; first | ((with_reducible refine (used_is p _ _ c7).mono ?_); rintro e w' ⟨rfl, rfl⟩) | ((with_reducible refine (used_is q _ _ c6).mono ?_); rintro e w' ⟨rfl, rfl⟩)))
        go_ret
        exact ⟨rfl, ST6.out.keep.below (Nat.le_refl _) (fun _ _ x => x)⟩
      · have g1 : 0 ≤ a := a0
        go_enter Try.func4, Try.ntmps4
        go_wp2_with fail
        refine (awake_tri _ _ HE.out).mono ?_
        rintro e w1 ⟨S1, ⟨rfl, h1⟩, st1⟩
        have H1 := Lib.hid h1
        have ST1 := Lib.hid st1
        clear h1 st1
        go_wp2_with fail
        refine (new_tri l (by omega) (by omega) _ _ H1.out).mono ?_
        rintro e w2 ⟨S2, ⟨p, rfl, h2⟩, st2⟩
        rw [Int.max_eq_left l0] at h2
        have H2 := Lib.hid (Sep.emp_left h2)
        have ST2 := Lib.hid (ST1.out.trans st2)
        clear h2 st2
        go_wp2_with fail
        refine ((new_tri l (by omega) (by omega)).frame (loc_mt _ _ _) _ _ H2.out).mono ?_
        rintro e w3 ⟨S3, h3s, st3⟩
        obtain ⟨q, h3f⟩ := Sep.some h3s
        obtain ⟨rfl, h3⟩ := Sep.fact h3f
        clear h3s h3f
        rw [Int.max_eq_left l0] at h3
        have H3 := Lib.hid h3.comm
        have ST3 := Lib.hid (ST2.out.trans st3)
        clear h3 st3
        go_wp2_with fail
        with_reducible refine ((take_no p 0 l (a + b) (by omega) (by omega) (by omega) (by omega) (by omega)).frame (loc_mt _ _ _) _ _ H3.out).mono ?_
        rintro e w4 ⟨S4, h4f, st4⟩
        obtain ⟨rfl, h4⟩ := Sep.fact h4f
        clear h4f
        skip
        have H4 := Lib.hid h4.comm
        have ST4 := Lib.hid (ST3.out.trans st4)
        clear h4 st4
        go_wp2_with fail
        with_reducible refine ((take_no q 0 l a (by omega) (by omega) (by omega) (by omega) (by omega)).frame (loc_mt _ _ _) _ _ H4.out).mono ?_
        rintro e w5 ⟨S5, h5f, st5⟩
        obtain ⟨rfl, h5⟩ := Sep.fact h5f
        clear h5f
        skip
        have H5 := Lib.hid h5
        have ST5 := Lib.hid (ST4.out.trans st5)
        clear h5 st5
        go_wp2_with fail
        with_reducible refine ((take_no q 0 l b (by omega) (by omega) (by omega) (by omega) (by omega)).frame (loc_mt _ _ _) _ _ H5.out).mono ?_
        rintro e w6 ⟨S6, h6f, st6⟩
        obtain ⟨rfl, h6⟩ := Sep.fact h6f
        clear h6f
        skip
        obtain ⟨T6, hT6, _⟩ := h6.left
        obtain ⟨T7, hT7, _⟩ := h6.comm.left
        have c6 := hT6.c0
        have c7 := hT7.c0
        have ST6 := Lib.hid (ST5.out.trans st6)
        clear h6 st6 hT6 hT7
        go_wp2_with (first | (go_at_call 20; first | ((with_reducible refine (used_is p _ _ c7).mono ?_); rintro e w' ⟨rfl, rfl⟩) | ((with_reducible refine (used_is q _ _ c6).mono ?_); rintro e w' ⟨rfl, rfl⟩)))
        go_ret
        exact ⟨rfl, ST6.out.keep.below (Nat.le_refl _) (fun _ _ x => x)⟩

theorem splits_wf (l a b : Int) (w : World) (hl : (Lit.int .u16 l).wf = true) (ha : (Lit.int .u16 a).wf = true) (hb : (Lit.int .u16 b).wf = true) :
    Calls Try.prog 4 #[.int .u16 l, .int .u16 a, .int .u16 b] w fun e w' => e = .returned (.bool true) ∧ Below w.heap.size w w' :=
  splits_law l a b w (wf_u16 hl).1 (wf_u16 hl).2 (wf_u16 ha).1 (wf_u16 ha).2 (wf_u16 hb).1 (wf_u16 hb).2

end Go.Proofs.Ythemincohmgihaa.Meter
