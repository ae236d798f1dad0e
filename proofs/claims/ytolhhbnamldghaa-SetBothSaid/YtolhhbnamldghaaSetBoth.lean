/- P11.1: what is in one of two, or in both: at every input, without conditions. -/
import Derived.Test.YtolhhbnamldghaaSetCon
import Derived.Test.YtolhhbnamldghaaSetAnd
namespace Go.Proofs.Ytolhhbnamldghaa.Set
open Go.RowKit Go.Proofs.Ytolhhbnamldghaa.Own Go.Proofs.Ytolhhbnamldghaa.Rely Go.Proofs.Ytolhhbnamldghaa.PureB
attribute [local go_sem] max_ints min_ints

theorem asc_head {x : Int} {s : List Int} (h : Asc (x :: s)) : ∀ y ∈ s, x < y := (List.pairwise_cons.1 h).1
theorem orL_count (n : Nat) : ∀ (s o : List Int), s.length + o.length ≤ n → Asc s → Asc o → (orL s o).length + (andL s o).length = s.length + o.length := by
  induction n with
  | zero =>
    intro s o h _ _
    obtain rfl : s = [] := List.eq_nil_of_length_eq_zero (by omega)
    obtain rfl : o = [] := List.eq_nil_of_length_eq_zero (by omega)
    rw [orL_nil]; rfl
  | succ n ih =>
    intro s o h hs ho
    match s, o with
    | s, [] =>
      have e : andL s [] = [] := by unfold andL; simp
      rw [orL_nil, e]
    | [], y :: o =>
      have e : andL [] (y :: o) = [] := rfl
      rw [orL_nil', e]; simp
    | x :: s, y :: o =>
      simp only [List.length_cons] at h
      rw [orL_cons]
      have hxs := asc_head hs
      have hyo := asc_head ho
      by_cases h1 : x < y
      · rw [if_pos h1]
        have e : andL (x :: s) (y :: o) = andL s (y :: o) := by
          unfold andL
          rw [List.filter_cons]
          have : (y :: o).contains x = false := by
            simp only [List.contains_eq_mem, List.mem_cons, decide_eq_false_iff_not]
            rintro (q | q)
            · omega
            · have := hyo x q; omega
          rw [this]; rfl
        have := ih s (y :: o) (by simp only [List.length_cons]; omega) (List.Pairwise.of_cons hs) ho
        rw [e]; simp only [List.length_cons] at this ⊢; omega
      · rw [if_neg h1]
        by_cases h2 : y < x
        · rw [if_pos h2]
          have e : andL (x :: s) (y :: o) = andL (x :: s) o := by
            unfold andL
            refine List.filter_congr fun z hz => ?_
            have hzy : y < z := by
              rcases List.mem_cons.1 hz with q | q
              · omega
              · have := hxs z q; omega
            have : (z == y) = false := by rw [beq_eq_false_iff_ne]; omega
            rw [List.contains_cons, this, Bool.false_or]
          have := ih (x :: s) o (by simp only [List.length_cons]; omega) hs (List.Pairwise.of_cons ho)
          rw [e]; simp only [List.length_cons] at this ⊢; omega
        · rw [if_neg h2]
          obtain rfl : x = y := by omega
          have e : andL (x :: s) (x :: o) = x :: andL s o := by
            unfold andL
            rw [List.filter_cons]
            have : (x :: o).contains x = true := by simp
            rw [this, if_pos rfl]
            congr 1
            refine List.filter_congr fun z hz => ?_
            have := hxs z hz
            have : (z == x) = false := by rw [beq_eq_false_iff_ne]; omega
            rw [List.contains_cons, this, Bool.false_or]
          have := ih s o (by omega) (List.Pairwise.of_cons hs) (List.Pairwise.of_cons ho)
          rw [e]; simp only [List.length_cons]; omega

set_option maxHeartbeats 16000000 in
set_option maxRecDepth 20000 in
theorem both_wf (A : Option Addr) (c : Nat) (a : List Int) (B : Option Addr) (d : Nat) (b : List Int) (few : Bool) (w : World) (h : ArgI w .u32 A c a) (h' : ArgI w .u32 B d b) :
    Calls Try.prog 12 #[.slice A a.length c, .slice B b.length d, .bool few] w fun e w' => e = .returned (.bool true) ∧ Below w.heap.size w w' := by
  have HA := Lib.hid h.reads
  have HB := Lib.hid h'.reads
  have hac := h.le
  have hbd := h'.le
  clear h h'
  go_enter Try.func12, Try.ntmps12
  go_wp2_with fail
  refine (awake11 w).mono ?_
  rintro e w1 ⟨rfl, hb1⟩
  have X1 := Lib.hid (show Ext w w1 from hb1)
  clear hb1
  by_cases hla : 80 < a.length
  · have g1 : decide ((80 : Int) < (a.length : Int)) = true := by simp <;> omega
    go_wp2_with fail
    go_ret
    exact ⟨rfl, X1.out⟩
  have g1 : decide ((80 : Int) < (a.length : Int)) = false := by simp <;> omega
  by_cases hlb : 80 < b.length
  · have g2 : decide ((80 : Int) < (b.length : Int)) = true := by simp <;> omega
    go_wp2_with fail
    go_ret
    exact ⟨rfl, X1.out⟩
  have g2 : decide ((80 : Int) < (b.length : Int)) = false := by simp <;> omega
  have HOF := Lib.hid (lawof_c A c a few w1 (X1.out.reads HA.out) (by omega) hac)
  go_wp2_with fail
  refine HOF.out.mono ?_
  rintro e w2 ⟨s, As, cs, rfl, hs, hsl, hsm, hsc, hsr, hx2⟩
  have X2 := Lib.hid (Ext.trans _ _ _ X1.out hx2)
  have HSA := Lib.hid hs
  have HSR := Lib.hid hsr
  have HOF2 := Lib.hid (lawof_c B d b few w2 (X2.out.reads HB.out) (by omega) hbd)
  clear HOF hs hsm hsr hx2 X1 HA HB
  have hsl' : s.length ≤ 80 := by omega
  clear hsl
  go_wp2_with fail
  refine HOF2.out.mono ?_
  rintro e w3 ⟨t, At, ct, rfl, ht, htl, htm, htc, htr, hx3⟩
  have X3 := Lib.hid (Ext.trans _ _ _ X2.out hx3)
  have HTA := Lib.hid ht
  have HTR := Lib.hid htr
  have HSR3 := Lib.hid (hx3.reads HSR.out)
  clear HOF2 ht htm htr hx3 X2 HSR
  have htl' : t.length ≤ 80 := by omega
  clear htl hla hlb hac hbd
  have HOR := Lib.hid (or_c As At cs ct s t w3 HSR3.out HTR.out (by omega) (by omega) hsc htc)
  go_wp2_with fail
  refine HOR.out.mono ?_
  rintro e w4 ⟨Ao, co, rfl, hoc, hor, hx4⟩
  have X4 := Lib.hid (Ext.trans _ _ _ X3.out hx4)
  have HSR4 := Lib.hid (hx4.reads HSR3.out)
  have HTR4 := Lib.hid (hx4.reads HTR.out)
  have HORR := Lib.hid hor
  have HAN := Lib.hid (and_cc As At cs ct s t w4 HSR4.out HTR4.out (by omega) (by omega) htc HSA.out HTA.out)
  clear HOR hor hx4 X3 HSR3 HTR
  go_wp2_with fail
  refine HAN.out.mono ?_
  rintro e w5 ⟨An, cn, rfl, hnc, hnr, hx5⟩
  have X5 := Lib.hid (Ext.trans _ _ _ X4.out hx5)
  have HSR5 := Lib.hid (hx5.reads HSR4.out)
  have HTR5 := Lib.hid (hx5.reads HTR4.out)
  have HOR5 := Lib.hid (hx5.reads HORR.out)
  have HAN5 := Lib.hid hnr
  clear HAN hnr hx5 X4 HSR4 HTR4 HORR
  have HCNT := Lib.hid (orL_count _ s t (Nat.le_refl _) HSA.out HTA.out)
  have HMO := Lib.hid (fun x => mem_orL (s := s) (o := t) (x := x))
  have HMA := Lib.hid (fun x => mem_andL (s := s) (o := t) (x := x))
  have HOA := Lib.hid (asc_orL HSA.out HTA.out)
  have HNA := Lib.hid (asc_andL HSA.out t)
  have hol := orL_le s t
  have hnl := andL_le s t
  have HST := Lib.hid (fun k (hk : k < s.length) => andL_step (s := s) (o := t) hk)
  have HFULL := Lib.hid (show andL (s.take s.length) t = andL s t by rw [List.take_of_length_le (Nat.le_refl _)])
  have HOREQ := Lib.hid (show orL s t = orL t s from asc_ext HOA.out (asc_orL HTA.out HSA.out) (fun x => by rw [mem_orL, mem_orL]; exact or_comm))
  have HANEQ := Lib.hid (show andL s t = andL t s from asc_ext HNA.out (asc_andL HTA.out s) (fun x => by rw [mem_andL, mem_andL]; exact and_comm))
  obtain ⟨O, hO⟩ : ∃ O, orL s t = O := ⟨_, rfl⟩
  obtain ⟨M, hM⟩ : ∃ M, andL s t = M := ⟨_, rfl⟩
  rw [hO] at HCNT HMO HOA hol HOREQ HOR5 hoc ⊢
  rw [hM] at HCNT HMA HNA hnl HANEQ HAN5 HFULL hnc ⊢
  clear hO hM
  go_wp2_with fail
  go_loopw [13, 48] (fun v13 v48 wq => ∃ j : Nat, j ≤ s.length ∧ v48 = .int .i64 j ∧ v13 = .int .i64 (andL (s.take j) t).length ∧ Ext w wq ∧ Ext w5 wq) (fun _ v _ => s.length - (intOf v).toNat)
  case atStart => exact ⟨0, by omega, rfl, rfl, X5.out, Ext.refl _⟩
  case round =>
    obtain ⟨j, hj, rfl, rfl, hxa, hxb⟩ := hrel
    have XA := Lib.hid hxa
    have XB := Lib.hid hxb
    clear hxa hxb
    by_cases hj2 : j < s.length
    · have hj4 : (j : Int) < (s.length : Int) := by omega
      obtain ⟨bb, oo, rfl, hblt, cx⟩ := (XB.out.reads HSR5.out).at hj2
      have HSTJ := Lib.hid (HST.out j hj2)
      have hmem : s.getD j 0 ∈ s := mem_getD.2 ⟨j, hj2, rfl⟩
      obtain ⟨x, hx⟩ : ∃ x, s.getD j 0 = x := ⟨_, rfl⟩
      rw [hx] at cx hmem HSTJ
      have e1 : O.contains x = true := by simpa using (HMO.out x).2 (.inl hmem)
      have e2 : M.contains x = t.contains x := by
        rw [Bool.eq_iff_iff]; simp only [List.contains_eq_mem, decide_eq_true_eq]
        rw [HMA.out x]; exact ⟨fun q => q.2, fun q => ⟨hmem, q⟩⟩
      obtain ⟨tc, htc2⟩ : ∃ tc, t.contains x = tc := ⟨_, rfl⟩
      rw [htc2] at e2 HSTJ
      clear hx hmem
      have H1 := Lib.hid (has_c Ao co O x _ (XB.out.reads HOR5.out) (by omega) hoc HOA.out)
      rw [e1] at H1
      go_wp2_with fail
      refine H1.out.mono ?_
      rintro e w6 ⟨rfl, hx6⟩
      have XB6 := Lib.hid (Ext.trans _ _ _ XB.out hx6)
      have XA6 := Lib.hid (Ext.trans _ _ _ XA.out hx6)
      have H2 := Lib.hid (has_c An cn M x _ (XB6.out.reads HAN5.out) (by omega) hnc HNA.out)
      rw [e2] at H2
      clear H1 hx6 XA XB
      go_wp2_with fail
      refine H2.out.mono ?_
      rintro e w7 ⟨rfl, hx7⟩
      have XB7 := Lib.hid (Ext.trans _ _ _ XB6.out hx7)
      have XA7 := Lib.hid (Ext.trans _ _ _ XA6.out hx7)
      have H3 := Lib.hid (has_c At ct t x _ (XB7.out.reads HTR5.out) (by omega) htc HTA.out)
      rw [htc2] at H3
      clear H2 hx7 XA6 XB6
      go_wp2_with fail
      refine H3.out.mono ?_
      rintro e w8 ⟨rfl, hx8⟩
      have XB8 := Lib.hid (Ext.trans _ _ _ XB7.out hx8)
      have XA8 := Lib.hid (Ext.trans _ _ _ XA7.out hx8)
      have H4 := Lib.hid (has_c At ct t x _ (XB8.out.reads HTR5.out) (by omega) htc HTA.out)
      rw [htc2] at H4
      clear H3 hx8 XA7 XB7 e1 e2 htc2
      have hq : (andL (s.take j) t).length ≤ 80 := by
        have := andL_le (s.take j) t
        rw [List.length_take] at this; omega
      cases tc with
      | true =>
        have hs1 : (andL (s.take (j + 1)) t).length = (andL (s.take j) t).length + 1 := by rw [HSTJ.out, if_pos rfl, List.length_append]; rfl
        have HS1 := Lib.hid hs1
        clear hs1
        go_wp2_with fail
        refine H4.out.mono ?_
        rintro e w9 ⟨rfl, hx9⟩
        have XB9 := Lib.hid (Ext.trans _ _ _ XB8.out hx9)
        have XA9 := Lib.hid (Ext.trans _ _ _ XA8.out hx9)
        clear hx9 XA8 XB8 H4
        go_wp2_with fail
        go_roundw
        case rel => exact ⟨j + 1, by omega, by go_num, by rw [HS1.out]; go_num, XA9.out, XB9.out⟩
        case measure => simp [intOf]; omega
      | false =>
        have hs1 : (andL (s.take (j + 1)) t).length = (andL (s.take j) t).length := by rw [HSTJ.out, if_neg (by decide)]
        have HS1 := Lib.hid hs1
        clear hs1
        go_wp2_with fail
        refine H4.out.mono ?_
        rintro e w9 ⟨rfl, hx9⟩
        have XB9 := Lib.hid (Ext.trans _ _ _ XB8.out hx9)
        have XA9 := Lib.hid (Ext.trans _ _ _ XA8.out hx9)
        clear hx9 XA8 XB8 H4
        go_wp2_with fail
        go_roundw
        case rel => exact ⟨j + 1, by omega, by go_num, by rw [HS1.out], XA9.out, XB9.out⟩
        case measure => simp [intOf]; omega
    · obtain rfl : j = s.length := by omega
      rw [HFULL.out]
      clear HST HFULL
      go_wp2_with fail
      rename_i K0 hK0 K1 hK1
      clear hK0
      go_loopw [73] (fun v73 wq => ∃ j : Nat, j ≤ t.length ∧ v73 = .int .i64 j ∧ Ext w wq ∧ Ext w5 wq) (fun v _ => t.length - (intOf v).toNat)
      case atStart => exact ⟨0, by omega, rfl, XA.out, XB.out⟩
      case round =>
        obtain ⟨j, hj, rfl, hxa, hxb⟩ := hrel
        have XA2 := Lib.hid hxa
        have XB2 := Lib.hid hxb
        clear hxa hxb XA XB
        by_cases hj2 : j < t.length
        · have hj4 : (j : Int) < (t.length : Int) := by omega
          obtain ⟨bb, oo, rfl, hblt, cx⟩ := (XB2.out.reads HTR5.out).at hj2
          have hmem : t.getD j 0 ∈ t := mem_getD.2 ⟨j, hj2, rfl⟩
          obtain ⟨x, hx⟩ : ∃ x, t.getD j 0 = x := ⟨_, rfl⟩
          rw [hx] at cx hmem
          have e1 : O.contains x = true := by simpa using (HMO.out x).2 (.inr hmem)
          clear hx hmem
          have H1 := Lib.hid (has_c Ao co O x _ (XB2.out.reads HOR5.out) (by omega) hoc HOA.out)
          rw [e1] at H1
          clear e1
          go_wp2_with fail
          refine H1.out.mono ?_
          rintro e w6 ⟨rfl, hx6⟩
          have XB6 := Lib.hid (Ext.trans _ _ _ XB2.out hx6)
          have XA6 := Lib.hid (Ext.trans _ _ _ XA2.out hx6)
          clear H1 hx6 XA2 XB2
          go_wp2_with fail
          go_roundw
          case rel => exact ⟨j + 1, by omega, by go_num, XA6.out, XB6.out⟩
          case measure => simp [intOf]; omega
        · obtain rfl : j = t.length := by omega
          clear hj2
          have k1 : checkS O = 0 := checkS_asc (by omega) HOA.out
          have k2 : checkS M = 0 := checkS_asc (by omega) HNA.out
          have HC1 := check_c Ao co O wr (XB2.out.reads HOR5.out) (by omega)
          rw [k1] at HC1
          have hc1 := Lib.hid HC1
          clear HC1
          go_wp2_with fail
          refine hc1.out.mono ?_
          rintro e w6 ⟨rfl, hx6⟩
          have XB6 := Lib.hid (Ext.trans _ _ _ XB2.out hx6)
          have XA6 := Lib.hid (Ext.trans _ _ _ XA2.out hx6)
          have HC2 := check_c An cn M w6 (XB6.out.reads HAN5.out) (by omega)
          rw [k2] at HC2
          have hc2 := Lib.hid HC2
          clear HC2 hc1 hx6 XA2 XB2 k1 k2
          go_wp2_with fail
          refine hc2.out.mono ?_
          rintro e w7 ⟨rfl, hx7⟩
          have XB7 := Lib.hid (Ext.trans _ _ _ XB6.out hx7)
          have XA7 := Lib.hid (Ext.trans _ _ _ XA6.out hx7)
          have hcnt := HCNT.out
          have hlen : (s.length : Int) + (t.length : Int) - (M.length : Int) = (O.length : Int) := by omega
          have HC3 := or_c At As ct cs t s w7 (XB7.out.reads HTR5.out) (XB7.out.reads HSR5.out) (by omega) (by omega) htc hsc
          rw [← HOREQ.out] at HC3
          have hc3 := Lib.hid HC3
          clear HC3 hc2 hx7 XA6 XB6 hcnt
          go_wp2_with fail
          refine hc3.out.mono ?_
          rintro e w8 ⟨A8, c8, rfl, h8c, h8r, hx8⟩
          have XB8 := Lib.hid (Ext.trans _ _ _ XB7.out hx8)
          have XA8 := Lib.hid (Ext.trans _ _ _ XA7.out hx8)
          have HC4 := same_c Ao A8 co c8 O O w8 (XB8.out.reads HOR5.out) h8r (by omega) (by omega)
          rw [decide_eq_true rfl] at HC4
          have hc4 := Lib.hid HC4
          clear HC4 hc3 hx8 XA7 XB7 h8r hlen
          go_wp2_with fail
          refine hc4.out.mono ?_
          rintro e w9 ⟨rfl, hx9⟩
          have XB9 := Lib.hid (Ext.trans _ _ _ XB8.out hx9)
          have XA9 := Lib.hid (Ext.trans _ _ _ XA8.out hx9)
          have HC5 := and_cc At As ct cs t s w9 (XB9.out.reads HTR5.out) (XB9.out.reads HSR5.out) (by omega) (by omega) hsc HTA.out HSA.out
          rw [← HANEQ.out] at HC5
          have hc5 := Lib.hid HC5
          clear HC5 hc4 hx9 XA8 XB8
          go_wp2_with fail
          refine hc5.out.mono ?_
          rintro e w10 ⟨A10, c10, rfl, h10c, h10r, hx10⟩
          have XB10 := Lib.hid (Ext.trans _ _ _ XB9.out hx10)
          have XA10 := Lib.hid (Ext.trans _ _ _ XA9.out hx10)
          have HC6 := same_c An A10 cn c10 M M w10 (XB10.out.reads HAN5.out) h10r (by omega) (by omega)
          rw [decide_eq_true rfl] at HC6
          have hc6 := Lib.hid HC6
          clear HC6 hc5 hx10 XA9 XB9 h10r
          go_wp2_with fail
          refine hc6.out.mono ?_
          rintro e w11 ⟨rfl, hx11⟩
          go_wp2_with fail
          go_ret
          exact ⟨rfl, Ext.trans _ _ _ XA10.out hx11⟩
end Go.Proofs.Ytolhhbnamldghaa.Set
