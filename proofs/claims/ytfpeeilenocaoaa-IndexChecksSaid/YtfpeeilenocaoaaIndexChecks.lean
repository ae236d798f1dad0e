/- P21.1: entries that may not be: why not: at every input, without conditions. -/
import Derived.Test.YtfpeeilenocaoaaIdxChecks
import Derived.Test.YtfpeeilenocaoaaFrameBack
import Derived.Test.YtfpeeilenocaoaaIndexAny
import Derived.Deep.OwnRows
namespace Go.Proofs.Ytfpeeilenocaoaa.Idx
open Go.RowKit Go.Proofs.Ytfpeeilenocaoaa.Own Go.Proofs.Ytfpeeilenocaoaa.Rely Go.Proofs.Ytfpeeilenocaoaa.Crc Go.Proofs.Ytfpeeilenocaoaa.Frame
attribute [local go_sem] max_ints min_ints

theorem chars_256 (w : World) : (convert 22 9 (.slice (some ⟨w.heap.size, 0, none⟩) 256 256)).run Try.prog (w.alloc (.cells (madeCells #[.int .u8 0] 256) 5)) = .ok (.string (strOfNums (List.replicate 256 0))) (w.alloc (.cells (madeCells #[.int .u8 0] 256) 5)) := by
  have h := (Row.made 5 .u8 256 w (by decide)).readsAt.string (P := Try.prog) Try.underlying22 Try.underlying5 Try.underlying9 256
  rwa [List.length_replicate] at h
theorem mk_many (w : World) : ∃ w', (Instr.makeSlice 50 (.int .i64 1001) (.int .i64 1001)).run Try.prog w = .ok (.slice (some ⟨w.heap.size, 0, none⟩) 1001 1001) w' ∧ Ext w w' := by
  obtain ⟨i0, hi, hzz⟩ := Option.map_eq_some_iff.1 info_ent
  simp only [Prod.mk.injEq] at hzz
  obtain ⟨hz0, hz1, hz2⟩ := hzz
  have hr := run_make (P := Try.prog) w 50 55 i0 _ Try.underlying50 hi hz0 .i64 .i64 ((1001 : Nat) : Int) ((1001 : Nat) : Int) (by omega) (Int.le_refl _) (by rw [hz2]; decide) (by decide)
  exact ⟨_, hr, (Below.refl _ _).alloc (Nat.le_refl _) _⟩

set_option maxHeartbeats 16000000 in
set_option maxRecDepth 20000 in
theorem checks_wf (A : Option Addr) (c : Nat) (xs : List Itm) (what k : Int) (w : World) (h1 : ArgT w A c xs) (h2 : (Lit.int .u8 what).wf = true) (h3 : (Lit.int .u8 k).wf = true) :
    Calls Try.prog 11 #[.slice A xs.length c, .int .u8 what, .int .u8 k] w fun e w' => e = .returned (.bool true) ∧ Below w.heap.size w w' := by
  have hwh := wf_u8 h2
  obtain ⟨wn, rfl⟩ : ∃ n : Nat, what = (n : Int) := ⟨what.toNat, by omega⟩
  have hk := wf_u8 h3
  obtain ⟨kn, rfl⟩ : ∃ n : Nat, k = (n : Int) := ⟨k.toNat, by omega⟩
  have HR := Lib.hid h1.reads
  have HOK := Lib.hid h1.okay
  clear h1 h2 h3
  go_enter Try.func11, Try.ntmps11
  go_wp2_with fail
  refine (awake21 w).mono ?_
  rintro e w1 ⟨rfl, hx1⟩
  have X1 := Lib.hid hx1
  clear hx1
  by_cases hl : 40 < xs.length
  · have g1 : decide ((40 : Int) < (xs.length : Int)) = true := by simp; omega
    go_wp2_with fail
    go_ret
    exact ⟨rfl, X1.out⟩
  have g1 : decide ((40 : Int) < (xs.length : Int)) = false := by simp; omega
  obtain ⟨v1, w2, A2, c2, w3, hrun1, hrun2, hx3, hri⟩ := items_two w1 A c xs (HR.out.ext X1.out) (by omega)
  have HRUN1 := Lib.hid hrun1
  have HRUN2 := Lib.hid hrun2
  have X3 := Lib.hid (Ext.trans _ _ _ X1.out hx3)
  have HMK := Lib.hid (show Calls Try.prog 23 #[.slice A2 (xs.length + 1) c2, .int .u16 9] w3 fun e w' => ∃ v L, e = .returned v ∧ MadeE w3 (t0 :: xs) v L w' from make_c A2 c2 (t0 :: xs) w3 hri (fun x hx => by
    rcases List.mem_cons.1 hx with rfl | hx
    · exact ⟨by decide, by decide, by decide, fun y hy => by cases hy⟩
    · exact HOK.out x hx) (by simp; omega) 9 (by omega))
  clear hrun1 hrun2 hx3 hri HR HOK X1
  go_wp2_with (first | (at_builtin; refine append_known _ rfl _ _ 48 rfl (.slice (some ⟨w1.heap.size, 0, none⟩) 0 0) (.slice (some ⟨w1.heap.size + 1, 0, none⟩) 1 1) v1 w2 rfl (by rfl) HRUN1.out ?_) | (at_builtin; refine append_known _ rfl _ _ 48 rfl v1 (.slice A xs.length c) (.slice A2 (xs.length + 1) c2) w3 rfl rfl HRUN2.out ?_))
  refine HMK.out.mono ?_
  rintro e w4 ⟨v, L, rfl, hmk⟩
  have X4 := Lib.hid (Ext.trans _ _ _ X3.out hmk.ext)
  have hL := hmk.len
  have hL1 := hmk.some_ (by simp) (by simp [t0])
  obtain ⟨g, cv, rfl, hcv1, hcv2, hglt, hSg⟩ := RowE.form hmk.row (by omega)
  have HROW := Lib.hid (show RowE (.slice (some ⟨g, 0, none⟩) L.length cv) L w4 (fun b => b = g) from ⟨hmk.row.1, fun b => by simp [Value.ownBlock, eq_comm]⟩)
  have hgw : w.heap.size ≤ g := Nat.le_trans X3.out.size (hmk.fresh g (by simp [Value.ownBlock]))
  obtain ⟨Av, cv', ev, _, hrd, _⟩ := HROW.out.reads
  injection ev with ev1 _ ev3
  subst ev1 ev3
  have HRE := Lib.hid hrd
  have HCK := Lib.hid (check_c (some ⟨g, 0, none⟩) cv L w4 hrd (by omega))
  obtain ⟨N, hN⟩ : ∃ N, checkX L = N := ⟨_, rfl⟩
  rw [hN] at HCK
  have HNM := Lib.hid hmk.nmb
  clear hmk hrd HMK X3 HRUN1 HRUN2 hSg hcv1
  have dn : decide ((L.length : Int) = 0) = false := by rw [decide_eq_false_iff_not]; omega
  have dnb : ((L.length : Int) == 0) = false := by rw [beq_eq_false_iff_ne]; omega
  have dpos : decide ((0 : Int) < (L.length : Int)) = true := by rw [decide_eq_true_iff]; omega
  have dposn : decide (0 < L.length) = true := by rw [decide_eq_true_iff]; omega
  go_wp2_with fail
  refine HCK.out.mono ?_
  rintro e w5 ⟨rfl, hx5⟩
  have X5 := Lib.hid (Ext.trans _ _ _ X4.out hx5)
  have HROW5 := Lib.hid (Ext.keep (Lcl.rowE _ _) hx5 HROW.out)
  have HRE5 := Lib.hid (HRE.out.ext hx5)
  have hgl5 : g < w5.heap.size := Nat.lt_of_lt_of_le hglt hx5.size
  clear hx5 HCK HROW HRE X4 hglt
  by_cases hN0 : N = 0
  case neg =>
    have hNi : (N : Int) ≠ 0 := by omega
    have hNb : ((N : Int) != 0) = true := by simpa using hNi
    have hNd : decide ((N : Int) = 0) = false := by simpa using hNi
    have hNe : ((N : Int) == 0) = false := by simpa using hNi
    go_wp2_with fail
    go_ret
    exact ⟨rfl, X5.out⟩
  subst hN0
  have HC0 := Lib.hid hN
  clear hN
  -- the last entry
  obtain ⟨m, hm⟩ : ∃ m, L.length = m + 1 := ⟨L.length - 1, by omega⟩
  have hji : (L.length : Int) - 1 = (m : Int) := by omega
  obtain ⟨b', o', eb, _, p0, p1, p2⟩ := HRE5.out m (by omega)
  injection eb with eb
  injection eb with eb1 eb2 _
  subst eb1 eb2
  have hbd := (check_bd HC0.out).2 _ (getD_mem (show m < L.length by omega))
  have HNQ := Lib.hid (HNM.out _ (getD_mem (show m < L.length by omega)))
  have HLast := Lib.hid (show L.getD (L.length - 1) e0 = L.getD m e0 by rw [hm]; rfl)
  obtain ⟨y, hy⟩ : ∃ y, L.getD m e0 = y := ⟨_, rfl⟩
  rw [hy] at p0 p1 p2 hbd HLast HNQ
  obtain ⟨nb, aq, sq⟩ := y
  simp only at p0 p1 p2
  have hbd2 : 1 ≤ nb.length ∧ nb.length ≤ 255 ∧ 0 ≤ aq ∧ aq ≤ 1048576 ∧ 1 ≤ sq ∧ sq ≤ 1048576 := hbd
  have hw : wrap64 (aq + sq) = aq + sq := (by unfold wrap64; omega)
  clear hbd hy
  have HM := Lib.hid hm
  clear hm
  simp only [Nat.zero_add] at p0 p1 p2
  by_cases hbig : 1048576 ≤ aq + sq
  · have d1 : decide ((1048576 : Int) ≤ aq + sq) = true := by simp; omega
    go_wp2_with fail
    go_quiet (fail)
    go_wp2_with fail
    go_ret
    exact ⟨rfl, Ext.trans _ _ _ X5.out (Wire.ext_drewN _ _)⟩
  have d1 : decide ((1048576 : Int) ≤ aq + sq) = false := by simp; omega
  go_wp2_with fail
  go_quiet (fail)
  obtain ⟨w6, hw6⟩ : ∃ w6, w5.drewN nq = w6 := ⟨_, rfl⟩
  have hx6 : Ext w5 w6 := by rw [← hw6]; exact Wire.ext_drewN _ _
  rw [hw6]
  have X6 := Lib.hid (Ext.trans _ _ _ X5.out hx6)
  have HROW6 := Lib.hid (Ext.keep (Lcl.rowE _ _) hx6 HROW5.out)
  have hgl6 : g < w6.heap.size := Nat.lt_of_lt_of_le hgl5 hx6.size
  replace p0 := hx6.cell p0
  replace p1 := hx6.cell p1
  replace p2 := hx6.cell p2
  have HRE6 := Lib.hid (HRE5.out.ext hx6)
  clear hx6 hw6 HROW5 HRE5 X5 hgl5
  have hkm : (kn : Int).tmod (L.length : Int) = ((kn % L.length : Nat) : Int) := by rw [Int.tmod_eq_emod_of_nonneg (by omega)]; rfl
  have hwm : (wn : Int).tmod 7 = ((wn % 7 : Nat) : Int) := by rw [Int.tmod_eq_emod_of_nonneg (by omega)]; rfl
  obtain ⟨i, hi⟩ : ∃ i, kn % L.length = i := ⟨_, rfl⟩
  have hiL : i < L.length := by rw [← hi]; exact Nat.mod_lt _ (by omega)
  obtain ⟨M, hM⟩ : ∃ M, wn % 7 = M := ⟨_, rfl⟩
  have hM7 : M < 7 := by omega
  rw [hi] at hkm
  rw [hM] at hwm
  clear hi hM
  have hiLi : (i : Int) < (L.length : Int) := by omega
  have hfz : ∀ j, w6.frozen? ⟨g, j, none⟩ = false := fun j => HROW6.out.free j
  have hbi := (check_bd HC0.out).2 _ (getD_mem hiL)
  obtain ⟨z, hz⟩ : ∃ z, L.getD i e0 = z := ⟨_, rfl⟩
  have HZ := Lib.hid hz
  rw [hz] at hbi
  obtain ⟨nz, az, sz⟩ := z
  have hbi2 : 1 ≤ nz.length ∧ nz.length ≤ 255 ∧ 0 ≤ az ∧ az ≤ 1048576 ∧ 1 ≤ sz ∧ sz ≤ 1048576 := hbi
  obtain ⟨b', o', eb, _, q0, q1, q2⟩ := HRE6.out i hiL
  injection eb with eb
  injection eb with eb1 eb2 _
  subst eb1 eb2
  rw [hz] at q0 q1 q2
  simp only [Nat.zero_add] at q0 q1 q2
  clear hz hbi
  rcases (by omega : M = 0 ∨ M = 1 ∨ M = 2 ∨ M = 3 ∨ M = 4 ∨ M = 5 ∨ M = 6) with rfl | rfl | rfl | rfl | rfl | rfl | rfl
  · clear p0 p1 p2
    obtain ⟨hr7, hk7⟩ := HROW6.out.set i 0 hiL (by decide) (.string ⟨#[]⟩) (([], az, sz)) (by rw [HZ.out]; rfl)
    have HFIN := Lib.hid (check_set HC0.out hiL (by decide) (chk1_name (.inl (by decide)) : chk1 (prev L i) (([], az, sz)) = 12))
    obtain ⟨A9, c9, e9, q91, hre7, q92, q93⟩ := hr7.reads
    injection e9 with e91 e92 e93
    clear q91 q92 q93 e92
    subst e91 e93
    have HRE := Lib.hid hre7
    have HLEN := Lib.hid (show (L.set i (([], az, sz))).length = L.length from List.length_set)
    have XW := Lib.hid (Below.trans X6.out (hk7.below X6.out.size (fun x hx hz => by have hz' : x = g := hz; omega)))
    clear hr7 hk7 hre7
    have hpb := put_bad (some ⟨g, 0, none⟩) cv _ (w6.setCell ⟨g, i * 3, none⟩ (.string ⟨#[]⟩)) HRE.out (by rw [HLEN.out]; omega) (by rw [HFIN.out]; decide)
    have hcb := fun w' (x : Ext (w6.setCell ⟨g, i * 3, none⟩ (.string ⟨#[]⟩)) w') => check_c (some ⟨g, 0, none⟩) cv _ w' (HRE.out.ext x) (by rw [HLEN.out]; omega)
    rw [HFIN.out, HLEN.out] at hpb
    simp only [HFIN.out, HLEN.out] at hcb
    have HPB := Lib.hid hpb
    have HCB := Lib.hid hcb
    clear HRE hpb hcb
    go_wp2_with fail
    refine HPB.out.mono ?_
    rintro e w8 ⟨rfl, hx8⟩
    have HC8 := Lib.hid (HCB.out w8 hx8)
    have X8 := Lib.hid (Ext.trans _ _ _ XW.out hx8)
    clear hx8 HPB HCB XW
    go_wp2_with fail
    refine HC8.out.mono ?_
    rintro e w9 ⟨rfl, hx9⟩
    obtain ⟨wz, hmk, hxz⟩ := mk_many w9
    have HCM := Lib.hid (check_many (some ⟨w9.heap.size, 0, none⟩) 1001 1001 wz (by omega))
    have X9 := Lib.hid (Ext.trans _ _ _ X8.out (Ext.trans _ _ _ hx9 hxz))
    clear hx9 hxz X8 HC8
    go_wp2_with fail
    refine HCM.out.mono ?_
    rintro e w10 ⟨rfl, hx10⟩
    go_wp2_with fail
    go_ret
    exact ⟨rfl, Ext.trans _ _ _ X9.out hx10⟩
  · clear p0 p1 p2
    have hmk : (Instr.makeSlice 22 (.int .i64 256) (.int .i64 256)).run Try.prog w6 = .ok (.slice (some ⟨w6.heap.size, 0, none⟩) 256 256) (w6.alloc (.cells (madeCells #[.int .u8 0] 256) 5)) := Go.run_make_row' 22 5 (.int .u8 0) 1 Try.underlying22 Crc.info_u8 rfl .i64 .i64 256 (by decide) (by decide) w6
    have hcv := chars_256 w6
    have hxa : Ext w6 (w6.alloc (.cells (madeCells #[.int .u8 0] 256) 5)) := (Below.refl _ _).alloc (Nat.le_refl _) _
    have HROWA := Lib.hid (Ext.keep (Lcl.rowE _ _) hxa HROW6.out)
    have XA := Lib.hid (Ext.trans _ _ _ X6.out hxa)
    replace q0 := hxa.cell q0
    clear hxa hfz q1 q2
    obtain ⟨wa, hwa⟩ : ∃ wa, w6.alloc (.cells (madeCells #[.int .u8 0] 256) 5) = wa := ⟨_, rfl⟩
    rw [hwa] at hmk hcv HROWA XA q0
    have hfz : ∀ j, wa.frozen? ⟨g, j, none⟩ = false := fun j => HROWA.out.free j
    clear hwa
    obtain ⟨hr7, hk7⟩ := HROWA.out.set i 0 hiL (by decide) (.string (strOfNums (List.replicate 256 0))) ((List.replicate 256 0, az, sz)) (by rw [HZ.out]; rfl)
    have HFIN := Lib.hid (check_set HC0.out hiL (by decide) (chk1_name (.inr (by simp)) : chk1 (prev L i) ((List.replicate 256 0, az, sz)) = 12))
    obtain ⟨A9, c9, e9, q91, hre7, q92, q93⟩ := hr7.reads
    injection e9 with e91 e92 e93
    clear q91 q92 q93 e92
    subst e91 e93
    have HRE := Lib.hid hre7
    have HLEN := Lib.hid (show (L.set i ((List.replicate 256 0, az, sz))).length = L.length from List.length_set)
    have XW := Lib.hid (Below.trans XA.out (hk7.below XA.out.size (fun x hx hz => by have hz' : x = g := hz; omega)))
    clear hr7 hk7 hre7
    have hpb := put_bad (some ⟨g, 0, none⟩) cv _ (wa.setCell ⟨g, i * 3, none⟩ (.string (strOfNums (List.replicate 256 0)))) HRE.out (by rw [HLEN.out]; omega) (by rw [HFIN.out]; decide)
    have hcb := fun w' (x : Ext (wa.setCell ⟨g, i * 3, none⟩ (.string (strOfNums (List.replicate 256 0)))) w') => check_c (some ⟨g, 0, none⟩) cv _ w' (HRE.out.ext x) (by rw [HLEN.out]; omega)
    rw [HFIN.out, HLEN.out] at hpb
    simp only [HFIN.out, HLEN.out] at hcb
    have HPB := Lib.hid hpb
    have HCB := Lib.hid hcb
    clear HRE hpb hcb
    go_wp2_with fail
    refine HPB.out.mono ?_
    rintro e w8 ⟨rfl, hx8⟩
    have HC8 := Lib.hid (HCB.out w8 hx8)
    have X8 := Lib.hid (Ext.trans _ _ _ XW.out hx8)
    clear hx8 HPB HCB XW
    go_wp2_with fail
    refine HC8.out.mono ?_
    rintro e w9 ⟨rfl, hx9⟩
    obtain ⟨wz, hmk, hxz⟩ := mk_many w9
    have HCM := Lib.hid (check_many (some ⟨w9.heap.size, 0, none⟩) 1001 1001 wz (by omega))
    have X9 := Lib.hid (Ext.trans _ _ _ X8.out (Ext.trans _ _ _ hx9 hxz))
    clear hx9 hxz X8 HC8
    go_wp2_with fail
    refine HCM.out.mono ?_
    rintro e w10 ⟨rfl, hx10⟩
    go_wp2_with fail
    go_ret
    exact ⟨rfl, Ext.trans _ _ _ X9.out hx10⟩
  · clear p0 p1 p2
    obtain ⟨hr7, hk7⟩ := HROW6.out.set i 1 hiL (by decide) (.int .i64 (-1)) ((nz, -1, sz)) (by rw [HZ.out]; rfl)
    have HFIN := Lib.hid (check_set HC0.out hiL (by decide) (chk1_range ⟨hbi2.1, hbi2.2.1⟩ (.inl (by decide)) : chk1 (prev L i) ((nz, -1, sz)) = 2))
    obtain ⟨A9, c9, e9, q91, hre7, q92, q93⟩ := hr7.reads
    injection e9 with e91 e92 e93
    clear q91 q92 q93 e92
    subst e91 e93
    have HRE := Lib.hid hre7
    have HLEN := Lib.hid (show (L.set i ((nz, -1, sz))).length = L.length from List.length_set)
    have XW := Lib.hid (Below.trans X6.out (hk7.below X6.out.size (fun x hx hz => by have hz' : x = g := hz; omega)))
    clear hr7 hk7 hre7
    have hpb := put_bad (some ⟨g, 0, none⟩) cv _ (w6.setCell ⟨g, i * 3 + 1, none⟩ (.int .i64 (-1))) HRE.out (by rw [HLEN.out]; omega) (by rw [HFIN.out]; decide)
    have hcb := fun w' (x : Ext (w6.setCell ⟨g, i * 3 + 1, none⟩ (.int .i64 (-1))) w') => check_c (some ⟨g, 0, none⟩) cv _ w' (HRE.out.ext x) (by rw [HLEN.out]; omega)
    rw [HFIN.out, HLEN.out] at hpb
    simp only [HFIN.out, HLEN.out] at hcb
    have HPB := Lib.hid hpb
    have HCB := Lib.hid hcb
    clear HRE hpb hcb
    go_wp2_with fail
    refine HPB.out.mono ?_
    rintro e w8 ⟨rfl, hx8⟩
    have HC8 := Lib.hid (HCB.out w8 hx8)
    have X8 := Lib.hid (Ext.trans _ _ _ XW.out hx8)
    clear hx8 HPB HCB XW
    go_wp2_with fail
    refine HC8.out.mono ?_
    rintro e w9 ⟨rfl, hx9⟩
    obtain ⟨wz, hmk, hxz⟩ := mk_many w9
    have HCM := Lib.hid (check_many (some ⟨w9.heap.size, 0, none⟩) 1001 1001 wz (by omega))
    have X9 := Lib.hid (Ext.trans _ _ _ X8.out (Ext.trans _ _ _ hx9 hxz))
    clear hx9 hxz X8 HC8
    go_wp2_with fail
    refine HCM.out.mono ?_
    rintro e w10 ⟨rfl, hx10⟩
    go_wp2_with fail
    go_ret
    exact ⟨rfl, Ext.trans _ _ _ X9.out hx10⟩
  · clear p0 p1 p2
    obtain ⟨hr7, hk7⟩ := HROW6.out.set i 2 hiL (by decide) (.int .i64 0) ((nz, az, 0)) (by rw [HZ.out]; rfl)
    have HFIN := Lib.hid (check_set HC0.out hiL (by decide) (chk1_range ⟨hbi2.1, hbi2.2.1⟩ (.inr (.inr (.inl (by decide)))) : chk1 (prev L i) ((nz, az, 0)) = 2))
    obtain ⟨A9, c9, e9, q91, hre7, q92, q93⟩ := hr7.reads
    injection e9 with e91 e92 e93
    clear q91 q92 q93 e92
    subst e91 e93
    have HRE := Lib.hid hre7
    have HLEN := Lib.hid (show (L.set i ((nz, az, 0))).length = L.length from List.length_set)
    have XW := Lib.hid (Below.trans X6.out (hk7.below X6.out.size (fun x hx hz => by have hz' : x = g := hz; omega)))
    clear hr7 hk7 hre7
    have hpb := put_bad (some ⟨g, 0, none⟩) cv _ (w6.setCell ⟨g, i * 3 + 2, none⟩ (.int .i64 0)) HRE.out (by rw [HLEN.out]; omega) (by rw [HFIN.out]; decide)
    have hcb := fun w' (x : Ext (w6.setCell ⟨g, i * 3 + 2, none⟩ (.int .i64 0)) w') => check_c (some ⟨g, 0, none⟩) cv _ w' (HRE.out.ext x) (by rw [HLEN.out]; omega)
    rw [HFIN.out, HLEN.out] at hpb
    simp only [HFIN.out, HLEN.out] at hcb
    have HPB := Lib.hid hpb
    have HCB := Lib.hid hcb
    clear HRE hpb hcb
    go_wp2_with fail
    refine HPB.out.mono ?_
    rintro e w8 ⟨rfl, hx8⟩
    have HC8 := Lib.hid (HCB.out w8 hx8)
    have X8 := Lib.hid (Ext.trans _ _ _ XW.out hx8)
    clear hx8 HPB HCB XW
    go_wp2_with fail
    refine HC8.out.mono ?_
    rintro e w9 ⟨rfl, hx9⟩
    obtain ⟨wz, hmk, hxz⟩ := mk_many w9
    have HCM := Lib.hid (check_many (some ⟨w9.heap.size, 0, none⟩) 1001 1001 wz (by omega))
    have X9 := Lib.hid (Ext.trans _ _ _ X8.out (Ext.trans _ _ _ hx9 hxz))
    clear hx9 hxz X8 HC8
    go_wp2_with fail
    refine HCM.out.mono ?_
    rintro e w10 ⟨rfl, hx10⟩
    go_wp2_with fail
    go_ret
    exact ⟨rfl, Ext.trans _ _ _ X9.out hx10⟩
  · clear p0 p1 p2
    obtain ⟨hr7, hk7⟩ := HROW6.out.set i 1 hiL (by decide) (.int .i64 1048577) ((nz, 1048577, sz)) (by rw [HZ.out]; rfl)
    have HFIN := Lib.hid (check_set HC0.out hiL (by decide) (chk1_range ⟨hbi2.1, hbi2.2.1⟩ (.inr (.inl (by decide))) : chk1 (prev L i) ((nz, 1048577, sz)) = 2))
    obtain ⟨A9, c9, e9, q91, hre7, q92, q93⟩ := hr7.reads
    injection e9 with e91 e92 e93
    clear q91 q92 q93 e92
    subst e91 e93
    have HRE := Lib.hid hre7
    have HLEN := Lib.hid (show (L.set i ((nz, 1048577, sz))).length = L.length from List.length_set)
    have XW := Lib.hid (Below.trans X6.out (hk7.below X6.out.size (fun x hx hz => by have hz' : x = g := hz; omega)))
    clear hr7 hk7 hre7
    have hpb := put_bad (some ⟨g, 0, none⟩) cv _ (w6.setCell ⟨g, i * 3 + 1, none⟩ (.int .i64 1048577)) HRE.out (by rw [HLEN.out]; omega) (by rw [HFIN.out]; decide)
    have hcb := fun w' (x : Ext (w6.setCell ⟨g, i * 3 + 1, none⟩ (.int .i64 1048577)) w') => check_c (some ⟨g, 0, none⟩) cv _ w' (HRE.out.ext x) (by rw [HLEN.out]; omega)
    rw [HFIN.out, HLEN.out] at hpb
    simp only [HFIN.out, HLEN.out] at hcb
    have HPB := Lib.hid hpb
    have HCB := Lib.hid hcb
    clear HRE hpb hcb
    go_wp2_with fail
    refine HPB.out.mono ?_
    rintro e w8 ⟨rfl, hx8⟩
    have HC8 := Lib.hid (HCB.out w8 hx8)
    have X8 := Lib.hid (Ext.trans _ _ _ XW.out hx8)
    clear hx8 HPB HCB XW
    go_wp2_with fail
    refine HC8.out.mono ?_
    rintro e w9 ⟨rfl, hx9⟩
    obtain ⟨wz, hmk, hxz⟩ := mk_many w9
    have HCM := Lib.hid (check_many (some ⟨w9.heap.size, 0, none⟩) 1001 1001 wz (by omega))
    have X9 := Lib.hid (Ext.trans _ _ _ X8.out (Ext.trans _ _ _ hx9 hxz))
    clear hx9 hxz X8 HC8
    go_wp2_with fail
    refine HCM.out.mono ?_
    rintro e w10 ⟨rfl, hx10⟩
    go_wp2_with fail
    go_ret
    exact ⟨rfl, Ext.trans _ _ _ X9.out hx10⟩
  · go_wp2_with fail
    refine wp_region_next (by kernel_rfl) ?_
    refine next_win 0 25 Ext Ext 999 0 (fun _ _ h => h) Ext.refl Ext.trans Ext.refl Ext.trans [[(7, none)], [(7, none)], [(7, none)], [(131, some 2)], [(132, some 3)], [(130, some 1), (133, some 4)], [(134, some 5)], [(135, some 6)], [(7, none)], [(7, none)], [(138, some 9)], [(139, some 10)], [(137, some 8), (140, some 11)], [(141, some 12)], [(142, some 13)], [(7, none)], [(7, none)], [(145, some 16)], [(146, some 17)], [(144, some 15), (147, some 18)], [(148, some 19)], [(149, some 20)], [(143, some 14), (150, some 21)], [(136, some 7), (151, some 22)], [(152, some 23)]] [some 129, some 130, some 131, some 132, some 133, some 134, some 135, some 136, some 137, some 138, some 139, some 140, some 141, some 142, some 143, some 144, some 145, some 146, some 147, some 148, some 149, some 150, some 151, some 152, some 153] (by kernel_rfl) (by kernel_rfl) (by kernel_rfl) (by kernel_rfl) ?_
    intro Nx hNx
    -- 0: slot 129 := Op.move (t7)
    apply relyD_const (by decide) (by decide); case h => (intro wr hR a' h7 K hK; go_wp2_with fail; exact Ext.refl _)
    -- 1: slot 130 := Op.move (t7)
    apply relyD_const (by decide) (by decide); case h => (intro wr hR a' h7 K hK; go_wp2_with fail; exact Ext.refl _)
    -- 2: slot 131 := Op.move (t7)
    apply relyD_const (by decide) (by decide); case h => (intro wr hR a' h7 K hK; go_wp2_with fail; exact Ext.refl _)
    -- 3: slot 132 := Op.call { callee := Callee.builtin Builtin.len, args := #[t131], argTypes := #[50] }
    apply relyD_const (by decide) (by decide); case h => (intro wr hR a' h131 K hK; go_wp2_with fail; exact Ext.refl _)
    -- 4: slot 133 := Op.binOp BinOp.sub 3 (t132) (Operand.const (Value.int IntKind.i64 1)) 3
    apply relyD_const (by decide) (by decide); case h => (intro wr hR a' h132 K hK; go_wp2_with fail; exact Ext.refl _)
    -- 5: slot 134 := Op.indexAddr 50 (t130) (t133)
    apply relyD_const (by decide) (by decide); case h => (intro wr hR a' h130 h133 K hK; go_wp2_with fail; exact Ext.refl _)
    -- 6: slot 135 := Op.fieldAddr 55 (t134) 0
    apply relyD_const (by decide) (by decide); case h => (intro wr hR a' h134 K hK; go_wp2_with fail; exact Ext.refl _)
    -- 7: slot 136 := Op.load 9 (t135)
    apply relyD_const (by decide) (by decide); case h => (intro wr hR a' h135 K hK; have k9 := hR.undrew.cell p0; go_wp2_with fail; exact Ext.refl _)
    -- 8: slot 137 := Op.move (t7)
    apply relyD_const (by decide) (by decide); case h => (intro wr hR a' h7 K hK; go_wp2_with fail; exact Ext.refl _)
    -- 9: slot 138 := Op.move (t7)
    apply relyD_const (by decide) (by decide); case h => (intro wr hR a' h7 K hK; go_wp2_with fail; exact Ext.refl _)
    -- 10: slot 139 := Op.call { callee := Callee.builtin Builtin.len, args := #[t138], argTypes := #[50] }
    apply relyD_const (by decide) (by decide); case h => (intro wr hR a' h138 K hK; go_wp2_with fail; exact Ext.refl _)
    -- 11: slot 140 := Op.binOp BinOp.sub 3 (t139) (Operand.const (Value.int IntKind.i64 1)) 3
    apply relyD_const (by decide) (by decide); case h => (intro wr hR a' h139 K hK; go_wp2_with fail; exact Ext.refl _)
    -- 12: slot 141 := Op.indexAddr 50 (t137) (t140)
    apply relyD_const (by decide) (by decide); case h => (intro wr hR a' h137 h140 K hK; go_wp2_with fail; exact Ext.refl _)
    -- 13: slot 142 := Op.fieldAddr 55 (t141) 1
    apply relyD_const (by decide) (by decide); case h => (intro wr hR a' h141 K hK; go_wp2_with fail; exact Ext.refl _)
    -- 14: slot 143 := Op.load 3 (t142)
    apply relyD_const (by decide) (by decide); case h => (intro wr hR a' h142 K hK; have k9 := hR.undrew.cell p1; go_wp2_with fail; exact Ext.refl _)
    -- 15: slot 144 := Op.move (t7)
    apply relyD_const (by decide) (by decide); case h => (intro wr hR a' h7 K hK; go_wp2_with fail; exact Ext.refl _)
    -- 16: slot 145 := Op.move (t7)
    apply relyD_const (by decide) (by decide); case h => (intro wr hR a' h7 K hK; go_wp2_with fail; exact Ext.refl _)
    -- 17: slot 146 := Op.call { callee := Callee.builtin Builtin.len, args := #[t145], argTypes := #[50] }
    apply relyD_const (by decide) (by decide); case h => (intro wr hR a' h145 K hK; go_wp2_with fail; exact Ext.refl _)
    -- 18: slot 147 := Op.binOp BinOp.sub 3 (t146) (Operand.const (Value.int IntKind.i64 1)) 3
    apply relyD_const (by decide) (by decide); case h => (intro wr hR a' h146 K hK; go_wp2_with fail; exact Ext.refl _)
    -- 19: slot 148 := Op.indexAddr 50 (t144) (t147)
    apply relyD_const (by decide) (by decide); case h => (intro wr hR a' h144 h147 K hK; go_wp2_with fail; exact Ext.refl _)
    -- 20: slot 149 := Op.fieldAddr 55 (t148) 2
    apply relyD_const (by decide) (by decide); case h => (intro wr hR a' h148 K hK; go_wp2_with fail; exact Ext.refl _)
    -- 21: slot 150 := Op.load 3 (t149)
    apply relyD_const (by decide) (by decide); case h => (intro wr hR a' h149 K hK; have k9 := hR.undrew.cell p2; go_wp2_with fail; exact Ext.refl _)
    -- 22: slot 151 := Op.binOp BinOp.add 3 (t143) (t150) 3
    apply relyD_const (by decide) (by decide); case h => (intro wr hR a' h143 h150 K hK; go_wp2_with fail; exact Ext.refl _)
    -- 23: slot 152 := Op.build 55 #[(0, t136), (1, t151), (2, Operand.const (Value.int IntKind.i64 1))]
    refine relyD_const (by decide) (by decide) (.agg #[.string (strOfNums (nb)), .int .i64 (aq + sq), .int .i64 1]) ?h23 ?_
    case h23 =>
      intro wr hR a' h136 h151 K hK
      refine build_known3 wr rfl _ _ _ _ rfl (.string (strOfNums (nb))) (.int .i64 (aq + sq)) (.int .i64 1) (.agg #[.string (strOfNums (nb)), .int .i64 (aq + sq), .int .i64 1]) h136 h151 rfl ?_ ?_
      · exact (by simp [Instr.build, go_sem])
      · have HK := Lib.hid (hK _ (Ext.refl _))
        clear hK
        go_wp2_with fail
        exact HK.out
    -- 24: slot 153 := Op.buildSlice 50 1 #[(0, t152)]
    refine relyD_rel (by decide) (by decide) (fun v w => ∃ p, v = .slice (some ⟨p, 0, none⟩) 1 1 ∧ Blk p #[.string (strOfNums (nb)), .int .i64 (aq + sq), .int .i64 1] 55 w (fun q => q = p)) (fun v w w' ⟨p, e, hb⟩ x => ⟨p, e, Ext.keep (Lcl.blk _ _ _) x hb⟩) ?h24 ?_
    case h24 =>
      intro wr hR a' h152 K hK
      have hnb := heap_alloc_new wr (.cells #[.string (strOfNums (nb)), .int .i64 (aq + sq), .int .i64 1] 55)
      have HK := Lib.hid (hK _ _ ((Below.refl _ _).alloc (Nat.le_refl _) _) ⟨wr.heap.size, rfl, hnb, fun _ => Iff.rfl⟩)
      clear hK hnb
      refine build_known wr rfl _ _ _ rfl (.agg #[.string (strOfNums (nb)), .int .i64 (aq + sq), .int .i64 1]) (.slice (some ⟨wr.heap.size, 0, none⟩) 1 1) (wr.alloc (.cells #[.string (strOfNums (nb)), .int .i64 (aq + sq), .int .i64 1] 55)) h152 ?_ ?_
      · exact (by simp [Instr.buildSlice, go_sem])
      · go_wp2_with fail
        exact HK.out
    refine relyD_end ?_
    intro wy hR
    simp only [had, List.take_succ_cons, List.take_zero, List.map_cons, List.map_nil, List.cons_append, List.nil_append, ends, Act.put, List.setIfInBounds_toArray, List.set_cons_zero, List.set_cons_succ]
    rintro v153 ⟨p, rfl, hblk⟩
    refine hNx _ _ ?_
    have hry := Ext.keep (Lcl.rowE _ _) hR.undrew HROW6.out
    obtain ⟨A9, c9, w8, hrun8, hrow8, hk8⟩ := run_append_ent (P := Try.prog) wy 50 50 (.agg #[.string ⟨#[]⟩, .int .i64 0, .int .i64 0]) 32 Try.underlying50 info_ent rfl (by decide) _ L (nb, aq + sq, 1) hry p (fun j u hu => (hblk.cell j).trans (by simpa [entC] using hu)) (by omega)
    have HFIN := Lib.hid (check_app HC0.out (by omega) (by omega) (by decide) (by rw [HLast.out]; exact chk1_order ⟨hbd2.1, hbd2.2.1⟩ ⟨by omega, by omega, by omega, by omega⟩ (less_irrefl _) : chk1 (some (L.getD (L.length - 1) e0)) (nb, aq + sq, 1) = 8))
    have hll : (L ++ [((nb, aq + sq, 1) : Ent)]).length = L.length + 1 := by rw [List.length_append]; rfl
    have HNM := Lib.hid hll
    rw [hll] at hrun8 hrow8
    obtain ⟨A', c', e9, q91, hre8, q92, q93⟩ := (show RowE (.slice A9 (L ++ [((nb, aq + sq, 1) : Ent)]).length c9) _ w8 _ by rw [hll]; exact hrow8).reads
    injection e9 with e91 e92 e93
    clear q91 q92 q93 e92
    subst e91 e93
    have HRE := Lib.hid hre8
    have HLEN := Lib.hid hll
    have XW := Lib.hid (Below.trans (Ext.trans _ _ _ X6.out hR.undrew) (hk8.below (Ext.trans _ _ _ X6.out hR.undrew).size (fun x hx hz => by have hz' : x = g := hz; omega)))
    have HRUN8 := Lib.hid hrun8
    clear hR hry hblk hrun8 hrow8 hk8 hll hre8 X6 HROW6 p0 p1 p2
    refine next_win 25 27 (fun a b => a = b) (OneW wy w8) 25 33554431 (fun _ _ h => .inl h) (fun _ => rfl) (fun _ _ _ h k => h.trans k) (OneW.refl _ _) (OneW.trans _ _) [[(129, none), (153, none)], [(154, some 25)]] [none, none, none, none, none, none, none, none, none, none, none, none, none, none, none, none, none, none, none, none, none, none, none, none, none, some 154, some 7] (by kernel_rfl) (by kernel_rfl) (by kernel_rfl) (by kernel_rfl) ?_
    intro Ny hNy
    refine relyD_the rfl (fun v w => v = .slice A9 (L.length + 1) c9 ∧ w = w8) (fun v w w' h r => ⟨h.1, r.end_ h.2⟩) ?hz ?_
    case hz =>
      rintro w' rfl a' hp1 hp2 K hK
      refine append_known wy rfl _ _ 50 rfl (.slice (some ⟨g, 0, none⟩) L.length cv) (.slice (some ⟨p, 0, none⟩) 1 1) (.slice A9 (L.length + 1) c9) w8 hp1 hp2 HRUN8.out ?_
      have HK := hK (.slice A9 (L.length + 1) c9) w8 (.inr ⟨rfl, rfl⟩) ⟨rfl, rfl⟩
      go_wp2_with fail
      exact HK
    apply relyD_const (by decide) (by decide); case h => (rintro w' hw' a' v hz2 ⟨rfl, rfl⟩ K hK; go_wp2_with fail; rfl)
    refine relyD_end ?_
    intro wz hR
    simp only [had, List.take_succ_cons, List.take_zero, List.map_cons, List.map_nil, List.cons_append, List.nil_append, ends, Act.put, List.setIfInBounds_toArray, List.set_cons_zero, List.set_cons_succ]
    rintro v9 ⟨rfl, hwz⟩
    obtain rfl := hwz.symm
    refine hNy _ _ ?_
    clear hR HRUN8 hwz
    refine next_done rfl ?_
    try simp only [Act.put, List.setIfInBounds_toArray, List.set_cons_zero, List.set_cons_succ]
    have hpb := put_bad (A9) c9 _ w8 HRE.out (by rw [HLEN.out]; omega) (by rw [HFIN.out]; decide)
    have hcb := fun w' (x : Ext w8 w') => check_c (A9) c9 _ w' (HRE.out.ext x) (by rw [HLEN.out]; omega)
    rw [HFIN.out, HLEN.out] at hpb
    simp only [HFIN.out, HLEN.out] at hcb
    have HPB := Lib.hid hpb
    have HCB := Lib.hid hcb
    clear HRE hpb hcb
    go_wp2_with fail
    refine HPB.out.mono ?_
    rintro e w8 ⟨rfl, hx8⟩
    have HC8 := Lib.hid (HCB.out w8 hx8)
    have X8 := Lib.hid (Ext.trans _ _ _ XW.out hx8)
    clear hx8 HPB HCB XW
    go_wp2_with fail
    refine HC8.out.mono ?_
    rintro e w9 ⟨rfl, hx9⟩
    obtain ⟨wz, hmk, hxz⟩ := mk_many w9
    have HCM := Lib.hid (check_many (some ⟨w9.heap.size, 0, none⟩) 1001 1001 wz (by omega))
    have X9 := Lib.hid (Ext.trans _ _ _ X8.out (Ext.trans _ _ _ hx9 hxz))
    clear hx9 hxz X8 HC8
    go_wp2_with fail
    refine HCM.out.mono ?_
    rintro e w10 ⟨rfl, hx10⟩
    go_wp2_with fail
    go_ret
    exact ⟨rfl, Ext.trans _ _ _ X9.out hx10⟩
  · have hsz9 : strOfNums nb ++ (⟨#[122]⟩ : ByteArray) = strOfNums (nb ++ [122]) := by rw [← str_app]; rfl
    have hw2 : wrap64 (aq + sq + 1) = aq + sq + 1 := (by unfold wrap64; omega)
    have hszn : (strOfNums nb).size = nb.length := Crc.size_str nb
    have hsz8 : (strOfNums (nb ++ [122])).size = nb.length + 1 := (Crc.size_str _).trans (by simp)
    by_cases h255 : 255 < nb.length + 1
    · have d5 : decide ((255 : Int) < (nb.length : Int) + 1) = true := by rw [decide_eq_true_iff]; omega
      have d5n : decide (255 < nb.length + 1) = true := by rw [decide_eq_true_iff]; omega
      go_wp2_with fail
      refine wp_region_next (by kernel_rfl) ?_
      refine next_win 0 27 Ext Ext 999 0 (fun _ _ h => h) Ext.refl Ext.trans Ext.refl Ext.trans [[(7, none)], [(7, none)], [(7, none)], [(60, some 2)], [(61, some 3)], [(59, some 1), (62, some 4)], [(63, some 5)], [(64, some 6)], [(65, some 7)], [(7, none)], [(7, none)], [(68, some 10)], [(69, some 11)], [(67, some 9), (70, some 12)], [(71, some 13)], [(72, some 14)], [(7, none)], [(7, none)], [(75, some 17)], [(76, some 18)], [(74, some 16), (77, some 19)], [(78, some 20)], [(79, some 21)], [(73, some 15), (80, some 22)], [(81, some 23)], [(66, some 8), (82, some 24)], [(83, some 25)]] [some 58, some 59, some 60, some 61, some 62, some 63, some 64, some 65, some 66, some 67, some 68, some 69, some 70, some 71, some 72, some 73, some 74, some 75, some 76, some 77, some 78, some 79, some 80, some 81, some 82, some 83, some 84] (by kernel_rfl) (by kernel_rfl) (by kernel_rfl) (by kernel_rfl) ?_
      intro Nx hNx
      -- 0: slot 58 := Op.move (t7)
      apply relyD_const (by decide) (by decide); case h => (intro wr hR a' h7 K hK; go_wp2_with fail; exact Ext.refl _)
      -- 1: slot 59 := Op.move (t7)
      apply relyD_const (by decide) (by decide); case h => (intro wr hR a' h7 K hK; go_wp2_with fail; exact Ext.refl _)
      -- 2: slot 60 := Op.move (t7)
      apply relyD_const (by decide) (by decide); case h => (intro wr hR a' h7 K hK; go_wp2_with fail; exact Ext.refl _)
      -- 3: slot 61 := Op.call { callee := Callee.builtin Builtin.len, args := #[t60], argTypes := #[50] }
      apply relyD_const (by decide) (by decide); case h => (intro wr hR a' h60 K hK; go_wp2_with fail; exact Ext.refl _)
      -- 4: slot 62 := Op.binOp BinOp.sub 3 (t61) (Operand.const (Value.int IntKind.i64 1)) 3
      apply relyD_const (by decide) (by decide); case h => (intro wr hR a' h61 K hK; go_wp2_with fail; exact Ext.refl _)
      -- 5: slot 63 := Op.indexAddr 50 (t59) (t62)
      apply relyD_const (by decide) (by decide); case h => (intro wr hR a' h59 h62 K hK; go_wp2_with fail; exact Ext.refl _)
      -- 6: slot 64 := Op.fieldAddr 55 (t63) 0
      apply relyD_const (by decide) (by decide); case h => (intro wr hR a' h63 K hK; go_wp2_with fail; exact Ext.refl _)
      -- 7: slot 65 := Op.load 9 (t64)
      apply relyD_const (by decide) (by decide); case h => (intro wr hR a' h64 K hK; have k9 := hR.undrew.cell p0; go_wp2_with fail; exact Ext.refl _)
      -- 8: slot 66 := Op.binOp BinOp.add 9 (t65) (Operand.const (Value.string { data := #[122] })) 9
      apply relyD_const (by decide) (by decide); case h => (intro wr hR a' h65 K hK; go_wp2_with fail; exact Ext.refl _)
      -- 9: slot 67 := Op.move (t7)
      apply relyD_const (by decide) (by decide); case h => (intro wr hR a' h7 K hK; go_wp2_with fail; exact Ext.refl _)
      -- 10: slot 68 := Op.move (t7)
      apply relyD_const (by decide) (by decide); case h => (intro wr hR a' h7 K hK; go_wp2_with fail; exact Ext.refl _)
      -- 11: slot 69 := Op.call { callee := Callee.builtin Builtin.len, args := #[t68], argTypes := #[50] }
      apply relyD_const (by decide) (by decide); case h => (intro wr hR a' h68 K hK; go_wp2_with fail; exact Ext.refl _)
      -- 12: slot 70 := Op.binOp BinOp.sub 3 (t69) (Operand.const (Value.int IntKind.i64 1)) 3
      apply relyD_const (by decide) (by decide); case h => (intro wr hR a' h69 K hK; go_wp2_with fail; exact Ext.refl _)
      -- 13: slot 71 := Op.indexAddr 50 (t67) (t70)
      apply relyD_const (by decide) (by decide); case h => (intro wr hR a' h67 h70 K hK; go_wp2_with fail; exact Ext.refl _)
      -- 14: slot 72 := Op.fieldAddr 55 (t71) 1
      apply relyD_const (by decide) (by decide); case h => (intro wr hR a' h71 K hK; go_wp2_with fail; exact Ext.refl _)
      -- 15: slot 73 := Op.load 3 (t72)
      apply relyD_const (by decide) (by decide); case h => (intro wr hR a' h72 K hK; have k9 := hR.undrew.cell p1; go_wp2_with fail; exact Ext.refl _)
      -- 16: slot 74 := Op.move (t7)
      apply relyD_const (by decide) (by decide); case h => (intro wr hR a' h7 K hK; go_wp2_with fail; exact Ext.refl _)
      -- 17: slot 75 := Op.move (t7)
      apply relyD_const (by decide) (by decide); case h => (intro wr hR a' h7 K hK; go_wp2_with fail; exact Ext.refl _)
      -- 18: slot 76 := Op.call { callee := Callee.builtin Builtin.len, args := #[t75], argTypes := #[50] }
      apply relyD_const (by decide) (by decide); case h => (intro wr hR a' h75 K hK; go_wp2_with fail; exact Ext.refl _)
      -- 19: slot 77 := Op.binOp BinOp.sub 3 (t76) (Operand.const (Value.int IntKind.i64 1)) 3
      apply relyD_const (by decide) (by decide); case h => (intro wr hR a' h76 K hK; go_wp2_with fail; exact Ext.refl _)
      -- 20: slot 78 := Op.indexAddr 50 (t74) (t77)
      apply relyD_const (by decide) (by decide); case h => (intro wr hR a' h74 h77 K hK; go_wp2_with fail; exact Ext.refl _)
      -- 21: slot 79 := Op.fieldAddr 55 (t78) 2
      apply relyD_const (by decide) (by decide); case h => (intro wr hR a' h78 K hK; go_wp2_with fail; exact Ext.refl _)
      -- 22: slot 80 := Op.load 3 (t79)
      apply relyD_const (by decide) (by decide); case h => (intro wr hR a' h79 K hK; have k9 := hR.undrew.cell p2; go_wp2_with fail; exact Ext.refl _)
      -- 23: slot 81 := Op.binOp BinOp.add 3 (t73) (t80) 3
      apply relyD_const (by decide) (by decide); case h => (intro wr hR a' h73 h80 K hK; go_wp2_with fail; exact Ext.refl _)
      -- 24: slot 82 := Op.binOp BinOp.add 3 (t81) (Operand.const (Value.int IntKind.i64 1)) 3
      apply relyD_const (by decide) (by decide); case h => (intro wr hR a' h81 K hK; go_wp2_with fail; exact Ext.refl _)
      -- 25: slot 83 := Op.build 55 #[(0, t66), (1, t82), (2, Operand.const (Value.int IntKind.i64 1))]
      refine relyD_const (by decide) (by decide) (.agg #[.string (strOfNums (nb ++ [122])), .int .i64 (aq + sq + 1), .int .i64 1]) ?h25 ?_
      case h25 =>
        intro wr hR a' h66 h82 K hK
        refine build_known3 wr rfl _ _ _ _ rfl (.string (strOfNums (nb ++ [122]))) (.int .i64 (aq + sq + 1)) (.int .i64 1) (.agg #[.string (strOfNums (nb ++ [122])), .int .i64 (aq + sq + 1), .int .i64 1]) h66 h82 rfl ?_ ?_
        · exact (by simp [Instr.build, go_sem])
        · have HK := Lib.hid (hK _ (Ext.refl _))
          clear hK
          go_wp2_with fail
          exact HK.out
      -- 26: slot 84 := Op.buildSlice 50 1 #[(0, t83)]
      refine relyD_rel (by decide) (by decide) (fun v w => ∃ p, v = .slice (some ⟨p, 0, none⟩) 1 1 ∧ Blk p #[.string (strOfNums (nb ++ [122])), .int .i64 (aq + sq + 1), .int .i64 1] 55 w (fun q => q = p)) (fun v w w' ⟨p, e, hb⟩ x => ⟨p, e, Ext.keep (Lcl.blk _ _ _) x hb⟩) ?h26 ?_
      case h26 =>
        intro wr hR a' h83 K hK
        have hnb := heap_alloc_new wr (.cells #[.string (strOfNums (nb ++ [122])), .int .i64 (aq + sq + 1), .int .i64 1] 55)
        have HK := Lib.hid (hK _ _ ((Below.refl _ _).alloc (Nat.le_refl _) _) ⟨wr.heap.size, rfl, hnb, fun _ => Iff.rfl⟩)
        clear hK hnb
        refine build_known wr rfl _ _ _ rfl (.agg #[.string (strOfNums (nb ++ [122])), .int .i64 (aq + sq + 1), .int .i64 1]) (.slice (some ⟨wr.heap.size, 0, none⟩) 1 1) (wr.alloc (.cells #[.string (strOfNums (nb ++ [122])), .int .i64 (aq + sq + 1), .int .i64 1] 55)) h83 ?_ ?_
        · exact (by simp [Instr.buildSlice, go_sem])
        · go_wp2_with fail
          exact HK.out
      refine relyD_end ?_
      intro wy hR
      simp only [had, List.take_succ_cons, List.take_zero, List.map_cons, List.map_nil, List.cons_append, List.nil_append, ends, Act.put, List.setIfInBounds_toArray, List.set_cons_zero, List.set_cons_succ]
      rintro v84 ⟨p, rfl, hblk⟩
      refine hNx _ _ ?_
      have hry := Ext.keep (Lcl.rowE _ _) hR.undrew HROW6.out
      obtain ⟨A9, c9, w8, hrun8, hrow8, hk8⟩ := run_append_ent (P := Try.prog) wy 50 50 (.agg #[.string ⟨#[]⟩, .int .i64 0, .int .i64 0]) 32 Try.underlying50 info_ent rfl (by decide) _ L (nb ++ [122], aq + sq + 1, 1) hry p (fun j u hu => (hblk.cell j).trans (by simpa [entC] using hu)) (by omega)
      have HFIN := Lib.hid (check_app HC0.out (by omega) (by omega) (by decide) (chk1_name (.inr (by simp; omega)) : chk1 (some (L.getD (L.length - 1) e0)) (nb ++ [122], aq + sq + 1, 1) = 12))
      have hll : (L ++ [((nb ++ [122], aq + sq + 1, 1) : Ent)]).length = L.length + 1 := by rw [List.length_append]; rfl
      have HNM := Lib.hid hll
      rw [hll] at hrun8 hrow8
      obtain ⟨A', c', e9, q91, hre8, q92, q93⟩ := (show RowE (.slice A9 (L ++ [((nb ++ [122], aq + sq + 1, 1) : Ent)]).length c9) _ w8 _ by rw [hll]; exact hrow8).reads
      injection e9 with e91 e92 e93
      clear q91 q92 q93 e92
      subst e91 e93
      have HRE := Lib.hid hre8
      have HLEN := Lib.hid hll
      have XW := Lib.hid (Below.trans (Ext.trans _ _ _ X6.out hR.undrew) (hk8.below (Ext.trans _ _ _ X6.out hR.undrew).size (fun x hx hz => by have hz' : x = g := hz; omega)))
      have HRUN8 := Lib.hid hrun8
      clear hR hry hblk hrun8 hrow8 hk8 hll hre8 X6 HROW6 p0 p1 p2
      refine next_win 27 29 (fun a b => a = b) (OneW wy w8) 27 134217727 (fun _ _ h => .inl h) (fun _ => rfl) (fun _ _ _ h k => h.trans k) (OneW.refl _ _) (OneW.trans _ _) [[(58, none), (84, none)], [(85, some 27)]] [none, none, none, none, none, none, none, none, none, none, none, none, none, none, none, none, none, none, none, none, none, none, none, none, none, none, none, some 85, some 7] (by kernel_rfl) (by kernel_rfl) (by kernel_rfl) (by kernel_rfl) ?_
      intro Ny hNy
      refine relyD_the rfl (fun v w => v = .slice A9 (L.length + 1) c9 ∧ w = w8) (fun v w w' h r => ⟨h.1, r.end_ h.2⟩) ?hz ?_
      case hz =>
        rintro w' rfl a' hp1 hp2 K hK
        refine append_known wy rfl _ _ 50 rfl (.slice (some ⟨g, 0, none⟩) L.length cv) (.slice (some ⟨p, 0, none⟩) 1 1) (.slice A9 (L.length + 1) c9) w8 hp1 hp2 HRUN8.out ?_
        have HK := hK (.slice A9 (L.length + 1) c9) w8 (.inr ⟨rfl, rfl⟩) ⟨rfl, rfl⟩
        go_wp2_with fail
        exact HK
      apply relyD_const (by decide) (by decide); case h => (rintro w' hw' a' v hz2 ⟨rfl, rfl⟩ K hK; go_wp2_with fail; rfl)
      refine relyD_end ?_
      intro wz hR
      simp only [had, List.take_succ_cons, List.take_zero, List.map_cons, List.map_nil, List.cons_append, List.nil_append, ends, Act.put, List.setIfInBounds_toArray, List.set_cons_zero, List.set_cons_succ]
      rintro v9 ⟨rfl, hwz⟩
      obtain rfl := hwz.symm
      refine hNy _ _ ?_
      clear hR HRUN8 hwz
      refine next_done rfl ?_
      try simp only [Act.put, List.setIfInBounds_toArray, List.set_cons_zero, List.set_cons_succ]
      obtain ⟨b9, o9, rfl, hb9, r0, r1, r2⟩ := HRE.out L.length (by rw [HLEN.out]; omega)
      have hgd : (L ++ [((nb ++ [122], aq + sq + 1, 1) : Ent)]).getD L.length e0 = (nb ++ [122], aq + sq + 1, 1) := by simp
      rw [hgd] at r0
      clear hgd r1 r2 hb9
      have hpb := put_bad (some ⟨b9, o9, none⟩) c9 _ w8 HRE.out (by rw [HLEN.out]; omega) (by rw [HFIN.out]; decide)
      have hcb := fun w' (x : Ext w8 w') => check_c (some ⟨b9, o9, none⟩) c9 _ w' (HRE.out.ext x) (by rw [HLEN.out]; omega)
      rw [HFIN.out, HLEN.out] at hpb
      simp only [HFIN.out, HLEN.out] at hcb
      have HPB := Lib.hid hpb
      have HCB := Lib.hid hcb
      clear HRE hpb hcb
      go_wp2_with fail
      refine HPB.out.mono ?_
      rintro e w8 ⟨rfl, hx8⟩
      have HC8 := Lib.hid (HCB.out w8 hx8)
      have X8 := Lib.hid (Ext.trans _ _ _ XW.out hx8)
      clear hx8 HPB HCB XW
      go_wp2_with fail
      refine HC8.out.mono ?_
      rintro e w9 ⟨rfl, hx9⟩
      obtain ⟨wz, hmk, hxz⟩ := mk_many w9
      have HCM := Lib.hid (check_many (some ⟨w9.heap.size, 0, none⟩) 1001 1001 wz (by omega))
      have X9 := Lib.hid (Ext.trans _ _ _ X8.out (Ext.trans _ _ _ hx9 hxz))
      clear hx9 hxz X8 HC8
      go_wp2_with fail
      refine HCM.out.mono ?_
      rintro e w10 ⟨rfl, hx10⟩
      go_wp2_with fail
      go_ret
      exact ⟨rfl, Ext.trans _ _ _ X9.out hx10⟩
    · have d5 : decide ((255 : Int) < (nb.length : Int) + 1) = false := by rw [decide_eq_false_iff_not]; omega
      have d5n : decide (255 < nb.length + 1) = false := by rw [decide_eq_false_iff_not]; omega
      go_wp2_with fail
      refine wp_region_next (by kernel_rfl) ?_
      refine next_win 0 27 Ext Ext 999 0 (fun _ _ h => h) Ext.refl Ext.trans Ext.refl Ext.trans [[(7, none)], [(7, none)], [(7, none)], [(60, some 2)], [(61, some 3)], [(59, some 1), (62, some 4)], [(63, some 5)], [(64, some 6)], [(65, some 7)], [(7, none)], [(7, none)], [(68, some 10)], [(69, some 11)], [(67, some 9), (70, some 12)], [(71, some 13)], [(72, some 14)], [(7, none)], [(7, none)], [(75, some 17)], [(76, some 18)], [(74, some 16), (77, some 19)], [(78, some 20)], [(79, some 21)], [(73, some 15), (80, some 22)], [(81, some 23)], [(66, some 8), (82, some 24)], [(83, some 25)]] [some 58, some 59, some 60, some 61, some 62, some 63, some 64, some 65, some 66, some 67, some 68, some 69, some 70, some 71, some 72, some 73, some 74, some 75, some 76, some 77, some 78, some 79, some 80, some 81, some 82, some 83, some 84] (by kernel_rfl) (by kernel_rfl) (by kernel_rfl) (by kernel_rfl) ?_
      intro Nx hNx
      -- 0: slot 58 := Op.move (t7)
      apply relyD_const (by decide) (by decide); case h => (intro wr hR a' h7 K hK; go_wp2_with fail; exact Ext.refl _)
      -- 1: slot 59 := Op.move (t7)
      apply relyD_const (by decide) (by decide); case h => (intro wr hR a' h7 K hK; go_wp2_with fail; exact Ext.refl _)
      -- 2: slot 60 := Op.move (t7)
      apply relyD_const (by decide) (by decide); case h => (intro wr hR a' h7 K hK; go_wp2_with fail; exact Ext.refl _)
      -- 3: slot 61 := Op.call { callee := Callee.builtin Builtin.len, args := #[t60], argTypes := #[50] }
      apply relyD_const (by decide) (by decide); case h => (intro wr hR a' h60 K hK; go_wp2_with fail; exact Ext.refl _)
      -- 4: slot 62 := Op.binOp BinOp.sub 3 (t61) (Operand.const (Value.int IntKind.i64 1)) 3
      apply relyD_const (by decide) (by decide); case h => (intro wr hR a' h61 K hK; go_wp2_with fail; exact Ext.refl _)
      -- 5: slot 63 := Op.indexAddr 50 (t59) (t62)
      apply relyD_const (by decide) (by decide); case h => (intro wr hR a' h59 h62 K hK; go_wp2_with fail; exact Ext.refl _)
      -- 6: slot 64 := Op.fieldAddr 55 (t63) 0
      apply relyD_const (by decide) (by decide); case h => (intro wr hR a' h63 K hK; go_wp2_with fail; exact Ext.refl _)
      -- 7: slot 65 := Op.load 9 (t64)
      apply relyD_const (by decide) (by decide); case h => (intro wr hR a' h64 K hK; have k9 := hR.undrew.cell p0; go_wp2_with fail; exact Ext.refl _)
      -- 8: slot 66 := Op.binOp BinOp.add 9 (t65) (Operand.const (Value.string { data := #[122] })) 9
      apply relyD_const (by decide) (by decide); case h => (intro wr hR a' h65 K hK; go_wp2_with fail; exact Ext.refl _)
      -- 9: slot 67 := Op.move (t7)
      apply relyD_const (by decide) (by decide); case h => (intro wr hR a' h7 K hK; go_wp2_with fail; exact Ext.refl _)
      -- 10: slot 68 := Op.move (t7)
      apply relyD_const (by decide) (by decide); case h => (intro wr hR a' h7 K hK; go_wp2_with fail; exact Ext.refl _)
      -- 11: slot 69 := Op.call { callee := Callee.builtin Builtin.len, args := #[t68], argTypes := #[50] }
      apply relyD_const (by decide) (by decide); case h => (intro wr hR a' h68 K hK; go_wp2_with fail; exact Ext.refl _)
      -- 12: slot 70 := Op.binOp BinOp.sub 3 (t69) (Operand.const (Value.int IntKind.i64 1)) 3
      apply relyD_const (by decide) (by decide); case h => (intro wr hR a' h69 K hK; go_wp2_with fail; exact Ext.refl _)
      -- 13: slot 71 := Op.indexAddr 50 (t67) (t70)
      apply relyD_const (by decide) (by decide); case h => (intro wr hR a' h67 h70 K hK; go_wp2_with fail; exact Ext.refl _)
      -- 14: slot 72 := Op.fieldAddr 55 (t71) 1
      apply relyD_const (by decide) (by decide); case h => (intro wr hR a' h71 K hK; go_wp2_with fail; exact Ext.refl _)
      -- 15: slot 73 := Op.load 3 (t72)
      apply relyD_const (by decide) (by decide); case h => (intro wr hR a' h72 K hK; have k9 := hR.undrew.cell p1; go_wp2_with fail; exact Ext.refl _)
      -- 16: slot 74 := Op.move (t7)
      apply relyD_const (by decide) (by decide); case h => (intro wr hR a' h7 K hK; go_wp2_with fail; exact Ext.refl _)
      -- 17: slot 75 := Op.move (t7)
      apply relyD_const (by decide) (by decide); case h => (intro wr hR a' h7 K hK; go_wp2_with fail; exact Ext.refl _)
      -- 18: slot 76 := Op.call { callee := Callee.builtin Builtin.len, args := #[t75], argTypes := #[50] }
      apply relyD_const (by decide) (by decide); case h => (intro wr hR a' h75 K hK; go_wp2_with fail; exact Ext.refl _)
      -- 19: slot 77 := Op.binOp BinOp.sub 3 (t76) (Operand.const (Value.int IntKind.i64 1)) 3
      apply relyD_const (by decide) (by decide); case h => (intro wr hR a' h76 K hK; go_wp2_with fail; exact Ext.refl _)
      -- 20: slot 78 := Op.indexAddr 50 (t74) (t77)
      apply relyD_const (by decide) (by decide); case h => (intro wr hR a' h74 h77 K hK; go_wp2_with fail; exact Ext.refl _)
      -- 21: slot 79 := Op.fieldAddr 55 (t78) 2
      apply relyD_const (by decide) (by decide); case h => (intro wr hR a' h78 K hK; go_wp2_with fail; exact Ext.refl _)
      -- 22: slot 80 := Op.load 3 (t79)
      apply relyD_const (by decide) (by decide); case h => (intro wr hR a' h79 K hK; have k9 := hR.undrew.cell p2; go_wp2_with fail; exact Ext.refl _)
      -- 23: slot 81 := Op.binOp BinOp.add 3 (t73) (t80) 3
      apply relyD_const (by decide) (by decide); case h => (intro wr hR a' h73 h80 K hK; go_wp2_with fail; exact Ext.refl _)
      -- 24: slot 82 := Op.binOp BinOp.add 3 (t81) (Operand.const (Value.int IntKind.i64 1)) 3
      apply relyD_const (by decide) (by decide); case h => (intro wr hR a' h81 K hK; go_wp2_with fail; exact Ext.refl _)
      -- 25: slot 83 := Op.build 55 #[(0, t66), (1, t82), (2, Operand.const (Value.int IntKind.i64 1))]
      refine relyD_const (by decide) (by decide) (.agg #[.string (strOfNums (nb ++ [122])), .int .i64 (aq + sq + 1), .int .i64 1]) ?h25 ?_
      case h25 =>
        intro wr hR a' h66 h82 K hK
        refine build_known3 wr rfl _ _ _ _ rfl (.string (strOfNums (nb ++ [122]))) (.int .i64 (aq + sq + 1)) (.int .i64 1) (.agg #[.string (strOfNums (nb ++ [122])), .int .i64 (aq + sq + 1), .int .i64 1]) h66 h82 rfl ?_ ?_
        · exact (by simp [Instr.build, go_sem])
        · have HK := Lib.hid (hK _ (Ext.refl _))
          clear hK
          go_wp2_with fail
          exact HK.out
      -- 26: slot 84 := Op.buildSlice 50 1 #[(0, t83)]
      refine relyD_rel (by decide) (by decide) (fun v w => ∃ p, v = .slice (some ⟨p, 0, none⟩) 1 1 ∧ Blk p #[.string (strOfNums (nb ++ [122])), .int .i64 (aq + sq + 1), .int .i64 1] 55 w (fun q => q = p)) (fun v w w' ⟨p, e, hb⟩ x => ⟨p, e, Ext.keep (Lcl.blk _ _ _) x hb⟩) ?h26 ?_
      case h26 =>
        intro wr hR a' h83 K hK
        have hnb := heap_alloc_new wr (.cells #[.string (strOfNums (nb ++ [122])), .int .i64 (aq + sq + 1), .int .i64 1] 55)
        have HK := Lib.hid (hK _ _ ((Below.refl _ _).alloc (Nat.le_refl _) _) ⟨wr.heap.size, rfl, hnb, fun _ => Iff.rfl⟩)
        clear hK hnb
        refine build_known wr rfl _ _ _ rfl (.agg #[.string (strOfNums (nb ++ [122])), .int .i64 (aq + sq + 1), .int .i64 1]) (.slice (some ⟨wr.heap.size, 0, none⟩) 1 1) (wr.alloc (.cells #[.string (strOfNums (nb ++ [122])), .int .i64 (aq + sq + 1), .int .i64 1] 55)) h83 ?_ ?_
        · exact (by simp [Instr.buildSlice, go_sem])
        · go_wp2_with fail
          exact HK.out
      refine relyD_end ?_
      intro wy hR
      simp only [had, List.take_succ_cons, List.take_zero, List.map_cons, List.map_nil, List.cons_append, List.nil_append, ends, Act.put, List.setIfInBounds_toArray, List.set_cons_zero, List.set_cons_succ]
      rintro v84 ⟨p, rfl, hblk⟩
      refine hNx _ _ ?_
      have hry := Ext.keep (Lcl.rowE _ _) hR.undrew HROW6.out
      obtain ⟨A9, c9, w8, hrun8, hrow8, hk8⟩ := run_append_ent (P := Try.prog) wy 50 50 (.agg #[.string ⟨#[]⟩, .int .i64 0, .int .i64 0]) 32 Try.underlying50 info_ent rfl (by decide) _ L (nb ++ [122], aq + sq + 1, 1) hry p (fun j u hu => (hblk.cell j).trans (by simpa [entC] using hu)) (by omega)
      have HFIN := Lib.hid (check_app HC0.out (by omega) (by omega) (by decide) (by rw [HLast.out]; exact chk1_form ⟨by simp, by simp; omega⟩ ⟨by omega, by omega, by omega, by omega⟩ (less_more _ _ (by simp)) (show aq + sq + 1 ≠ aq + sq by omega) : chk1 (some (L.getD (L.length - 1) e0)) (nb ++ [122], aq + sq + 1, 1) = 4))
      have hll : (L ++ [((nb ++ [122], aq + sq + 1, 1) : Ent)]).length = L.length + 1 := by rw [List.length_append]; rfl
      have HNM := Lib.hid hll
      rw [hll] at hrun8 hrow8
      obtain ⟨A', c', e9, q91, hre8, q92, q93⟩ := (show RowE (.slice A9 (L ++ [((nb ++ [122], aq + sq + 1, 1) : Ent)]).length c9) _ w8 _ by rw [hll]; exact hrow8).reads
      injection e9 with e91 e92 e93
      clear q91 q92 q93 e92
      subst e91 e93
      have HRE := Lib.hid hre8
      have HLEN := Lib.hid hll
      have XW := Lib.hid (Below.trans (Ext.trans _ _ _ X6.out hR.undrew) (hk8.below (Ext.trans _ _ _ X6.out hR.undrew).size (fun x hx hz => by have hz' : x = g := hz; omega)))
      have HRUN8 := Lib.hid hrun8
      clear hR hry hblk hrun8 hrow8 hk8 hll hre8 X6 HROW6 p0 p1 p2
      refine next_win 27 29 (fun a b => a = b) (OneW wy w8) 27 134217727 (fun _ _ h => .inl h) (fun _ => rfl) (fun _ _ _ h k => h.trans k) (OneW.refl _ _) (OneW.trans _ _) [[(58, none), (84, none)], [(85, some 27)]] [none, none, none, none, none, none, none, none, none, none, none, none, none, none, none, none, none, none, none, none, none, none, none, none, none, none, none, some 85, some 7] (by kernel_rfl) (by kernel_rfl) (by kernel_rfl) (by kernel_rfl) ?_
      intro Ny hNy
      refine relyD_the rfl (fun v w => v = .slice A9 (L.length + 1) c9 ∧ w = w8) (fun v w w' h r => ⟨h.1, r.end_ h.2⟩) ?hz ?_
      case hz =>
        rintro w' rfl a' hp1 hp2 K hK
        refine append_known wy rfl _ _ 50 rfl (.slice (some ⟨g, 0, none⟩) L.length cv) (.slice (some ⟨p, 0, none⟩) 1 1) (.slice A9 (L.length + 1) c9) w8 hp1 hp2 HRUN8.out ?_
        have HK := hK (.slice A9 (L.length + 1) c9) w8 (.inr ⟨rfl, rfl⟩) ⟨rfl, rfl⟩
        go_wp2_with fail
        exact HK
      apply relyD_const (by decide) (by decide); case h => (rintro w' hw' a' v hz2 ⟨rfl, rfl⟩ K hK; go_wp2_with fail; rfl)
      refine relyD_end ?_
      intro wz hR
      simp only [had, List.take_succ_cons, List.take_zero, List.map_cons, List.map_nil, List.cons_append, List.nil_append, ends, Act.put, List.setIfInBounds_toArray, List.set_cons_zero, List.set_cons_succ]
      rintro v9 ⟨rfl, hwz⟩
      obtain rfl := hwz.symm
      refine hNy _ _ ?_
      clear hR HRUN8 hwz
      refine next_done rfl ?_
      try simp only [Act.put, List.setIfInBounds_toArray, List.set_cons_zero, List.set_cons_succ]
      obtain ⟨b9, o9, rfl, hb9, r0, r1, r2⟩ := HRE.out L.length (by rw [HLEN.out]; omega)
      have hgd : (L ++ [((nb ++ [122], aq + sq + 1, 1) : Ent)]).getD L.length e0 = (nb ++ [122], aq + sq + 1, 1) := by simp
      rw [hgd] at r0
      clear hgd r1 r2 hb9
      have hpb := put_bad (some ⟨b9, o9, none⟩) c9 _ w8 HRE.out (by rw [HLEN.out]; omega) (by rw [HFIN.out]; decide)
      have hcb := fun w' (x : Ext w8 w') => check_c (some ⟨b9, o9, none⟩) c9 _ w' (HRE.out.ext x) (by rw [HLEN.out]; omega)
      rw [HFIN.out, HLEN.out] at hpb
      simp only [HFIN.out, HLEN.out] at hcb
      have HPB := Lib.hid hpb
      have HCB := Lib.hid hcb
      clear HRE hpb hcb
      go_wp2_with fail
      refine HPB.out.mono ?_
      rintro e w8 ⟨rfl, hx8⟩
      have HC8 := Lib.hid (HCB.out w8 hx8)
      have X8 := Lib.hid (Ext.trans _ _ _ XW.out hx8)
      clear hx8 HPB HCB XW
      go_wp2_with fail
      refine HC8.out.mono ?_
      rintro e w9 ⟨rfl, hx9⟩
      obtain ⟨wz, hmk, hxz⟩ := mk_many w9
      have HCM := Lib.hid (check_many (some ⟨w9.heap.size, 0, none⟩) 1001 1001 wz (by omega))
      have X9 := Lib.hid (Ext.trans _ _ _ X8.out (Ext.trans _ _ _ hx9 hxz))
      clear hx9 hxz X8 HC8
      go_wp2_with fail
      refine HCM.out.mono ?_
      rintro e w10 ⟨rfl, hx10⟩
      go_wp2_with fail
      go_ret
      exact ⟨rfl, Ext.trans _ _ _ X9.out hx10⟩
end Go.Proofs.Ytfpeeilenocaoaa.Idx
