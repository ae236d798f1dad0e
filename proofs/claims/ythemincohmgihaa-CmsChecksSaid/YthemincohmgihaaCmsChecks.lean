/- P15.1, P1: any: whether it may be one: at every input, without conditions. -/
import Derived.Test.YthemincohmgihaaCmsChk
import Derived.Test.YthemincohmgihaaRelyC
namespace Go.Proofs.Ythemincohmgihaa.PCmsMerges
open Go Go.RowKit Go.Proofs.YthemincohmgihaaW.PrintWords Go.Proofs.Ythemincohmgihaa.Own Go.Proofs.Ythemincohmgihaa.Rely
attribute [local go_sem] min_ints max_ints

set_option maxHeartbeats 16000000 in
set_option maxRecDepth 20000 in
theorem checks_wf (r0 c0 : Int) (A0 : Option Addr) (cap0 : Nat) (L0 : List Int) (rows cols : Int) (sa sb : Int) (h : Int) (w : World) (hr0 : (Lit.int .i64 r0).wf = true) (hc0 : (Lit.int .i64 c0).wf = true) (hA : ArgI w .u32 A0 cap0 L0)
    (hrows : (Lit.int .i64 rows).wf = true) (hcols : (Lit.int .i64 cols).wf = true) (hsa : (Lit.int .u8 sa).wf = true) (hsb : (Lit.int .u8 sb).wf = true) (hh : (Lit.int .u64 h).wf = true) :
    Calls Try.prog 12 #[.agg #[.int .i64 r0, .int .i64 c0, .slice A0 L0.length cap0], .int .i64 rows, .int .i64 cols, .agg #[.int .u8 sa, .int .u8 sb], .int .u64 h] w fun e w' => e = .returned (.bool true) ∧ Below w.heap.size w w' := by
  have qsa := wf_u8 hsa
  have qsb := wf_u8 hsb
  have qh := wf_u64 hh
  obtain ⟨an, rfl⟩ : ∃ n : Nat, sa = (n : Int) := ⟨sa.toNat, by omega⟩
  obtain ⟨bn, rfl⟩ : ∃ n : Nat, sb = (n : Int) := ⟨sb.toNat, by omega⟩
  obtain ⟨hn, rfl⟩ : ∃ n : Nat, h = (n : Int) := ⟨h.toNat, by omega⟩
  have HA := Lib.hid hA.reads
  have hle0 := hA.le
  clear hr0 hc0 hA hrows hcols hsa hsb hh
  go_enter Try.func12, Try.ntmps12
  go_wp2_with fail
  obtain ⟨w1, hw1⟩ : ∃ w1, (w.alloc (.cells #[.int .i64 r0, .int .i64 c0, .slice A0 L0.length cap0] 49)).alloc (.cells #[.int .u8 an, .int .u8 bn] 60) = w1 := ⟨_, rfl⟩
  rw [hw1]
  obtain ⟨g5, hg5⟩ : ∃ g, w.heap.size = g := ⟨_, rfl⟩
  have B5 := Lib.hid (show Box3 w1 g5 (.int .i64 r0) (.int .i64 c0) (.slice A0 L0.length cap0) by
    rw [← hw1, ← hg5]; exact (box3_new w _ _ _ 49).ext (ext_new _ _))
  have hnb := heap_alloc_new (w.alloc (.cells #[.int .i64 r0, .int .i64 c0, .slice A0 L0.length cap0] 49)) (.cells #[.int .u8 an, .int .u8 bn] 60)
  have hs1 : (w.alloc (.cells #[.int .i64 r0, .int .i64 c0, .slice A0 L0.length cap0] 49)).heap.size = g5 + 1 := by rw [← hg5]; simp
  rw [hw1, hs1] at hnb
  have a0 := Blk.cell (S := fun q => q = g5 + 1) ⟨hnb, fun _ => Iff.rfl⟩ 0
  have a1 := Blk.cell (S := fun q => q = g5 + 1) ⟨hnb, fun _ => Iff.rfl⟩ 1
  simp only [List.getElem?_toArray, List.getElem?_cons_zero, List.getElem?_cons_succ] at a0 a1
  have X1 := Lib.hid (show Ext w w1 by rw [← hw1]; exact Ext.trans _ _ _ (ext_new _ _) (ext_new _ _))
  obtain ⟨g8, hg8⟩ : ∃ g, g5 + 1 = g := ⟨_, rfl⟩
  rw [hg8] at a0 a1
  try rw [hg5]
  try rw [hg8]
  clear hw1 hnb hs1
  refine (herbariumlaw15_Awake.calls true w1 awake_f).mono ?_
  rintro e w2 ⟨rfl, hd2⟩
  have hx2 : Ext w1 w2 := hd2.below
  replace a0 := hx2.cell a0
  replace a1 := hx2.cell a1
  have B5' := Lib.hid (B5.out.ext hx2)
  have X2 := Lib.hid (Ext.trans _ _ _ X1.out hx2)
  clear hx2 hd2 B5 X1
  obtain ⟨b0, b1, b2⟩ := B5'.out
  by_cases hl : 300 < L0.length
  · have d1 : decide ((300 : Int) < (L0.length : Int)) = true := by rw [decide_eq_true_iff]; omega
    go_wp2_with fail
    go_ret
    exact ⟨rfl, X2.out⟩
  have d1 : decide ((300 : Int) < (L0.length : Int)) = false := by rw [decide_eq_false_iff_not]; omega
  go_wp2_with fail
  refine (new_any rows cols w2).mono ?_
  rintro e w3 ⟨rt, ct, Lt, At, capt, rfl, htl, htc, htr, hx3⟩
  have B5 := Lib.hid (B5'.out.ext hx3)
  have X3 := Lib.hid (Ext.trans _ _ _ X2.out hx3)
  have HA3 := Lib.hid (X3.out.reads HA.out)
  have HT3 := Lib.hid htr
  replace a0 := hx3.cell a0
  replace a1 := hx3.cell a1
  clear htr hx3 b0 b1 b2 B5' X2 HA
  obtain ⟨w4, hw4⟩ : ∃ w4, w3.alloc (.cells #[.int .i64 rt, .int .i64 ct, .slice At Lt.length capt] 49) = w4 := ⟨_, rfl⟩
  have hx4 : Ext w3 w4 := by rw [← hw4]; exact ext_new _ _
  have X4 := Lib.hid (Ext.trans _ _ _ X3.out hx4)
  have B5' := Lib.hid (B5.out.ext hx4)
  have HA4 := Lib.hid (hx4.reads HA3.out)
  have HT4 := Lib.hid (hx4.reads HT3.out)
  obtain ⟨g11, hg11⟩ : ∃ g, w3.heap.size = g := ⟨_, rfl⟩
  have B11 := Lib.hid (show Box3 w4 g11 (.int .i64 rt) (.int .i64 ct) (.slice At Lt.length capt) by rw [← hw4, ← hg11]; exact box3_new w3 _ _ _ 49)
  replace a0 := hx4.cell a0
  replace a1 := hx4.cell a1
  clear hx4 HA3 HT3 B5 X3
  have hm8 : (an : Int).tmod 8 = ((an % 8 : Nat) : Int) := by rw [Int.tmod_eq_emod_of_nonneg (by omega)]; rfl
  have hm40 : (bn : Int).tmod 40 = ((bn % 40 : Nat) : Int) := by rw [Int.tmod_eq_emod_of_nonneg (by omega)]; rfl
  obtain ⟨R, hR⟩ : ∃ R, 1 + an % 8 = R := ⟨_, rfl⟩
  obtain ⟨C, hC⟩ : ∃ C, 1 + bn % 40 = C := ⟨_, rfl⟩
  have hRi : (1 : Int) + (an : Int) % 8 = (R : Int) := by omega
  have hCi : (1 : Int) + (bn : Int) % 40 = (C : Int) := by omega
  have R1 : 1 ≤ R := by omega
  have R8 : R ≤ 8 := by omega
  have C1 : 1 ≤ C := by omega
  have C40 : C ≤ 40 := by omega
  have hRC0 : 1 ≤ R * C := Nat.mul_pos R1 C1
  have hRC1 : R * C ≤ 320 := Nat.mul_le_mul R8 C40
  clear hR hC
  obtain ⟨n, hn9⟩ : ∃ n, R * C = n := ⟨_, rfl⟩
  have HNEW := Lib.hid (new_good (R := R) (C := C) R1 R8 C1 (by omega) w4)
  rw [hn9] at HNEW hRC0 hRC1
  have HN := Lib.hid hn9
  clear hn9
  go_wp2_with fail
  clear hw4 hRi hCi hm8 hm40 a0 a1 qsa qsb hg8
  refine HNEW.out.mono ?_
  rintro e w5 ⟨Au, capu, rfl, huc, hur, hx5⟩
  have X5 := Lib.hid (Ext.trans _ _ _ X4.out hx5)
  have HA5 := Lib.hid (hx5.reads HA4.out)
  have HT5 := Lib.hid (hx5.reads HT4.out)
  have B5 := Lib.hid (B5'.out.ext hx5)
  have B11' := Lib.hid (B11.out.ext hx5)
  have hg11' : g11 < w5.heap.size := Nat.lt_of_lt_of_le (World.block_lt_of_cell? _ _ B11.out.1) hx5.size
  clear hx5 HNEW X4 HA4 HT4 B5' B11
  obtain ⟨w6, hw6⟩ : ∃ w6, w5.alloc (.cells #[.int .i64 R, .int .i64 C, .slice Au n capu] 49) = w6 := ⟨_, rfl⟩
  have hx6 : Ext w5 w6 := by rw [← hw6]; exact ext_new _ _
  have X6 := Lib.hid (Ext.trans _ _ _ X5.out hx6)
  have HA6 := Lib.hid (hx6.reads HA5.out)
  have HT6 := Lib.hid (hx6.reads HT5.out)
  have HU6 := Lib.hid (hx6.reads hur)
  have B5' := Lib.hid (B5.out.ext hx6)
  have B11 := Lib.hid (B11'.out.ext hx6)
  obtain ⟨g13, hg13⟩ : ∃ g, w5.heap.size = g := ⟨_, rfl⟩
  have B13 := Lib.hid (show Box3 w6 g13 (.int .i64 R) (.int .i64 C) (.slice Au n capu) by rw [← hw6, ← hg13]; exact box3_new w5 _ _ _ 49)
  clear hx6 hur HA5 HT5 B5 B11' X5 hg11'
  obtain ⟨b0, b1, b2⟩ := B13.out
  have dn : decide ((n : Int) = 0) = false := by rw [decide_eq_false_iff_not]; omega
  have dnb : ((n : Int) == 0) = false := by rw [beq_eq_false_iff_ne]; omega
  have dnn : decide (n = 0) = false := by rw [decide_eq_false_iff_not]; omega
  have dnnb : (n == 0) = false := by rw [beq_eq_false_iff_ne]; omega
  go_wp2_with fail
  obtain ⟨bu, ou, rfl, hub, hu0⟩ := HU6.out.at (show 0 < (List.replicate n (0 : Int)).length by simp; omega)
  clear hub hu0 b0 b1 b2 hw6 hg13 hg11 hg5
  obtain ⟨Av, hAv⟩ : ∃ Av, (if capu = 1 then some (⟨bu, ou, none⟩ : Addr) else some ⟨bu, ou + 1, none⟩) = Av := ⟨_, rfl⟩
  have HAV := Lib.hid hAv
  clear hAv
  refine wp_region_next (by kernel_rfl) ?_
  refine next_win 0 9 Ext Ext 999 0 (fun _ _ h => h) Ext.refl Ext.trans Ext.refl Ext.trans [[(13, none)], [(50, some 0)], [(13, none)], [(52, some 2)], [(13, none)], [(54, some 4)], [(55, some 5)], [(51, some 1), (53, some 3), (56, some 6)], []] [some 50, some 51, some 52, some 53, some 54, some 55, some 56, some 57, some 15] (by kernel_rfl) (by kernel_rfl) (by kernel_rfl) (by kernel_rfl) ?_
  intro Nx hNx
  -- 0: slot 50 := Op.fieldAddr 49 (t13) 0
  apply relyD_const (by decide) (by decide); case h => (intro wr hR a' h13 K hK; go_wp2_with fail; exact Ext.refl _)
  -- 1: slot 51 := Op.load 3 (t50)
  apply relyD_const (by decide) (by decide); case h => (intro wr hR a' h50 K hK; obtain ⟨k0, k1, k2⟩ := B13.out.ext hR.undrew; go_wp2_with fail; exact Ext.refl _)
  -- 2: slot 52 := Op.fieldAddr 49 (t13) 1
  apply relyD_const (by decide) (by decide); case h => (intro wr hR a' h13 K hK; go_wp2_with fail; exact Ext.refl _)
  -- 3: slot 53 := Op.load 3 (t52)
  apply relyD_const (by decide) (by decide); case h => (intro wr hR a' h52 K hK; obtain ⟨k0, k1, k2⟩ := B13.out.ext hR.undrew; go_wp2_with fail; exact Ext.refl _)
  -- 4: slot 54 := Op.fieldAddr 49 (t13) 2
  apply relyD_const (by decide) (by decide); case h => (intro wr hR a' h13 K hK; go_wp2_with fail; exact Ext.refl _)
  -- 5: slot 55 := Op.load 47 (t54)
  apply relyD_const (by decide) (by decide); case h => (intro wr hR a' h54 K hK; obtain ⟨k0, k1, k2⟩ := B13.out.ext hR.undrew; go_wp2_with fail; exact Ext.refl _)
  -- 6: slot 56 := Op.slice 47 (t55) (some (Operand.const (Value.int IntKind.i64 1))) none none
  refine relyD_const (by decide) (by decide) (.slice Av (n - 1) (capu - 1)) ?h6 ?_
  case h6 =>
    intro wr hR a' h55 K hK
    have HK := Lib.hid (hK _ (Ext.refl _))
    clear hK
    by_cases hc1 : capu = 1
    · have e : Av = some ⟨bu, ou, none⟩ := by rw [← HAV.out, if_pos hc1]
      have e1 : n = 1 := by omega
      subst e hc1 e1
      go_wp2_with fail
      exact HK.out
    · have e : Av = some ⟨bu, ou + 1, none⟩ := by rw [← HAV.out, if_neg hc1]
      subst e
      go_wp2_with fail
      exact HK.out
  -- 7: slot 57 := Op.build 49 #[(0, t51), (1, t53), (2, t56)]
  refine relyD_const (by decide) (by decide) (.agg #[.int .i64 R, .int .i64 C, .slice Av (n - 1) (capu - 1)]) ?h7 ?_
  case h7 =>
    intro wr hR a' h51 h53 h56 K hK
    refine build_three wr rfl _ _ _ _ rfl (.int .i64 R) (.int .i64 C) (.slice Av (n - 1) (capu - 1)) (.agg #[.int .i64 R, .int .i64 C, .slice Av (n - 1) (capu - 1)]) h51 h53 h56 ?_ ?_
    · exact (by simp [Instr.build, go_sem])
    · have HK := Lib.hid (hK _ (Ext.refl _))
      clear hK
      go_wp2_with fail
      exact HK.out
  -- 8: slot 15 := Op.alloc 49
  refine relyD_rel (by decide) (by decide) (fun v w => ∃ p, v = .pointer (some ⟨p, 0, none⟩) ∧ w6.heap.size ≤ p ∧ Blk p #[.int .i64 0, .int .i64 0, .slice none 0 0] 49 w (fun q => q = p)) (fun v w w' ⟨p, e, hp, hb⟩ x => ⟨p, e, hp, Ext.keep (Lcl.blk _ _ _) x hb⟩) ?h8 ?_
  case h8 =>
    intro wr hR a' K hK
    have hnb := heap_alloc_new wr (.cells #[.int .i64 0, .int .i64 0, .slice none 0 0] 49)
    have HK := Lib.hid (hK _ _ (ext_new _ _) ⟨wr.heap.size, rfl, hR.undrew.size, hnb, fun _ => Iff.rfl⟩)
    clear hK hnb
    go_wp2_with fail
    exact HK.out
  refine relyD_end ?_
  intro wr hR
  simp only [had, List.take_succ_cons, List.take_zero, List.map_cons, List.map_nil, List.cons_append, List.nil_append, ends, Act.put, List.setIfInBounds_toArray, List.set_cons_zero, List.set_cons_succ]
  rintro v15 ⟨g15, rfl, hp, hblk⟩
  refine hNx _ _ ?_
  have hx7 : Ext w6 wr := hR.undrew
  obtain ⟨hblk8, hk8⟩ := put3 (.int .i64 R) (.int .i64 C) (.slice Av (n - 1) (capu - 1)) hblk
  obtain ⟨w8, hw8⟩ : ∃ w8, ((wr.setCell ⟨g15, 0, none⟩ (.int .i64 R)).setCell ⟨g15, 1, none⟩ (.int .i64 C)).setCell ⟨g15, 2, none⟩ (.slice Av (n - 1) (capu - 1)) = w8 := ⟨_, rfl⟩
  rw [hw8] at hblk8 hk8
  have hx8 : Ext w6 w8 := ext_keep hx7 hp hk8
  have HW8 := Lib.hid hw8
  have B15 := Lib.hid (box_of hblk8)
  obtain ⟨k0, k1, k2⟩ := box_of hblk
  have f0 := hblk.free 0
  have f1 := hblk.free 1
  have f2 := hblk.free 2
  have X8 := Lib.hid (Ext.trans _ _ _ X6.out hx8)
  have HA8 := Lib.hid (hx8.reads HA6.out)
  have HT8 := Lib.hid (hx8.reads HT6.out)
  have HU8 := Lib.hid (hx8.reads HU6.out)
  have B5 := Lib.hid (B5'.out.ext hx8)
  have B11' := Lib.hid (B11.out.ext hx8)
  have B13' := Lib.hid (B13.out.ext hx8)
  have hg158 : g15 < w8.heap.size := World.block_lt_of_cell? _ _ B15.out.1
  clear hw8 hblk hblk8 hk8 hx8 hx7 hR HA6 HT6 HU6 B5' B11 B13 X6 hp
  refine next_win 9 10 (fun a b => a = b) (OneW wr w8) 9 511 (fun _ _ h => .inl h) (fun _ => rfl) (fun _ _ _ h k => h.trans k) (OneW.refl _ _) (OneW.trans _ _) [[(15, none), (57, none)]] [none, none, none, none, none, none, none, none, none, none] (by kernel_rfl) (by kernel_rfl) (by kernel_rfl) (by kernel_rfl) ?_
  intro Ny hNy
  refine relyD_the rfl (fun _ w => w = w8) (fun v w w' h r => r.end_ h) ?h9 ?_
  case h9 =>
    rintro w' rfl a' h15 h57 K hK
    have HK := Lib.hid (hK undef w8 (.inr ⟨rfl, rfl⟩) rfl)
    rw [← HW8.out] at HK
    clear hK
    go_wp2_with fail
    exact HK.out
  refine relyD_end ?_
  intro wz hR
  simp only [had, List.take_succ_cons, List.take_zero, List.map_cons, List.map_nil, List.cons_append, List.nil_append, ends, Act.put, List.setIfInBounds_toArray, List.set_cons_zero, List.set_cons_succ]
  rintro v9 hwz
  obtain rfl := hwz.symm
  refine hNy _ _ ?_
  clear hR hwz HW8 k0 k1 k2 f0 f1 f2 hNx
  refine next_done rfl ?_
  try simp only [Act.put, List.setIfInBounds_toArray, List.set_cons_zero, List.set_cons_succ]
  go_wp2_with fail
  clear hNy
  obtain ⟨n0, hn0⟩ : ∃ n0, w8.heap.size = n0 := ⟨_, rfl⟩
  have HN0 := Lib.hid hn0
  clear hn0
  refine wp_region_next (by kernel_rfl) ?_
  refine next_win 0 10 Ext Ext 999 0 (fun _ _ h => h) Ext.refl Ext.trans Ext.refl Ext.trans [[(13, none)], [(58, some 0)], [(13, none)], [(60, some 2)], [], [(13, none)], [(63, some 5)], [(62, some 4), (64, some 6)], [(59, some 1), (61, some 3), (65, some 7)], []] [some 58, some 59, some 60, some 61, some 62, some 63, some 64, some 65, some 66, some 16] (by kernel_rfl) (by kernel_rfl) (by kernel_rfl) (by kernel_rfl) ?_
  intro Nx hNx
  -- 0: slot 58 := Op.fieldAddr 49 (t13) 0
  apply relyD_const (by decide) (by decide); case h => (intro wr hR a' h13 K hK; go_wp2_with fail; exact Ext.refl _)
  -- 1: slot 59 := Op.load 3 (t58)
  apply relyD_const (by decide) (by decide); case h => (intro wr hR a' h58 K hK; obtain ⟨k0, k1, k2⟩ := B13'.out.ext hR.undrew; go_wp2_with fail; exact Ext.refl _)
  -- 2: slot 60 := Op.fieldAddr 49 (t13) 1
  apply relyD_const (by decide) (by decide); case h => (intro wr hR a' h13 K hK; go_wp2_with fail; exact Ext.refl _)
  -- 3: slot 61 := Op.load 3 (t60)
  apply relyD_const (by decide) (by decide); case h => (intro wr hR a' h60 K hK; obtain ⟨k0, k1, k2⟩ := B13'.out.ext hR.undrew; go_wp2_with fail; exact Ext.refl _)
  -- 4: slot 62 := Op.buildSlice 47 0 #[]
  refine relyD_rel (by decide) (by decide) (fun v _ => ∃ b, v = .slice (some b) 0 0) (fun _ _ _ h _ => h) ?h4 ?_
  case h4 =>
    intro wr hR a' K hK
    have HK := Lib.hid hK
    clear hK
    go_wp2_with fail
    exact HK.out _ _ (ext_new _ _) ⟨_, rfl⟩
  -- 5: slot 63 := Op.fieldAddr 49 (t13) 2
  apply relyD_const (by decide) (by decide); case h => (intro wr hR a' h13 K hK; go_wp2_with fail; exact Ext.refl _)
  -- 6: slot 64 := Op.load 47 (t63)
  apply relyD_const (by decide) (by decide); case h => (intro wr hR a' h63 K hK; obtain ⟨k0, k1, k2⟩ := B13'.out.ext hR.undrew; go_wp2_with fail; exact Ext.refl _)
  -- 7: slot 65 := Op.call { callee := Callee.builtin Builtin.append, args := #[t62, t64], argTypes := #[47, 47] }
  refine relyD_rel (by decide) (by decide) (fun v wv => ∃ A' c', v = .slice A' n c' ∧ Lit.Fresh n0 22 .u32 (.slice A' n c') (List.replicate n 0) wv) (fun _ _ _ ⟨A', c', e, h⟩ x => ⟨A', c', e, fresh_ext h x⟩) ?h7 ?_
  case h7 =>
    rintro wr hR a' v h62 ⟨b62, rfl⟩ h64 K hK
    have HK := Lib.hid hK
    have HS := Lib.hid (src_reads (hR.undrew.reads HU8.out))
    have hsz := hR.undrew.size
    clear hK
    go_wp2_with (at_builtin; refine Lit.lit_append _ rfl _ _ 47 rfl 22 .u32 4 Try.underlying47 info_u32 (by decide) b62 (List.replicate n 0) (some ⟨bu, ou, none⟩) n capu n0 h62 h64 (by rw [List.length_replicate]) (by rw [List.length_replicate]; omega) HS.out (by rw [List.length_replicate]; omega) (by rw [← HN0.out]; exact hsz) ?_; intro cap cs hcap hfr; have HFR := Lib.hid hfr; clear hfr)
    have hfr := HFR.out
    rw [List.length_replicate] at hfr
    have HF := Lib.hid hfr
    clear hfr
    try rw [List.length_replicate]
    refine HK.out _ _ ?_ ⟨_, _, rfl, HF.out⟩
    exact Ext.undrew (ext_new wr.drew _)
  -- 8: slot 66 := Op.build 49 #[(0, t59), (1, t61), (2, t65)]
  refine relyD_rel (by decide) (by decide) (fun v wv => ∃ A' c', v = .agg #[.int .i64 R, .int .i64 C, .slice A' n c'] ∧ Lit.Fresh n0 22 .u32 (.slice A' n c') (List.replicate n 0) wv) (fun _ _ _ ⟨A', c', e, h⟩ x => ⟨A', c', e, fresh_ext h x⟩) ?h8 ?_
  case h8 =>
    rintro wr hR a' h59 h61 v h65 ⟨A', c', rfl, hf⟩ K hK
    have HK := Lib.hid (hK _ _ (Ext.refl _) ⟨A', c', rfl, hf⟩)
    clear hK hf
    refine build_three wr rfl _ _ _ _ rfl (.int .i64 R) (.int .i64 C) (.slice A' n c') (.agg #[.int .i64 R, .int .i64 C, .slice A' n c']) h59 h61 h65 ?_ ?_
    · exact (by simp [Instr.build, go_sem])
    · go_wp2_with fail
      exact HK.out
  -- 9: slot 16 := Op.alloc 49
  refine relyD_rel (by decide) (by decide) (fun v w => ∃ p, v = .pointer (some ⟨p, 0, none⟩) ∧ w8.heap.size ≤ p ∧ Blk p #[.int .i64 0, .int .i64 0, .slice none 0 0] 49 w (fun q => q = p)) (fun v w w' ⟨p, e, hp, hb⟩ x => ⟨p, e, hp, Ext.keep (Lcl.blk _ _ _) x hb⟩) ?h9 ?_
  case h9 =>
    intro wr hR a' K hK
    have hnb := heap_alloc_new wr (.cells #[.int .i64 0, .int .i64 0, .slice none 0 0] 49)
    have HK := Lib.hid (hK _ _ (ext_new _ _) ⟨wr.heap.size, rfl, hR.undrew.size, hnb, fun _ => Iff.rfl⟩)
    clear hK hnb
    go_wp2_with fail
    exact HK.out
  refine relyD_end ?_
  intro wr hR
  simp only [had, List.take_succ_cons, List.take_zero, List.map_cons, List.map_nil, List.cons_append, List.nil_append, ends, Act.put, List.setIfInBounds_toArray, List.set_cons_zero, List.set_cons_succ]
  rintro v62 - v65 - v66 ⟨A', c', rfl, hfr⟩ v16 ⟨g16, rfl, hp, hblk⟩
  refine hNx _ _ ?_
  have hx9 : Ext w8 wr := hR.undrew
  obtain ⟨hblk8, hk8⟩ := put3 (.int .i64 R) (.int .i64 C) (.slice A' n c') hblk
  obtain ⟨w9, hw9⟩ : ∃ w9, ((wr.setCell ⟨g16, 0, none⟩ (.int .i64 R)).setCell ⟨g16, 1, none⟩ (.int .i64 C)).setCell ⟨g16, 2, none⟩ (.slice A' n c') = w9 := ⟨_, rfl⟩
  rw [hw9] at hblk8 hk8
  have hf9 := hfr.keep hk8 hblk.1 (by decide)
  have hx9' : Ext w8 w9 := ext_keep hx9 hp hk8
  have HW9 := Lib.hid hw9
  have BLK16 := Lib.hid hblk8
  obtain ⟨k0, k1, k2⟩ := box_of hblk
  have f0 := hblk.free 0
  have f1 := hblk.free 1
  have f2 := hblk.free 2
  have hp16 : w8.heap.size ≤ g16 := hp
  have HF9 := Lib.hid hf9
  have hg89 := hx9'.size
  have EX89 := Lib.hid hx9'
  clear hw9 hblk hblk8 hk8 hx9 hx9' hR hfr hf9 hp hg158
  refine next_win 10 11 (fun a b => a = b) (OneW wr w9) 10 1023 (fun _ _ h => .inl h) (fun _ => rfl) (fun _ _ _ h k => h.trans k) (OneW.refl _ _) (OneW.trans _ _) [[(16, none), (66, none)]] [none, none, none, none, none, none, none, none, none, none, none] (by kernel_rfl) (by kernel_rfl) (by kernel_rfl) (by kernel_rfl) ?_
  intro Ny hNy
  refine relyD_the rfl (fun _ w => w = w9) (fun v w w' h r => r.end_ h) ?h10 ?_
  case h10 =>
    rintro w' rfl a' h16 h66 K hK
    have HK := Lib.hid (hK undef w9 (.inr ⟨rfl, rfl⟩) rfl)
    rw [← HW9.out] at HK
    clear hK
    go_wp2_with fail
    exact HK.out
  refine relyD_end ?_
  intro wz hR
  simp only [had, List.take_succ_cons, List.take_zero, List.map_cons, List.map_nil, List.cons_append, List.nil_append, ends, Act.put, List.setIfInBounds_toArray, List.set_cons_zero, List.set_cons_succ]
  rintro v9 hwz
  obtain rfl := hwz.symm
  refine hNy _ _ ?_
  clear hR hwz HW9 k0 k1 k2 f0 f1 f2 hNx
  refine next_done rfl ?_
  try simp only [Act.put, List.setIfInBounds_toArray, List.set_cons_zero, List.set_cons_succ]
  go_wp2_with fail
  clear hNy
  obtain ⟨S9, hrow9, hS9⟩ := HF9.out
  obtain ⟨gr, cr, er, hSr, hgr⟩ := hrow9.form (by rw [List.length_replicate]; omega)
  injection er with er1 er2 er3
  clear er2
  subst er1 er3
  have hgrn : n0 ≤ gr := hS9 gr ((hSr gr).2 rfl)
  have HROW9 := Lib.hid (show Row 22 .u32 (.slice (some ⟨gr, 0, none⟩) n c') (List.replicate n 0) w9 (fun q => q = gr) from ⟨hrow9.1, fun b => by simp [Value.ownBlock, eq_comm]⟩)
  have hne := row_other HROW9.out BLK16.out.1 (by decide)
  have hnc9 : n ≤ c' := by
    obtain ⟨A9, c9, e9, q1, _⟩ := HROW9.out.reads
    injection e9 with _ _ e93
    rw [List.length_replicate] at q1
    omega
  clear hrow9 hS9 hSr HF9
  obtain ⟨i, hi⟩ : ∃ i, hn % n = i := ⟨_, rfl⟩
  have hin : i < n := by rw [← hi]; exact Nat.mod_lt _ (by omega)
  have q1 : (hn : Int).tmod (n : Int) = (i : Int) := by rw [Int.tmod_eq_emod_of_nonneg (by omega), ← hi]; rfl
  have q2 : (hn : Int) % (n : Int) = (i : Int) := by rw [← hi]; rfl
  clear hi
  have c9 : w9.cell? ⟨gr, i, none⟩ = some (.int .u32 0) := by
    have := (HROW9.out).cell (i := i) (by rw [List.length_replicate]; exact hin)
    rw [this]; simp [List.getD_eq_getElem?_getD, List.getElem?_replicate, hin]
  have hin2 : (i : Int) < (n : Int) := by omega
  refine wp_region_next (by kernel_rfl) ?_
  refine next_win 0 13 Ext Ext 999 0 (fun _ _ h => h) Ext.refl Ext.trans Ext.refl Ext.trans [[(16, none)], [(67, some 0)], [(4, none)], [(16, none)], [(70, some 3)], [(71, some 4)], [(72, some 5)], [(69, some 2), (73, some 6)], [(74, some 7)], [(68, some 1), (75, some 8)], [(76, some 9)], [(77, some 10)], [(68, some 1), (75, some 8)]] [some 67, some 68, some 69, some 70, some 71, some 72, some 73, some 74, some 75, some 76, some 77, some 78, some 79] (by kernel_rfl) (by kernel_rfl) (by kernel_rfl) (by kernel_rfl) ?_
  intro Nx hNx
  -- 0: slot 67 := Op.fieldAddr 49 (t16) 2
  apply relyD_const (by decide) (by decide); case h => (intro wr hR a' h16 K hK; go_wp2_with fail; exact Ext.refl _)
  -- 1: slot 68 := Op.load 47 (t67)
  apply relyD_const (by decide) (by decide); case h => (intro wr hR a' h67 K hK; obtain ⟨k0, k1, k2⟩ := (box_of BLK16.out).ext hR.undrew; go_wp2_with fail; exact Ext.refl _)
  -- 2: slot 69 := Op.move (t4)
  apply relyD_const (by decide) (by decide); case h => (intro wr hR a' h4 K hK; go_wp2_with fail; exact Ext.refl _)
  -- 3: slot 70 := Op.fieldAddr 49 (t16) 2
  apply relyD_const (by decide) (by decide); case h => (intro wr hR a' h16 K hK; go_wp2_with fail; exact Ext.refl _)
  -- 4: slot 71 := Op.load 47 (t70)
  apply relyD_const (by decide) (by decide); case h => (intro wr hR a' h70 K hK; obtain ⟨k0, k1, k2⟩ := (box_of BLK16.out).ext hR.undrew; go_wp2_with fail; exact Ext.refl _)
  -- 5: slot 72 := Op.call { callee := Callee.builtin Builtin.len, args := #[t71], argTypes := #[47] }
  apply relyD_const (by decide) (by decide); case h => (intro wr hR a' h71 K hK; go_wp2_with fail; exact Ext.refl _)
  -- 6: slot 73 := Op.convert 3 24 (t72)
  apply relyD_const (by decide) (by decide); case h => (intro wr hR a' h72 K hK; go_wp2_with fail; exact Ext.refl _)
  -- 7: slot 74 := Op.binOp BinOp.rem 24 (t69) (t73) 24
  apply relyD_const (by decide) (by decide); case h => (intro wr hR a' h69 h73 K hK; go_wp2_with fail; exact Ext.refl _)
  -- 8: slot 75 := Op.convert 24 3 (t74)
  apply relyD_const (by decide) (by decide); case h => (intro wr hR a' h74 K hK; go_wp2_with fail; exact Ext.refl _)
  -- 9: slot 76 := Op.indexAddr 47 (t68) (t75)
  apply relyD_const (by decide) (by decide); case h => (intro wr hR a' h68 h75 K hK; go_wp2_with fail; exact Ext.refl _)
  -- 10: slot 77 := Op.load 22 (t76)
  apply relyD_const (by decide) (by decide); case h => (intro wr hR a' h76 K hK; have k9 := hR.undrew.cell c9; go_wp2_with fail; exact Ext.refl _)
  -- 11: slot 78 := Op.binOp BinOp.add 22 (t77) (Operand.const (Value.int IntKind.u32 1)) 22
  apply relyD_const (by decide) (by decide); case h => (intro wr hR a' h77 K hK; go_wp2_with fail; exact Ext.refl _)
  -- 12: slot 79 := Op.indexAddr 47 (t68) (t75)
  apply relyD_const (by decide) (by decide); case h => (intro wr hR a' h68 h75 K hK; go_wp2_with fail; exact Ext.refl _)
  refine relyD_end ?_
  intro wr hR
  simp only [had, List.take_succ_cons, List.take_zero, List.map_cons, List.map_nil, List.cons_append, List.nil_append, ends, Act.put, List.setIfInBounds_toArray, List.set_cons_zero, List.set_cons_succ]
  refine hNx _ _ ?_
  have hx10 : Ext w9 wr := hR.undrew
  have hrowr := Ext.keep (Lcl.row _ _ _ _) hx10 HROW9.out
  have hs10 := Row.set hrowr i 1
  obtain ⟨w10, hw10⟩ : ∃ w10, wr.setCell ⟨gr, i, none⟩ (.int .u32 1) = w10 := ⟨_, rfl⟩
  rw [hw10] at hs10
  have hk10 : Keep (fun q => q = gr) wr w10 := hs10.2.keep
  have hE : ∀ x, Ext x w9 → x.heap.size ≤ gr → Ext x w10 := fun x hx hp => ext_keep (Ext.trans _ _ _ hx hx10) hp hk10
  have kc := hx10.cell c9
  have kf := hrowr.free i
  have HW10 := Lib.hid hw10
  have hsz8 : w8.heap.size ≤ gr := by rw [HN0.out]; exact hgrn
  have hb16 : Box3 w10 g16 (.int .i64 R) (.int .i64 C) (.slice (some ⟨gr, 0, none⟩) n c') := by
    obtain ⟨z0, z1, z2⟩ := (box_of BLK16.out).ext hx10
    exact ⟨hk10.cell z0 hne, hk10.cell z1 hne, hk10.cell z2 hne⟩
  have B16 := Lib.hid hb16
  have HW10R := Lib.hid (show Reads w10 .u32 (some ⟨gr, 0, none⟩) ((List.replicate n 0).set i 1) from by
    have hq := hs10.1
    rw [show Value.slice (some ⟨gr, 0, none⟩) n c' = Value.slice (some ⟨gr, 0, none⟩) n c' from rfl] at hq
    exact Row.readsAt hq)
  have HX10 := Lib.hid (show Keep (fun q => q = gr) w9 w10 from Keep.trans (S := fun q => q = gr) (Keep.of_below hx10) hk10 (fun _ _ q => q) (fun _ _ q => q))
  clear hs10 hk10 hx10 hrowr hR hb16 hw10 hE
  refine next_win 13 14 (fun a b => a = b) (OneW wr w10) 13 8191 (fun _ _ h => .inl h) (fun _ => rfl) (fun _ _ _ h k => h.trans k) (OneW.refl _ _) (OneW.trans _ _) [[(79, none), (78, none)]] [none, none, none, none, none, none, none, none, none, none, none, none, none, none] (by kernel_rfl) (by kernel_rfl) (by kernel_rfl) (by kernel_rfl) ?_
  intro Ny hNy
  refine relyD_the rfl (fun _ w => w = w10) (fun v w w' h r => r.end_ h) ?h13 ?_
  case h13 =>
    rintro w' rfl a' h79 h78 K hK
    have HK := Lib.hid (hK undef w10 (.inr ⟨rfl, rfl⟩) rfl)
    rw [← HW10.out] at HK
    clear hK
    go_wp2_with fail
    exact HK.out
  refine relyD_end ?_
  intro wz hR
  simp only [had, List.take_succ_cons, List.take_zero, List.map_cons, List.map_nil, List.cons_append, List.nil_append, ends, Act.put, List.setIfInBounds_toArray, List.set_cons_zero, List.set_cons_succ]
  rintro v9 hwz
  obtain rfl := hwz.symm
  refine hNy _ _ ?_
  clear hR hwz HW10 kc kf hNx
  refine next_done rfl ?_
  try simp only [Act.put, List.setIfInBounds_toArray, List.set_cons_zero, List.set_cons_succ]
  have hx810 : Ext w8 w10 := ext_keep EX89.out (by rw [HN0.out]; exact hgrn) HX10.out
  have X10 := Lib.hid (Ext.trans _ _ _ X8.out hx810)
  have HU10 := hx810.reads HU8.out
  have HV := Lib.hid (show Reads w10 .u32 Av (List.replicate (n - 1) 0) by rw [← HAV.out]; exact reads_rest HU10 huc)
  have HU := Lib.hid HU10
  have HA := Lib.hid (hx810.reads HA8.out)
  have HT := Lib.hid (hx810.reads HT8.out)
  have C5 := Lib.hid (B5.out.ext hx810)
  have C11 := Lib.hid (B11'.out.ext hx810)
  have C13 := Lib.hid (B13'.out.ext hx810)
  have C15 := Lib.hid (B15.out.ext hx810)
  clear hx810 HU10 HA8 HT8 HU8 B5 B11' B13' B15 X8 EX89 HX10 HROW9 BLK16 hne hNy HAV HN0 hgrn hgr c9 q1 q2 hp16 hg89
  obtain ⟨wq, hwq⟩ : ∃ wq, w10.alloc (.cells #[.int .i64 r0, .int .i64 c0, .slice A0 L0.length cap0, .int .i64 rt, .int .i64 ct, .slice At Lt.length capt, .int .i64 R, .int .i64 C, .slice (some ⟨bu, ou, none⟩) n capu, .int .i64 R, .int .i64 C, .slice Av (n - 1) (capu - 1)] 49) = wq := ⟨_, rfl⟩
  have hxq : Ext w10 wq := by rw [← hwq]; exact ext_new _ _
  have hbq := heap_alloc_new w10 (.cells #[.int .i64 r0, .int .i64 c0, .slice A0 L0.length cap0, .int .i64 rt, .int .i64 ct, .slice At Lt.length capt, .int .i64 R, .int .i64 C, .slice (some ⟨bu, ou, none⟩) n capu, .int .i64 R, .int .i64 C, .slice Av (n - 1) (capu - 1)] 49)
  rw [hwq] at hbq
  obtain ⟨gq, hgq⟩ : ∃ gq, w10.heap.size = gq := ⟨_, rfl⟩
  rw [hgq] at hbq
  have HEL := Lib.hid (show ∀ j, j < 4 → ∃ rj cj Aj Lj capj, wq.cell? ⟨gq, j * 3, none⟩ = some (.int .i64 rj) ∧ wq.cell? ⟨gq, j * 3 + 1, none⟩ = some (.int .i64 cj) ∧ wq.cell? ⟨gq, j * 3 + 2, none⟩ = some (.slice Aj (List.length Lj) capj) ∧ Reads wq .u32 Aj Lj ∧ Lj.length ≤ capj ∧ Lj.length ≤ 2048 by
    have hc : ∀ k, wq.cell? ⟨gq, k, none⟩ = _ := fun k => Blk.cell (S := fun q => q = gq) ⟨hbq, fun _ => Iff.rfl⟩ k
    intro j hj
    rcases (by omega : j = 0 ∨ j = 1 ∨ j = 2 ∨ j = 3) with rfl | rfl | rfl | rfl
    · exact ⟨r0, c0, A0, L0, cap0, ⟨(hc 0).trans rfl, (hc 1).trans rfl, (hc 2).trans rfl, hxq.reads HA.out, hle0, by omega⟩⟩
    · exact ⟨rt, ct, At, Lt, capt, ⟨(hc 3).trans rfl, (hc 4).trans rfl, (hc 5).trans rfl, hxq.reads HT.out, htc, by omega⟩⟩
    · exact ⟨R, C, some ⟨bu, ou, none⟩, List.replicate n 0, capu, ⟨(hc 6).trans rfl, (hc 7).trans rfl, (hc 8).trans (by simp), hxq.reads HU.out, by simpa using huc, by simp; omega⟩⟩
    · exact ⟨R, C, Av, List.replicate (n - 1) 0, capu - 1, ⟨(hc 9).trans rfl, (hc 10).trans rfl, (hc 11).trans (by simp), hxq.reads HV.out, by simp; omega, by simp; omega⟩⟩)
  have XQ := Lib.hid (Ext.trans _ _ _ X10.out hxq)
  have HUq := Lib.hid (hxq.reads HU.out)
  have HVq := Lib.hid (hxq.reads HV.out)
  have HWq := Lib.hid (hxq.reads HW10R.out)
  have D13 := Lib.hid (C13.out.ext hxq)
  have D15 := Lib.hid (C15.out.ext hxq)
  have D16 := Lib.hid (B16.out.ext hxq)
  obtain ⟨a0, a1, a2⟩ := C5.out
  obtain ⟨b0, b1, b2⟩ := C11.out
  obtain ⟨c0', c1', c2'⟩ := C13.out
  obtain ⟨d0, d1', d2⟩ := C15.out
  clear hxq hbq HA HT HU HV HW10R X10 C5 C11 C13 C15 B16
  go_wp2_with fail
  go_loopw [86] (fun v wv => ∃ j : Nat, j ≤ 4 ∧ v = .int .i64 j ∧ Ext w wv ∧ Ext wq wv) (fun v _ => 4 - (intOf v).toNat)
  case atStart => exact ⟨0, by omega, rfl, XQ.out, Ext.refl _⟩
  case round =>
    obtain ⟨j, hj, rfl, hxa, hxb⟩ := hrel
    have XW := Lib.hid hxa
    have XB := Lib.hid hxb
    by_cases hj2 : j < 4
    · obtain ⟨rj, cj, Aj, Lj, capj, e0, e1, e2, hrj, hcj, hlj⟩ := HEL.out j hj2
      replace e0 := hxb.cell e0
      replace e1 := hxb.cell e1
      replace e2 := hxb.cell e2
      have HRJ := Lib.hid (hxb.reads hrj)
      have hj4 : (j : Int) < 4 := by omega
      clear hrj hxa hxb XQ
      obtain ⟨ws, hws⟩ : ∃ ws, wr.alloc (.cells #[.int .i64 rj, .int .i64 cj, .slice Aj Lj.length capj] 49) = ws := ⟨_, rfl⟩
      have XS2 := Lib.hid (show Ext wr ws by rw [← hws]; exact ext_new _ _)
      obtain ⟨gs, hgs⟩ : ∃ gs, wr.heap.size = gs := ⟨_, rfl⟩
      obtain ⟨y0, y1, y2⟩ : Box3 ws gs (.int .i64 rj) (.int .i64 cj) (.slice Aj Lj.length capj) := by rw [← hws, ← hgs]; exact box3_new wr _ _ _ 49
      by_cases m1 : rj < 1
      · have f1 : decide (rj < 1) = true := by simpa using m1
        have hck : chkC rj cj Lj.length = 2 := if_pos (.inl m1)
        have HCK := check_any rj cj Lj Aj capj ws (XS2.out.reads HRJ.out) hcj (by omega)
        rw [hck] at HCK
        have hck1 := Lib.hid HCK
        have HB := Lib.hid hck
        clear HCK hck
        go_wp2_with fail
        refine hck1.out.mono ?_
        rintro e w20 ⟨rfl, hx20⟩
        have z0 := hx20.cell y0
        have z1 := hx20.cell y1
        have z2 := hx20.cell y2
        have XS3 := Lib.hid (Ext.trans _ _ _ XS2.out hx20)
        clear hck1
        have HMB := Lib.hid (most_bad rj cj Lj hn w20 Aj capj (XS3.out.reads HRJ.out) hcj (by omega) (by rw [HB.out]; decide))
        clear hx20
        go_wp2_with fail
        refine HMB.out.mono ?_
        rintro e w21 ⟨rfl, hx21⟩
        replace z0 := hx21.cell z0
        replace z1 := hx21.cell z1
        replace z2 := hx21.cell z2
        have XS4 := Lib.hid (Ext.trans _ _ _ XS3.out hx21)
        have HSM := Lib.hid (same_any rj cj Lj Aj capj w21 (XS4.out.reads HRJ.out) hcj (by omega))
        clear hx21 HMB
        go_wp2_with fail
        refine HSM.out.mono ?_
        rintro e w22 ⟨rfl, hx22⟩
        have XS5 := Lib.hid (Ext.trans _ _ _ XS4.out hx22)
        clear hx22 HSM
        go_wp2_with fail
        go_roundw
        case rel => exact ⟨j + 1, by omega, by go_num, Ext.trans _ _ _ XW.out XS5.out, Ext.trans _ _ _ XB.out XS5.out⟩
        case measure => simp [intOf]; omega
      have f1 : decide (rj < 1) = false := by simpa using m1
      by_cases m2 : 8 < rj
      · have f2 : decide (8 < rj) = true := by simpa using m2
        have hck : chkC rj cj Lj.length = 2 := if_pos (.inr (.inl m2))
        have HCK := check_any rj cj Lj Aj capj ws (XS2.out.reads HRJ.out) hcj (by omega)
        rw [hck] at HCK
        have hck1 := Lib.hid HCK
        have HB := Lib.hid hck
        clear HCK hck
        go_wp2_with fail
        refine hck1.out.mono ?_
        rintro e w20 ⟨rfl, hx20⟩
        have z0 := hx20.cell y0
        have z1 := hx20.cell y1
        have z2 := hx20.cell y2
        have XS3 := Lib.hid (Ext.trans _ _ _ XS2.out hx20)
        clear hck1
        have HMB := Lib.hid (most_bad rj cj Lj hn w20 Aj capj (XS3.out.reads HRJ.out) hcj (by omega) (by rw [HB.out]; decide))
        clear hx20
        go_wp2_with fail
        refine HMB.out.mono ?_
        rintro e w21 ⟨rfl, hx21⟩
        replace z0 := hx21.cell z0
        replace z1 := hx21.cell z1
        replace z2 := hx21.cell z2
        have XS4 := Lib.hid (Ext.trans _ _ _ XS3.out hx21)
        have HSM := Lib.hid (same_any rj cj Lj Aj capj w21 (XS4.out.reads HRJ.out) hcj (by omega))
        clear hx21 HMB
        go_wp2_with fail
        refine HSM.out.mono ?_
        rintro e w22 ⟨rfl, hx22⟩
        have XS5 := Lib.hid (Ext.trans _ _ _ XS4.out hx22)
        clear hx22 HSM
        go_wp2_with fail
        go_roundw
        case rel => exact ⟨j + 1, by omega, by go_num, Ext.trans _ _ _ XW.out XS5.out, Ext.trans _ _ _ XB.out XS5.out⟩
        case measure => simp [intOf]; omega
      have f2 : decide (8 < rj) = false := by simpa using m2
      by_cases m3 : cj < 1
      · have f3 : decide (cj < 1) = true := by simpa using m3
        have hck : chkC rj cj Lj.length = 2 := if_pos (.inr (.inr (.inl m3)))
        have HCK := check_any rj cj Lj Aj capj ws (XS2.out.reads HRJ.out) hcj (by omega)
        rw [hck] at HCK
        have hck1 := Lib.hid HCK
        have HB := Lib.hid hck
        clear HCK hck
        go_wp2_with fail
        refine hck1.out.mono ?_
        rintro e w20 ⟨rfl, hx20⟩
        have z0 := hx20.cell y0
        have z1 := hx20.cell y1
        have z2 := hx20.cell y2
        have XS3 := Lib.hid (Ext.trans _ _ _ XS2.out hx20)
        clear hck1
        have HMB := Lib.hid (most_bad rj cj Lj hn w20 Aj capj (XS3.out.reads HRJ.out) hcj (by omega) (by rw [HB.out]; decide))
        clear hx20
        go_wp2_with fail
        refine HMB.out.mono ?_
        rintro e w21 ⟨rfl, hx21⟩
        replace z0 := hx21.cell z0
        replace z1 := hx21.cell z1
        replace z2 := hx21.cell z2
        have XS4 := Lib.hid (Ext.trans _ _ _ XS3.out hx21)
        have HSM := Lib.hid (same_any rj cj Lj Aj capj w21 (XS4.out.reads HRJ.out) hcj (by omega))
        clear hx21 HMB
        go_wp2_with fail
        refine HSM.out.mono ?_
        rintro e w22 ⟨rfl, hx22⟩
        have XS5 := Lib.hid (Ext.trans _ _ _ XS4.out hx22)
        clear hx22 HSM
        go_wp2_with fail
        go_roundw
        case rel => exact ⟨j + 1, by omega, by go_num, Ext.trans _ _ _ XW.out XS5.out, Ext.trans _ _ _ XB.out XS5.out⟩
        case measure => simp [intOf]; omega
      have f3 : decide (cj < 1) = false := by simpa using m3
      by_cases m4 : 256 < cj
      · have f4 : decide (256 < cj) = true := by simpa using m4
        have hck : chkC rj cj Lj.length = 2 := if_pos (.inr (.inr (.inr m4)))
        have HCK := check_any rj cj Lj Aj capj ws (XS2.out.reads HRJ.out) hcj (by omega)
        rw [hck] at HCK
        have hck1 := Lib.hid HCK
        have HB := Lib.hid hck
        clear HCK hck
        go_wp2_with fail
        refine hck1.out.mono ?_
        rintro e w20 ⟨rfl, hx20⟩
        have z0 := hx20.cell y0
        have z1 := hx20.cell y1
        have z2 := hx20.cell y2
        have XS3 := Lib.hid (Ext.trans _ _ _ XS2.out hx20)
        clear hck1
        have HMB := Lib.hid (most_bad rj cj Lj hn w20 Aj capj (XS3.out.reads HRJ.out) hcj (by omega) (by rw [HB.out]; decide))
        clear hx20
        go_wp2_with fail
        refine HMB.out.mono ?_
        rintro e w21 ⟨rfl, hx21⟩
        replace z0 := hx21.cell z0
        replace z1 := hx21.cell z1
        replace z2 := hx21.cell z2
        have XS4 := Lib.hid (Ext.trans _ _ _ XS3.out hx21)
        have HSM := Lib.hid (same_any rj cj Lj Aj capj w21 (XS4.out.reads HRJ.out) hcj (by omega))
        clear hx21 HMB
        go_wp2_with fail
        refine HSM.out.mono ?_
        rintro e w22 ⟨rfl, hx22⟩
        have XS5 := Lib.hid (Ext.trans _ _ _ XS4.out hx22)
        clear hx22 HSM
        go_wp2_with fail
        go_roundw
        case rel => exact ⟨j + 1, by omega, by go_num, Ext.trans _ _ _ XW.out XS5.out, Ext.trans _ _ _ XB.out XS5.out⟩
        case measure => simp [intOf]; omega
      have f4 : decide (256 < cj) = false := by simpa using m4
      have hmul : wrap64 (rj * cj) = rj * cj := by
        have h0 : 0 ≤ rj * cj := Int.mul_nonneg (by omega) (by omega)
        have h9 : rj * cj ≤ 8 * 256 := Int.mul_le_mul (by omega) (by omega) (by omega) (by omega)
        unfold wrap64; omega
      have hch : chkC rj cj Lj.length = if (Lj.length : Int) = rj * cj then 0 else 6 := if_neg (by omega)
      obtain ⟨pj, hpj⟩ : ∃ pj, rj * cj = pj := ⟨_, rfl⟩
      rw [hpj] at hmul hch
      by_cases m5 : (Lj.length : Int) = pj
      · rw [if_pos m5] at hch
        have f5 : decide ((Lj.length : Int) = pj) = true := by simpa using m5
        have f6 : ((Lj.length : Int) != pj) = false := by simp [m5]
        have HCH := Lib.hid hch
        clear hch m5
        have hck : chkC rj cj Lj.length = 0 := HCH.out
        have HCK := check_any rj cj Lj Aj capj ws (XS2.out.reads HRJ.out) hcj (by omega)
        rw [hck] at HCK
        have hck1 := Lib.hid HCK
        have HB := Lib.hid hck
        clear HCK hck
        go_wp2_with fail
        refine hck1.out.mono ?_
        rintro e w20 ⟨rfl, hx20⟩
        have z0 := hx20.cell y0
        have z1 := hx20.cell y1
        have z2 := hx20.cell y2
        have XS3 := Lib.hid (Ext.trans _ _ _ XS2.out hx20)
        clear hck1
        have XS4 := XS3
        have HSM := Lib.hid (same_any rj cj Lj Aj capj w20 (XS4.out.reads HRJ.out) hcj (by omega))
        clear hx20
        go_wp2_with fail
        refine HSM.out.mono ?_
        rintro e w22 ⟨rfl, hx22⟩
        have XS5 := Lib.hid (Ext.trans _ _ _ XS4.out hx22)
        clear hx22 HSM
        go_wp2_with fail
        go_roundw
        case rel => exact ⟨j + 1, by omega, by go_num, Ext.trans _ _ _ XW.out XS5.out, Ext.trans _ _ _ XB.out XS5.out⟩
        case measure => simp [intOf]; omega
      · rw [if_neg m5] at hch
        have f5 : decide ((Lj.length : Int) = pj) = false := by simpa using m5
        have f6 : ((Lj.length : Int) != pj) = true := by simpa using m5
        have HCH := Lib.hid hch
        clear hch
        have hck : chkC rj cj Lj.length = 6 := HCH.out
        have HCK := check_any rj cj Lj Aj capj ws (XS2.out.reads HRJ.out) hcj (by omega)
        rw [hck] at HCK
        have hck1 := Lib.hid HCK
        have HB := Lib.hid hck
        clear HCK hck
        go_wp2_with fail
        refine hck1.out.mono ?_
        rintro e w20 ⟨rfl, hx20⟩
        have z0 := hx20.cell y0
        have z1 := hx20.cell y1
        have z2 := hx20.cell y2
        have XS3 := Lib.hid (Ext.trans _ _ _ XS2.out hx20)
        clear hck1
        have HMB := Lib.hid (most_bad rj cj Lj hn w20 Aj capj (XS3.out.reads HRJ.out) hcj (by omega) (by rw [HB.out]; decide))
        clear hx20
        go_wp2_with fail
        refine HMB.out.mono ?_
        rintro e w21 ⟨rfl, hx21⟩
        replace z0 := hx21.cell z0
        replace z1 := hx21.cell z1
        replace z2 := hx21.cell z2
        have XS4 := Lib.hid (Ext.trans _ _ _ XS3.out hx21)
        have HSM := Lib.hid (same_any rj cj Lj Aj capj w21 (XS4.out.reads HRJ.out) hcj (by omega))
        clear hx21 HMB
        go_wp2_with fail
        refine HSM.out.mono ?_
        rintro e w22 ⟨rfl, hx22⟩
        have XS5 := Lib.hid (Ext.trans _ _ _ XS4.out hx22)
        clear hx22 HSM
        go_wp2_with fail
        go_roundw
        case rel => exact ⟨j + 1, by omega, by go_num, Ext.trans _ _ _ XW.out XS5.out, Ext.trans _ _ _ XB.out XS5.out⟩
        case measure => simp [intOf]; omega
    · obtain rfl : j = 4 := by omega
      have HS := same_len R C (List.replicate n 0) (List.replicate (n - 1) 0) (some ⟨bu, ou, none⟩) Av capu (capu - 1) wr (XB.out.reads HUq.out) (by simpa using huc) (XB.out.reads HVq.out) (by simp; omega) (by simp; omega) (by simp; omega) (by simp; omega)
      rw [List.length_replicate, List.length_replicate] at HS
      have HS1 := Lib.hid HS
      have HNE := Lib.hid (show List.replicate n (0 : Int) ≠ (List.replicate n 0).set i 1 from fun e => by
        have := congrArg (fun l => l[i]?) e
        simp [List.getElem?_replicate, List.getElem?_set, hin] at this)
      obtain ⟨u0, u1, u2⟩ := D13.out.ext XB.out
      obtain ⟨v0, v1, v2⟩ := D15.out.ext XB.out
      clear HS hxa hxb HEL hj hj2 XQ a0 a1 a2 b0 b1 b2 c0' c1' c2' d0 d1' d2 hwq hgq
      by_cases m1 : 1 ≤ rows
      case neg =>
        have f1 : decide (1 ≤ rows) = false := by simpa using m1
        have hok : okN rows cols = false := decide_eq_false (fun q => m1 q.1)
        go_wp2_with fail
        refine HS1.out.mono ?_
        rintro e w30 ⟨rfl, hx30⟩
        have HS2 := same_ne (R := R) (C := C) (List.replicate n 0) ((List.replicate n 0).set i 1) (some ⟨bu, ou, none⟩) (some ⟨gr, 0, none⟩) capu c' w30 (hx30.reads (XB.out.reads HUq.out)) (by simpa using huc) (hx30.reads (XB.out.reads HWq.out)) (by simpa using hnc9) (by simp; omega) (by rw [List.length_replicate, HN.out]) (by rw [List.length_set, List.length_replicate, HN.out]) HNE.out
        rw [List.length_set, List.length_replicate] at HS2
        have HS3 := Lib.hid HS2
        have k16 := D16.out.ext (Ext.trans _ _ _ XB.out hx30)
        have k13 := D13.out.ext (Ext.trans _ _ _ XB.out hx30)
        obtain ⟨z0, z1, z2⟩ := k16
        obtain ⟨x0, x1, x2⟩ := k13
        have X30 := Lib.hid (Ext.trans _ _ _ XW.out hx30)
        clear HS1 HS2 hx30 u0 u1 u2 v0 v1 v2
        go_wp2_with fail
        refine HS3.out.mono ?_
        rintro e w31 ⟨rfl, hx31⟩
        go_wp2_with fail
        go_ret
        exact ⟨rfl, Ext.trans _ _ _ X30.out hx31⟩
      have f1 : decide (1 ≤ rows) = true := by simpa using m1
      by_cases m2 : rows ≤ 8
      case neg =>
        have f2 : decide (rows ≤ 8) = false := by simpa using m2
        have hok : okN rows cols = false := decide_eq_false (fun q => m2 q.2.1)
        go_wp2_with fail
        refine HS1.out.mono ?_
        rintro e w30 ⟨rfl, hx30⟩
        have HS2 := same_ne (R := R) (C := C) (List.replicate n 0) ((List.replicate n 0).set i 1) (some ⟨bu, ou, none⟩) (some ⟨gr, 0, none⟩) capu c' w30 (hx30.reads (XB.out.reads HUq.out)) (by simpa using huc) (hx30.reads (XB.out.reads HWq.out)) (by simpa using hnc9) (by simp; omega) (by rw [List.length_replicate, HN.out]) (by rw [List.length_set, List.length_replicate, HN.out]) HNE.out
        rw [List.length_set, List.length_replicate] at HS2
        have HS3 := Lib.hid HS2
        have k16 := D16.out.ext (Ext.trans _ _ _ XB.out hx30)
        have k13 := D13.out.ext (Ext.trans _ _ _ XB.out hx30)
        obtain ⟨z0, z1, z2⟩ := k16
        obtain ⟨x0, x1, x2⟩ := k13
        have X30 := Lib.hid (Ext.trans _ _ _ XW.out hx30)
        clear HS1 HS2 hx30 u0 u1 u2 v0 v1 v2
        go_wp2_with fail
        refine HS3.out.mono ?_
        rintro e w31 ⟨rfl, hx31⟩
        go_wp2_with fail
        go_ret
        exact ⟨rfl, Ext.trans _ _ _ X30.out hx31⟩
      have f2 : decide (rows ≤ 8) = true := by simpa using m2
      by_cases m3 : 1 ≤ cols
      case neg =>
        have f3 : decide (1 ≤ cols) = false := by simpa using m3
        have hok : okN rows cols = false := decide_eq_false (fun q => m3 q.2.2.1)
        go_wp2_with fail
        refine HS1.out.mono ?_
        rintro e w30 ⟨rfl, hx30⟩
        have HS2 := same_ne (R := R) (C := C) (List.replicate n 0) ((List.replicate n 0).set i 1) (some ⟨bu, ou, none⟩) (some ⟨gr, 0, none⟩) capu c' w30 (hx30.reads (XB.out.reads HUq.out)) (by simpa using huc) (hx30.reads (XB.out.reads HWq.out)) (by simpa using hnc9) (by simp; omega) (by rw [List.length_replicate, HN.out]) (by rw [List.length_set, List.length_replicate, HN.out]) HNE.out
        rw [List.length_set, List.length_replicate] at HS2
        have HS3 := Lib.hid HS2
        have k16 := D16.out.ext (Ext.trans _ _ _ XB.out hx30)
        have k13 := D13.out.ext (Ext.trans _ _ _ XB.out hx30)
        obtain ⟨z0, z1, z2⟩ := k16
        obtain ⟨x0, x1, x2⟩ := k13
        have X30 := Lib.hid (Ext.trans _ _ _ XW.out hx30)
        clear HS1 HS2 hx30 u0 u1 u2 v0 v1 v2
        go_wp2_with fail
        refine HS3.out.mono ?_
        rintro e w31 ⟨rfl, hx31⟩
        go_wp2_with fail
        go_ret
        exact ⟨rfl, Ext.trans _ _ _ X30.out hx31⟩
      have f3 : decide (1 ≤ cols) = true := by simpa using m3
      by_cases m4 : cols ≤ 256
      case neg =>
        have f4 : decide (cols ≤ 256) = false := by simpa using m4
        have hok : okN rows cols = false := decide_eq_false (fun q => m4 q.2.2.2)
        go_wp2_with fail
        refine HS1.out.mono ?_
        rintro e w30 ⟨rfl, hx30⟩
        have HS2 := same_ne (R := R) (C := C) (List.replicate n 0) ((List.replicate n 0).set i 1) (some ⟨bu, ou, none⟩) (some ⟨gr, 0, none⟩) capu c' w30 (hx30.reads (XB.out.reads HUq.out)) (by simpa using huc) (hx30.reads (XB.out.reads HWq.out)) (by simpa using hnc9) (by simp; omega) (by rw [List.length_replicate, HN.out]) (by rw [List.length_set, List.length_replicate, HN.out]) HNE.out
        rw [List.length_set, List.length_replicate] at HS2
        have HS3 := Lib.hid HS2
        have k16 := D16.out.ext (Ext.trans _ _ _ XB.out hx30)
        have k13 := D13.out.ext (Ext.trans _ _ _ XB.out hx30)
        obtain ⟨z0, z1, z2⟩ := k16
        obtain ⟨x0, x1, x2⟩ := k13
        have X30 := Lib.hid (Ext.trans _ _ _ XW.out hx30)
        clear HS1 HS2 hx30 u0 u1 u2 v0 v1 v2
        go_wp2_with fail
        refine HS3.out.mono ?_
        rintro e w31 ⟨rfl, hx31⟩
        go_wp2_with fail
        go_ret
        exact ⟨rfl, Ext.trans _ _ _ X30.out hx31⟩
      have f4 : decide (cols ≤ 256) = true := by simpa using m4
      have hok : okN rows cols = true := decide_eq_true ⟨m1, m2, m3, m4⟩
      go_wp2_with fail
      refine HS1.out.mono ?_
      rintro e w30 ⟨rfl, hx30⟩
      have HS2 := same_ne (R := R) (C := C) (List.replicate n 0) ((List.replicate n 0).set i 1) (some ⟨bu, ou, none⟩) (some ⟨gr, 0, none⟩) capu c' w30 (hx30.reads (XB.out.reads HUq.out)) (by simpa using huc) (hx30.reads (XB.out.reads HWq.out)) (by simpa using hnc9) (by simp; omega) (by rw [List.length_replicate, HN.out]) (by rw [List.length_set, List.length_replicate, HN.out]) HNE.out
      rw [List.length_set, List.length_replicate] at HS2
      have HS3 := Lib.hid HS2
      have k16 := D16.out.ext (Ext.trans _ _ _ XB.out hx30)
      have k13 := D13.out.ext (Ext.trans _ _ _ XB.out hx30)
      obtain ⟨z0, z1, z2⟩ := k16
      obtain ⟨x0, x1, x2⟩ := k13
      have X30 := Lib.hid (Ext.trans _ _ _ XW.out hx30)
      clear HS1 HS2 hx30 u0 u1 u2 v0 v1 v2
      go_wp2_with fail
      refine HS3.out.mono ?_
      rintro e w31 ⟨rfl, hx31⟩
      go_wp2_with fail
      go_ret
      exact ⟨rfl, Ext.trans _ _ _ X30.out hx31⟩
end Go.Proofs.Ythemincohmgihaa.PCmsMerges
