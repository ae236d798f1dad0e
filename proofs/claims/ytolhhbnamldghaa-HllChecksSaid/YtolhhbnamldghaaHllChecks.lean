/- P13.1: any: whether it may be one: at every input, without conditions. -/
import Derived.Test.YtolhhbnamldghaaHllChk
import Derived.Test.YtolhhbnamldghaaAwk13
import Derived.Test.YtolhhbnamldghaaRelyC
namespace Go.Proofs.Ytolhhbnamldghaa.HllC
open Go Go.RowKit Go.Proofs.YtolhhbnamldghaaW.PrintWords Go.Proofs.Ytolhhbnamldghaa.Own Go.Proofs.Ytolhhbnamldghaa.Rely
attribute [local go_sem] min_ints max_ints

set_option maxHeartbeats 16000000 in
set_option maxRecDepth 20000 in
theorem checks_wf (p0 : Int) (A0 : Option Addr) (cap0 : Nat) (L0 : List Int) (p : Int) (small : Int) (at_ : Int) (by_ : Int) (w : World) (hp0 : (Lit.int .i64 p0).wf = true) (hA : ArgI w .u8 A0 cap0 L0)
    (hp : (Lit.int .i64 p).wf = true) (hsm : (Lit.int .u8 small).wf = true) (hat : (Lit.int .u16 at_).wf = true) (hby : (Lit.int .u8 by_).wf = true) :
    Calls Try.prog 4 #[.agg #[.int .i64 p0, .slice A0 L0.length cap0], .int .i64 p, .int .u8 small, .int .u16 at_, .int .u8 by_] w fun e w' => e = .returned (.bool true) ∧ Below w.heap.size w w' := by
  have qsm := wf_u8 hsm
  have qat := wf_u16 hat
  have qby := wf_u8 hby
  obtain ⟨an, rfl⟩ : ∃ n : Nat, small = (n : Int) := ⟨small.toNat, by omega⟩
  obtain ⟨tn, rfl⟩ : ∃ n : Nat, at_ = (n : Int) := ⟨at_.toNat, by omega⟩
  have HA := Lib.hid hA.reads
  have HAB := Lib.hid (show IsBytes L0 from fun x hx => wf_u8 (hA.rng x hx))
  have hle0 := hA.le
  clear hp0 hA hp hsm hat hby
  go_enter Try.func4, Try.ntmps4
  obtain ⟨w1, hw1⟩ : ∃ w1, w.alloc (.cells #[.int .i64 p0, .slice A0 L0.length cap0] 35) = w1 := ⟨_, rfl⟩
  obtain ⟨g5, hg5⟩ : ∃ g, w.heap.size = g := ⟨_, rfl⟩
  have B5 := Lib.hid (show Box2 w1 g5 (.int .i64 p0) (.slice A0 L0.length cap0) by rw [← hw1, ← hg5]; exact box2_new w _ _ 35)
  have X1 := Lib.hid (show Ext w w1 by rw [← hw1]; exact ext_new _ _)
  go_wp2_with fail
  clear hw1 hg5
  refine (Hll.awake_c w1).mono ?_
  rintro e w2 ⟨rfl, hd2⟩
  have hx2 : Ext w1 w2 := hd2
  have B5' := Lib.hid (B5.out.ext hx2)
  have X2 := Lib.hid (Ext.trans _ _ _ X1.out hx2)
  clear hx2 hd2 B5 X1
  obtain ⟨b0, b1⟩ := B5'.out
  by_cases hl : 300 < L0.length
  · have d1 : decide ((300 : Int) < (L0.length : Int)) = true := by rw [decide_eq_true_iff]; omega
    go_wp2_with fail
    go_ret
    exact ⟨rfl, X2.out⟩
  have d1 : decide ((300 : Int) < (L0.length : Int)) = false := by rw [decide_eq_false_iff_not]; omega
  go_wp2_with fail
  refine (new_any p w2).mono ?_
  rintro e w3 ⟨rt, nt, At, capt, rfl, htl, htc, htr, hx3, -⟩
  have B5 := Lib.hid (B5'.out.ext hx3)
  have X3 := Lib.hid (Ext.trans _ _ _ X2.out hx3)
  have HA3 := Lib.hid (X3.out.reads HA.out)
  have HT3 := Lib.hid htr
  clear htr hx3 b0 b1 B5' X2 HA
  obtain ⟨w4, hw4⟩ : ∃ w4, w3.alloc (.cells #[.int .i64 rt, .slice At nt capt] 35) = w4 := ⟨_, rfl⟩
  have hx4 : Ext w3 w4 := by rw [← hw4]; exact ext_new _ _
  have X4 := Lib.hid (Ext.trans _ _ _ X3.out hx4)
  have B5' := Lib.hid (B5.out.ext hx4)
  have HA4 := Lib.hid (hx4.reads HA3.out)
  have HT4 := Lib.hid (hx4.reads HT3.out)
  obtain ⟨g12, hg12⟩ : ∃ g, w3.heap.size = g := ⟨_, rfl⟩
  have B12 := Lib.hid (show Box2 w4 g12 (.int .i64 rt) (.slice At nt capt) by rw [← hw4, ← hg12]; exact box2_new w3 _ _ 35)
  clear hx4 HA3 HT3 B5 X3
  have hm5 : (an : Int).tmod 5 = ((an % 5 : Nat) : Int) := by rw [Int.tmod_eq_emod_of_nonneg (by omega)]; rfl
  obtain ⟨P, hP⟩ : ∃ P, 4 + an % 5 = P := ⟨_, rfl⟩
  have hPi : (4 : Int) + (an : Int) % 5 = (P : Int) := by omega
  have P4 : 4 ≤ P := by omega
  have P8 : P ≤ 8 := by omega
  clear hP
  go_wp2_with fail
  clear hw4 hm5 hPi
  refine (new_any P w4).mono ?_
  rintro e w5 ⟨rp, n, Au, capu, rfl, hun, huc, hur, hx5, hok⟩
  have hokP : okP (P : Int) = true := decide_eq_true (by omega)
  obtain ⟨hrp, hnp⟩ := hok hokP
  subst hrp
  have hn16 : 16 ≤ n := by have := (pow_p (p := (P : Int)) (by omega) (by omega)).1; omega
  clear hok hnp
  rw [hokP]
  have X5 := Lib.hid (Ext.trans _ _ _ X4.out hx5)
  have HA5 := Lib.hid (hx5.reads HA4.out)
  have HT5 := Lib.hid (hx5.reads HT4.out)
  have B5 := Lib.hid (B5'.out.ext hx5)
  have B12' := Lib.hid (B12.out.ext hx5)
  clear hx5 X4 HA4 HT4 B5' B12 hokP
  obtain ⟨w6, hw6⟩ : ∃ w6, w5.alloc (.cells #[.int .i64 P, .slice Au n capu] 35) = w6 := ⟨_, rfl⟩
  have hx6 : Ext w5 w6 := by rw [← hw6]; exact ext_new _ _
  obtain ⟨g14, hg14⟩ : ∃ g, w5.heap.size = g := ⟨_, rfl⟩
  have B14 := Lib.hid (show Box2 w6 g14 (.int .i64 P) (.slice Au n capu) by rw [← hw6, ← hg14]; exact box2_new w5 _ _ 35)
  obtain ⟨b0, b1⟩ := B14.out
  obtain ⟨w7, hw7⟩ : ∃ w7, w6.alloc (.cells #[.int .i64 P, .slice Au n capu] 35) = w7 := ⟨_, rfl⟩
  have hx7 : Ext w6 w7 := by rw [← hw7]; exact ext_new _ _
  obtain ⟨g16, hg16⟩ : ∃ g, w6.heap.size = g := ⟨_, rfl⟩
  have B16 := Lib.hid (show Blk g16 #[.int .i64 P, .slice Au n capu] 35 w7 (fun q => q = g16) by
    rw [← hw7, ← hg16]; exact ⟨heap_alloc_new w6 _, fun _ => Iff.rfl⟩)
  obtain ⟨w8, hw8⟩ : ∃ w8, w7.alloc (.cells #[] 5) = w8 := ⟨_, rfl⟩
  have hx8 : Ext w7 w8 := by rw [← hw8]; exact ext_new _ _
  have hx58 : Ext w5 w8 := Ext.trans _ _ _ hx6 (Ext.trans _ _ _ hx7 hx8)
  have EX58 := Lib.hid hx58
  have hwg : w.heap.size ≤ w5.heap.size := X5.out.size
  have HU5 := Lib.hid hur
  have HU8 := Lib.hid (hx58.reads hur)
  have B14' := Lib.hid (B14.out.ext (Ext.trans _ _ _ hx7 hx8))
  have B16' := Lib.hid (Ext.keep (Lcl.blk _ _ _) hx8 B16.out)
  obtain ⟨b2, b3⟩ := B14'.out
  have h14lt : g14 < g16 := by rw [← hg16]; exact World.block_lt_of_cell? _ _ B14.out.1
  have h58 : w5.heap.size ≤ g16 := by rw [← hg16]; exact hx6.size
  have h16lt : g16 < w8.heap.size := World.block_lt_of_cell? _ _ (B16'.out.cell 0)
  clear hx6 hx7 hx8 hx58 hur B14 B16
  have dn : decide ((n : Int) = 0) = false := by rw [decide_eq_false_iff_not]; omega
  have dnb : ((n : Int) == 0) = false := by rw [beq_eq_false_iff_ne]; omega
  have dnn : decide (n = 0) = false := by rw [decide_eq_false_iff_not]; omega
  have dnnb : (n == 0) = false := by rw [beq_eq_false_iff_ne]; omega
  obtain ⟨n0, hn0⟩ : ∃ n0, w8.heap.size = n0 := ⟨_, rfl⟩
  have HN0 := Lib.hid hn0
  obtain ⟨bu, ou, rfl, hub, hu0⟩ := HU8.out.at (show 0 < (List.replicate n (0 : Int)).length by simp; omega)
  have HS := Lib.hid (src_reads HU8.out)
  clear hn0 hub hu0
  go_wp2_with (at_builtin; go_loud (refine Lit.lit_append _ rfl _ _ 23 rfl 5 .u8 1 Try.underlying23 info_u8 (by decide) ⟨w7.heap.size, 0, none⟩ (List.replicate n 0) (some ⟨bu, ou, none⟩) n capu n0 rfl rfl (by rw [List.length_replicate]) (by rw [List.length_replicate]; omega) HS.out (by rw [List.length_replicate]; omega) (by rw [← HN0.out]; exact Nat.le_refl _) ?_); go_loud (intro cap cs hcap hfr); go_loud (rw [List.length_replicate] at hfr ⊢); go_loud (have HFR := Lib.hid hfr); go_loud (clear hfr); go_loud (obtain ⟨wA, hwA⟩ : ∃ wA, w8.drew.alloc (.cells cs 5 (0, 0)) = wA := ⟨_, rfl⟩); go_loud (have hxA : Ext w8 wA := by (rw [← hwA]; exact Ext.undrew (ext_new w8.drew _))); go_loud (rw [hwA] at HFR ⊢); go_loud (have BA := Lib.hid (Ext.keep (Lcl.blk _ _ _) hxA B16'.out)); go_loud (have k1 := BA.out.cell 1); go_loud (have f1 := BA.out.free 1); go_loud (simp only [List.getElem?_toArray, List.getElem?_cons_zero, List.getElem?_cons_succ] at k1); go_loud (have XA := Lib.hid hxA); go_loud (clear hxA hwA))
  have hx5A : Ext w5 wA := Ext.trans _ _ _ EX58.out XA.out
  have hset := Blk.set BA.out 1 (.slice (some ⟨w8.heap.size, 0, none⟩) n cap)
  obtain ⟨w9, hw9⟩ : ∃ w9, wA.setCell ⟨g16, 1, none⟩ (.slice (some ⟨w8.heap.size, 0, none⟩) n cap) = w9 := ⟨_, rfl⟩
  rw [hw9] at hset ⊢
  have hk9 : Keep (fun q => q = g16) wA w9 := hset.2.keep
  have hf9 := HFR.out.keep hk9 BA.out.1 (by decide)
  have hx59 : Ext w5 w9 := ext_keep hx5A h58 hk9
  obtain ⟨z0, z1⟩ := B14'.out.ext XA.out
  have B14 := Lib.hid (show Box2 w9 g14 (.int .i64 P) (.slice (some ⟨bu, ou, none⟩) n capu) from ⟨hk9.cell z0 (show ¬ g14 = g16 by omega), hk9.cell z1 (show ¬ g14 = g16 by omega)⟩)
  have B16 := Lib.hid (show Box2 w9 g16 (.int .i64 P) (.slice (some ⟨w8.heap.size, 0, none⟩) n cap) by
    have q0 := hset.1.cell 0
    have q1 := hset.1.cell 1
    exact ⟨by simpa using q0, by simpa using q1⟩)
  have X59 := Lib.hid hx59
  have h89 : w8.heap.size ≤ w9.heap.size := Nat.le_trans XA.out.size hk9.size
  have h5gr : w5.heap.size ≤ w8.heap.size := EX58.out.size
  obtain ⟨gr, hgr⟩ : ∃ gr, w8.heap.size = gr := ⟨_, rfl⟩
  rw [hgr] at hf9 B16 h16lt h89 h5gr ⊢
  obtain ⟨S9, hrow9, hS9⟩ := hf9
  have HROW9 := Lib.hid (show Row 5 .u8 (.slice (some ⟨gr, 0, none⟩) n cap) (List.replicate n 0) w9 (fun q => q = gr) from ⟨hrow9.1, fun b => by simp [Value.ownBlock, eq_comm]⟩)
  have hnc9 : n ≤ cap := by simpa using hcap
  have h14r : g14 ≠ gr := by omega
  have h16r : g16 ≠ gr := by omega
  clear hrow9 hS9 hset hw9 hk9 hx59 hx5A z0 z1 HFR BA k1 f1 XA EX58 B14' B16' HS HN0 HU8 b0 b1 b2 b3 hw6 hw7 hw8 hg14 hg16 hg12 hcap hgr
  obtain ⟨i, hi⟩ : ∃ i, tn % n = i := ⟨_, rfl⟩
  have hin : i < n := by rw [← hi]; exact Nat.mod_lt _ (by omega)
  have q1 : (tn : Int).tmod (n : Int) = (i : Int) := by rw [Int.tmod_eq_emod_of_nonneg (by omega), ← hi]; rfl
  have q2 : (tn : Int) % (n : Int) = (i : Int) := by rw [← hi]; rfl
  clear hi
  have c9 : w9.cell? ⟨gr, i, none⟩ = some (.int .u8 0) := by
    have := (HROW9.out).cell (i := i) (by rw [List.length_replicate]; exact hin)
    rw [this]; simp [List.getD_eq_getElem?_getD, List.getElem?_replicate, hin]
  have hin2 : (i : Int) < (n : Int) := by omega
  refine wp_region_next (by kernel_rfl) ?_
  refine next_win 0 10 Ext Ext 999 0 (fun _ _ h => h) Ext.refl Ext.trans Ext.refl Ext.trans [[(16, none)], [(49, some 0)], [(3, none)], [(51, some 2)], [(16, none)], [(53, some 4)], [(54, some 5)], [(52, some 3), (55, some 6)], [(4, none)], [(50, some 1), (56, some 7)]] [some 49, some 50, some 51, some 52, some 53, some 54, some 55, some 56, some 57, some 58] (by kernel_rfl) (by kernel_rfl) (by kernel_rfl) (by kernel_rfl) ?_
  intro Nx hNx
  -- 0: slot 49 := Op.fieldAddr 35 (t16) 1
  apply relyD_const (by decide) (by decide); case h => (intro wr hR a' h16 K hK; go_wp2_with fail; exact Ext.refl _)
  -- 1: slot 50 := Op.load 23 (t49)
  apply relyD_const (by decide) (by decide); case h => (intro wr hR a' h49 K hK; obtain ⟨k0, k1⟩ := B16.out.ext hR.undrew; go_wp2_with fail; exact Ext.refl _)
  -- 2: slot 51 := Op.move (t3)
  apply relyD_const (by decide) (by decide); case h => (intro wr hR a' h3 K hK; go_wp2_with fail; exact Ext.refl _)
  -- 3: slot 52 := Op.convert 36 3 (t51)
  apply relyD_const (by decide) (by decide); case h => (intro wr hR a' h51 K hK; go_wp2_with fail; exact Ext.refl _)
  -- 4: slot 53 := Op.fieldAddr 35 (t16) 1
  apply relyD_const (by decide) (by decide); case h => (intro wr hR a' h16 K hK; go_wp2_with fail; exact Ext.refl _)
  -- 5: slot 54 := Op.load 23 (t53)
  apply relyD_const (by decide) (by decide); case h => (intro wr hR a' h53 K hK; obtain ⟨k0, k1⟩ := B16.out.ext hR.undrew; go_wp2_with fail; exact Ext.refl _)
  -- 6: slot 55 := Op.call { callee := Callee.builtin Builtin.len, args := #[t54], argTypes := #[23] }
  apply relyD_const (by decide) (by decide); case h => (intro wr hR a' h54 K hK; go_wp2_with fail; exact Ext.refl _)
  -- 7: slot 56 := Op.binOp BinOp.rem 3 (t52) (t55) 3
  apply relyD_const (by decide) (by decide); case h => (intro wr hR a' h52 h55 K hK; go_wp2_with fail; exact Ext.refl _)
  -- 8: slot 57 := Op.move (t4)
  apply relyD_const (by decide) (by decide); case h => (intro wr hR a' h4 K hK; go_wp2_with fail; exact Ext.refl _)
  -- 9: slot 58 := Op.indexAddr 23 (t50) (t56)
  apply relyD_const (by decide) (by decide); case h => (intro wr hR a' h50 h56 K hK; go_wp2_with fail; exact Ext.refl _)
  refine relyD_end ?_
  intro wr hR
  simp only [had, List.take_succ_cons, List.take_zero, List.map_cons, List.map_nil, List.cons_append, List.nil_append, ends, Act.put, List.setIfInBounds_toArray, List.set_cons_zero, List.set_cons_succ]
  refine hNx _ _ ?_
  have hx10 : Ext w9 wr := hR.undrew
  have hrowr := Ext.keep (Lcl.row _ _ _ _) hx10 HROW9.out
  have hs10 := Row.set hrowr i by_
  obtain ⟨w10, hw10⟩ : ∃ w10, wr.setCell ⟨gr, i, none⟩ (.int .u8 by_) = w10 := ⟨_, rfl⟩
  rw [hw10] at hs10
  have hk10 : Keep (fun q => q = gr) wr w10 := hs10.2.keep
  have X5a := Lib.hid (ext_keep (Ext.trans _ _ _ X59.out hx10) h5gr hk10)
  have kc := hx10.cell c9
  have kf := hrowr.free i
  have HW10 := Lib.hid hw10
  obtain ⟨z0, z1⟩ := B14.out.ext hx10
  obtain ⟨z2, z3⟩ := B16.out.ext hx10
  have C14 := Lib.hid (show Box2 w10 g14 (.int .i64 P) (.slice (some ⟨bu, ou, none⟩) n capu) from ⟨hk10.cell z0 h14r, hk10.cell z1 h14r⟩)
  have C16 := Lib.hid (show Box2 w10 g16 (.int .i64 P) (.slice (some ⟨gr, 0, none⟩) n cap) from ⟨hk10.cell z2 h16r, hk10.cell z3 h16r⟩)
  have HV10 := Lib.hid (show Reads w10 .u8 (some ⟨gr, 0, none⟩) ((List.replicate n 0).set i by_) from Row.readsAt hs10.1)
  clear hs10 hk10 hx10 hrowr hR hw10 z0 z1 z2 z3 B14 B16 X59 HROW9 c9 q1 q2
  refine next_win 10 11 (fun a b => a = b) (OneW wr w10) 10 1023 (fun _ _ h => .inl h) (fun _ => rfl) (fun _ _ _ h k => h.trans k) (OneW.refl _ _) (OneW.trans _ _) [[(58, none), (57, none)]] [none, none, none, none, none, none, none, none, none, none, none] (by kernel_rfl) (by kernel_rfl) (by kernel_rfl) (by kernel_rfl) ?_
  intro Ny hNy
  refine relyD_the rfl (fun _ w => w = w10) (fun v w w' h r => r.end_ h) ?h13 ?_
  case h13 =>
    rintro w' rfl a' h58 h57 K hK
    have HK := Lib.hid (hK undef w10 (.inr ⟨rfl, rfl⟩) rfl)
    rw [← HW10.out] at HK
    clear hK
    go_wp2_with fail
    exact HK.out
  refine relyD_end ?_
  intro wz hR
  simp only [had, List.take_succ_cons, List.take_zero, List.map_cons, List.map_nil, List.cons_append, List.nil_append, ends, Act.put, List.setIfInBounds_toArray, List.set_cons_zero, List.set_cons_succ]
  rintro v9 hwz
  obtain rfl := hwz.symm
  refine hNy _ _ ?_
  clear hR hwz HW10 kc kf hNx
  refine next_done rfl ?_
  try simp only [Act.put, List.setIfInBounds_toArray, List.set_cons_zero, List.set_cons_succ]
  clear hNy
  obtain ⟨w11, hw11⟩ : ∃ w11, w10.alloc (.cells #[.int .i64 P, .slice (some ⟨bu, ou, none⟩) n capu] 35) = w11 := ⟨_, rfl⟩
  have hx11 : Ext w10 w11 := by rw [← hw11]; exact ext_new _ _
  obtain ⟨g17, hg17⟩ : ∃ g, w10.heap.size = g := ⟨_, rfl⟩
  have hb17 : Blk g17 #[.int .i64 P, .slice (some ⟨bu, ou, none⟩) n capu] 35 w11 (fun q => q = g17) := by
    rw [← hw11, ← hg17]; exact ⟨heap_alloc_new w10 _, fun _ => Iff.rfl⟩
  have k17 := hb17.cell 1
  have f17 := hb17.free 1
  simp only [List.getElem?_toArray, List.getElem?_cons_zero, List.getElem?_cons_succ] at k17
  have hset := Blk.set hb17 1 (.slice (some ⟨bu, ou + 1, none⟩) (n - 1) (capu - 1))
  obtain ⟨w12, hw12⟩ : ∃ w12, w11.setCell ⟨g17, 1, none⟩ (.slice (some ⟨bu, ou + 1, none⟩) (n - 1) (capu - 1)) = w12 := ⟨_, rfl⟩
  rw [hw12] at hset
  have hk12 : Keep (fun q => q = g17) w11 w12 := hset.2.keep
  have h14lt17 : g14 < g17 := by rw [← hg17]; exact World.block_lt_of_cell? _ _ C14.out.1
  have h16lt17 : g16 < g17 := by rw [← hg17]; exact World.block_lt_of_cell? _ _ C16.out.1
  have hx512 : Ext w5 w12 := ext_keep (Ext.trans _ _ _ X5a.out hx11) (by rw [← hg17]; exact X5a.out.size) hk12
  have hx1012 : Ext w10 w12 := ext_keep hx11 (by rw [← hg17]; exact Nat.le_refl _) hk12
  have XW12 := Lib.hid (Ext.trans _ _ _ X5.out hx512)
  obtain ⟨a0, a1⟩ := B5.out.ext hx512
  obtain ⟨b0, b1⟩ := B12'.out.ext hx512
  obtain ⟨c0, c1⟩ := C14.out.ext hx1012
  obtain ⟨d0, d1'⟩ := C16.out.ext hx1012
  obtain ⟨y0, y1⟩ := C14.out
  obtain ⟨y2, y3⟩ := C14.out.ext hx11
  have e0 := hset.1.cell 0
  have e1 := hset.1.cell 1
  simp at e0 e1
  have HA12 := Lib.hid (hx512.reads HA5.out)
  have HT12 := Lib.hid (hx512.reads HT5.out)
  have HU12 := Lib.hid (hx512.reads HU5.out)
  have HV12 := Lib.hid (hx1012.reads HV10.out)
  have HW12 := Lib.hid (reads_tail HU12.out)
  clear hset hk12 hb17 hx11 hx512 hx1012 HA5 HT5 HU5 HV10 B5 B12' X5 X5a
  obtain ⟨wq, hwq⟩ : ∃ wq, w12.alloc (.cells #[.int .i64 p0, .slice A0 L0.length cap0, .int .i64 rt, .slice At nt capt, .int .i64 P, .slice (some ⟨bu, ou, none⟩) n capu, .int .i64 P, .slice (some ⟨gr, 0, none⟩) n cap, .int .i64 P, .slice (some ⟨bu, ou + 1, none⟩) (n - 1) (capu - 1)] 35) = wq := ⟨_, rfl⟩
  have hxq : Ext w12 wq := by rw [← hwq]; exact ext_new _ _
  have hbq := heap_alloc_new w12 (.cells #[.int .i64 p0, .slice A0 L0.length cap0, .int .i64 rt, .slice At nt capt, .int .i64 P, .slice (some ⟨bu, ou, none⟩) n capu, .int .i64 P, .slice (some ⟨gr, 0, none⟩) n cap, .int .i64 P, .slice (some ⟨bu, ou + 1, none⟩) (n - 1) (capu - 1)] 35)
  rw [hwq] at hbq
  obtain ⟨gq, hgq⟩ : ∃ gq, w12.heap.size = gq := ⟨_, rfl⟩
  rw [hgq] at hbq
  have HEL := Lib.hid (show ∀ j, j < 5 → ∃ rj Aj Lj capj, wq.cell? ⟨gq, j * 2, none⟩ = some (.int .i64 rj) ∧ wq.cell? ⟨gq, j * 2 + 1, none⟩ = some (.slice Aj (List.length Lj) capj) ∧ Reads wq .u8 Aj Lj ∧ Lj.length ≤ capj ∧ Lj.length ≤ 2048 ∧ IsBytes Lj by
    have hc : ∀ k, wq.cell? ⟨gq, k, none⟩ = _ := fun k => Blk.cell (S := fun q => q = gq) ⟨hbq, fun _ => Iff.rfl⟩ k
    intro j hj
    rcases (by omega : j = 0 ∨ j = 1 ∨ j = 2 ∨ j = 3 ∨ j = 4) with rfl | rfl | rfl | rfl | rfl
    · exact ⟨p0, A0, L0, cap0, (hc 0).trans rfl, (hc 1).trans rfl, hxq.reads HA12.out, hle0, by omega, HAB.out⟩
    · exact ⟨rt, At, List.replicate nt 0, capt, (hc 2).trans rfl, (hc 3).trans (by simp), hxq.reads HT12.out, by simpa using htc, by simp; omega, zeros_bytes _⟩
    · exact ⟨P, some ⟨bu, ou, none⟩, List.replicate n 0, capu, (hc 4).trans rfl, (hc 5).trans (by simp), hxq.reads HU12.out, by simpa using huc, by simp; omega, zeros_bytes _⟩
    · exact ⟨P, some ⟨gr, 0, none⟩, (List.replicate n 0).set i by_, cap, (hc 6).trans rfl, (hc 7).trans (by simp), hxq.reads HV12.out, by simpa using hnc9, by simp; omega, set_bytes qby⟩
    · exact ⟨P, some ⟨bu, ou + 1, none⟩, List.replicate (n - 1) 0, capu - 1, (hc 8).trans rfl, (hc 9).trans (by simp), hxq.reads HW12.out, by simp; omega, by simp; omega, zeros_bytes _⟩)
  have XQ := Lib.hid (Ext.trans _ _ _ XW12.out hxq)
  have HUq := Lib.hid (hxq.reads HU12.out)
  have HVq := Lib.hid (hxq.reads HV12.out)
  have HWq := Lib.hid (hxq.reads HW12.out)
  have D14 := Lib.hid (show Box2 wq g14 (.int .i64 P) (.slice (some ⟨bu, ou, none⟩) n capu) from ⟨hxq.cell c0, hxq.cell c1⟩)
  have D16 := Lib.hid (show Box2 wq g16 (.int .i64 P) (.slice (some ⟨gr, 0, none⟩) n cap) from ⟨hxq.cell d0, hxq.cell d1'⟩)
  have D17 := Lib.hid (show Box2 wq g17 (.int .i64 P) (.slice (some ⟨bu, ou + 1, none⟩) (n - 1) (capu - 1)) from ⟨hxq.cell (by simpa using e0), hxq.cell (by simpa using e1)⟩)
  clear hxq hbq HA12 HT12 HU12 HV12 HW12 C14 C16 XW12
  go_wp2_with fail
  go_loopw [71] (fun v wv => ∃ j : Nat, j ≤ 5 ∧ v = .int .i64 j ∧ Ext w wv ∧ Ext wq wv) (fun v _ => 5 - (intOf v).toNat)
  case atStart => exact ⟨0, by omega, rfl, XQ.out, Ext.refl _⟩
  case round =>
    obtain ⟨j, hj, rfl, hxa, hxb⟩ := hrel
    have XW := Lib.hid hxa
    have XB := Lib.hid hxb
    by_cases hj2 : j < 5
    · obtain ⟨rj, Aj, Lj, capj, e0, e1, hrj, hcj, hlj, hbj⟩ := HEL.out j hj2
      replace e0 := hxb.cell e0
      replace e1 := hxb.cell e1
      have HRJ := Lib.hid (hxb.reads hrj)
      have HBJ := Lib.hid hbj
      have hj4 : (j : Int) < 5 := by omega
      clear hrj hbj hxa hxb XQ
      obtain ⟨ws, hws⟩ : ∃ ws, wr.alloc (.cells #[.int .i64 rj, .slice Aj Lj.length capj] 35) = ws := ⟨_, rfl⟩
      have XS2 := Lib.hid (show Ext wr ws by rw [← hws]; exact ext_new _ _)
      obtain ⟨gs, hgs⟩ : ∃ gs, wr.heap.size = gs := ⟨_, rfl⟩
      have YB := Lib.hid (show Box2 ws gs (.int .i64 rj) (.slice Aj Lj.length capj) by rw [← hws, ← hgs]; exact box2_new wr _ _ 35)
      obtain ⟨N, hN⟩ : ∃ N, chkH rj Lj = N := ⟨_, rfl⟩
      have HNN := Lib.hid hN
      clear hN
      go_wp2_with fail
      refine wp_region_next (by kernel_rfl) ?_
      refine next_win 0 6 Ext Ext 999 0 (fun _ _ h => h) Ext.refl Ext.trans Ext.refl Ext.trans [[(19, none)], [(75, some 0)], [(11, none)], [(19, none)], [(77, some 2), (78, some 3)], [(76, some 1), (79, some 4)]] [some 75, some 76, some 77, some 78, some 79, some 80] (by kernel_rfl) (by kernel_rfl) (by kernel_rfl) (by kernel_rfl) ?_
      intro Nx hNx
      -- 0: slot 75 := Op.load 35 (t19)
      apply relyD_const (by decide) (by decide); case h => (intro wr hR a' h19 K hK; obtain ⟨z0, z1⟩ := YB.out.ext hR.undrew; go_wp2_with fail; exact Ext.refl _)
      -- 1: slot 76 := Op.call { callee := Callee.value (Operand.func 20), args := #[t75], argTypes := #[35] }
      refine relyD_const (by decide) (by decide) (.int .i64 N) ?h1 ?_
      case h1 =>
        intro wt hR a' h75 K hK
        have HCK := check_h rj Lj Aj capj wt ((Ext.trans _ _ _ XS2.out hR.undrew).reads HRJ.out) hcj HBJ.out (by omega)
        rw [HNN.out] at HCK
        have HC1 := Lib.hid HCK
        clear HCK
        go_wp2_with fail
        refine HC1.out.mono ?_
        rintro e w20 ⟨rfl, hb⟩
        go_wp2_with fail
        exact hb
      -- 2: slot 77 := Op.move (t11)
      apply relyD_const (by decide) (by decide); case h => (intro wr hR a' h11 K hK; go_wp2_with fail; exact Ext.refl _)
      -- 3: slot 78 := Op.load 35 (t19)
      apply relyD_const (by decide) (by decide); case h => (intro wr hR a' h19 K hK; obtain ⟨z0, z1⟩ := YB.out.ext hR.undrew; go_wp2_with fail; exact Ext.refl _)
      -- 4: slot 79 := Op.call { callee := Callee.value (t77), args := #[t78], argTypes := #[35] }
      refine relyD_const (by decide) (by decide) (.int .i64 N) ?h4 ?_
      case h4 =>
        intro wt hR a' h77 h78 K hK
        have HCK := right_h rj Lj Aj capj wt ((Ext.trans _ _ _ XS2.out hR.undrew).reads HRJ.out) hcj HBJ.out (by omega)
        rw [HNN.out] at HCK
        have HC1 := Lib.hid HCK
        clear HCK
        go_wp2_with fail
        refine HC1.out.mono ?_
        rintro e w20 ⟨rfl, hb⟩
        go_wp2_with fail
        exact hb
      -- 5: slot 80 := Op.binOp BinOp.neq 28 (t76) (t79) 28
      apply relyD_const (by decide) (by decide); case h => (intro wr hR a' h76 h79 K hK; have hnn : (N != N) = false := (by simp); go_wp2_with fail; exact Ext.refl _)
      refine relyD_end ?_
      intro wt hR
      simp only [had, List.take_succ_cons, List.take_zero, List.map_cons, List.map_nil, List.cons_append, List.nil_append, ends, Act.put, List.setIfInBounds_toArray, List.set_cons_zero, List.set_cons_succ]
      refine hNx _ _ ?_
      refine next_done rfl ?_
      have XS3 := Lib.hid (Ext.trans _ _ _ XS2.out hR.undrew)
      clear hR hNx
      try simp only [Act.put, List.setIfInBounds_toArray, List.set_cons_zero, List.set_cons_succ]
      go_wp2_with fail
      go_roundw
      case rel => exact ⟨j + 1, by omega, by go_num, Ext.trans _ _ _ XW.out XS3.out, Ext.trans _ _ _ XB.out XS3.out⟩
      case measure => simp [intOf]; omega
    · obtain rfl : j = 5 := by omega
      have hlw : (List.replicate (n - 1) (0 : Int)).length = n - 1 := List.length_replicate
      have hlu : (List.replicate n (0 : Int)).length = n := List.length_replicate
      have hlv : ((List.replicate n (0 : Int)).set i by_).length = n := by rw [List.length_set, List.length_replicate]
      have hs1 := same_h P P (List.replicate n 0) (List.replicate n 0) (some ⟨bu, ou, none⟩) (some ⟨bu, ou, none⟩) capu capu wr (XB.out.reads HUq.out) (by omega) (XB.out.reads HUq.out) (by omega) (by omega) (by omega) (zeros_bytes n) (zeros_bytes n)
      rw [hlu, decide_eq_true ⟨rfl, rfl⟩] at hs1
      have HS1 := Lib.hid hs1
      have HS2 := Lib.hid (show ∀ w' : World, Ext wq w' → Calls Try.prog 21 #[.agg #[.int .i64 P, .slice (some ⟨bu, ou, none⟩) n capu], .agg #[.int .i64 P, .slice (some ⟨bu, ou + 1, none⟩) (n - 1) (capu - 1)]] w' fun e w'' => e = .returned (.bool false) ∧ Ext w' w'' from fun w' x => by
        have h := same_h P P (List.replicate n 0) (List.replicate (n - 1) 0) (some ⟨bu, ou, none⟩) (some ⟨bu, ou + 1, none⟩) capu (capu - 1) w' (x.reads HUq.out) (by omega) (x.reads HWq.out) (by omega) (by omega) (by omega) (zeros_bytes n) (zeros_bytes _)
        rw [hlu, hlw, decide_eq_false (fun q => by have := congrArg List.length q.2; omega)] at h
        exact h)
      have HS3A := Lib.hid (show ∀ (bv : Bool), bv = decide (List.replicate n (0 : Int) = (List.replicate n 0).set i by_) → ∀ w' : World, Ext wq w' → Calls Try.prog 21 #[.agg #[.int .i64 P, .slice (some ⟨bu, ou, none⟩) n capu], .agg #[.int .i64 P, .slice (some ⟨gr, 0, none⟩) n cap]] w' fun e w'' => e = .returned (.bool bv) ∧ Ext w' w'' from fun bv hbv w' x => by
        have h := same_h P P (List.replicate n 0) ((List.replicate n 0).set i by_) (some ⟨bu, ou, none⟩) (some ⟨gr, 0, none⟩) capu cap w' (x.reads HUq.out) (by omega) (x.reads HVq.out) (by omega) (by omega) (by omega) (zeros_bytes n) (set_bytes qby)
        rw [hlu, hlv] at h
        have e : decide ((P : Int) = (P : Int) ∧ List.replicate n (0 : Int) = (List.replicate n 0).set i by_) = bv := by rw [hbv]; simp
        rw [e] at h
        exact h)
      obtain ⟨u0, u1⟩ := D14.out.ext XB.out
      clear hs1 hxa hxb HEL hj hj2 XQ a0 a1 b0 b1 c0 c1 d0 d1' e0 e1 y0 y1 y2 y3 k17 f17 hwq hgq hw11 hg17 hw12 HUq HWq HVq hlw hlu hlv
      by_cases hb0 : by_ = 0
      · subst hb0
        have HS3 := Lib.hid (HS3A.out true (by
          symm; rw [decide_eq_true_iff]
          refine List.ext_getElem? fun k => ?_
          by_cases hk : k = i
          · subst hk; simp [List.getElem?_replicate, List.getElem?_set, hin]
          · rw [List.getElem?_set_ne (fun h => hk h.symm)]))
        clear HS3A
        by_cases m1 : 4 ≤ p
        case neg =>
          have f1 : decide (4 ≤ p) = false := by simpa using m1
          have hok : okP p = false := decide_eq_false (fun q => m1 q.1)
          go_wp2_with fail
          refine HS1.out.mono ?_
          rintro e w30 ⟨rfl, hx30⟩
          have XB30 := Lib.hid (Ext.trans _ _ _ XB.out hx30)
          have X30 := Lib.hid (Ext.trans _ _ _ XW.out hx30)
          obtain ⟨u0, u1⟩ := D14.out.ext XB30.out
          obtain ⟨v0, v1⟩ := D17.out.ext XB30.out
          have hs2 := HS2.out w30 XB30.out
          have HS2' := Lib.hid hs2
          clear HS1 hx30 hs2
          go_wp2_with fail
          refine HS2'.out.mono ?_
          rintro e w31 ⟨rfl, hx31⟩
          have XB31 := Lib.hid (Ext.trans _ _ _ XB30.out hx31)
          have X31 := Lib.hid (Ext.trans _ _ _ X30.out hx31)
          clear u0 u1 v0 v1
          obtain ⟨u0, u1⟩ := D14.out.ext XB31.out
          obtain ⟨v0, v1⟩ := D16.out.ext XB31.out
          have hs3 := HS3.out w31 XB31.out
          have HS3' := Lib.hid hs3
          clear HS2' hx31 hs3
          go_wp2_with fail
          refine HS3'.out.mono ?_
          rintro e w32 ⟨rfl, hx32⟩
          go_wp2_with fail
          go_ret
          exact ⟨rfl, Ext.trans _ _ _ X31.out hx32⟩
        have f1 : decide (4 ≤ p) = true := by simpa using m1
        by_cases m2 : p ≤ 8
        case neg =>
          have f2 : decide (p ≤ 8) = false := by simpa using m2
          have hok : okP p = false := decide_eq_false (fun q => m2 q.2)
          go_wp2_with fail
          refine HS1.out.mono ?_
          rintro e w30 ⟨rfl, hx30⟩
          have XB30 := Lib.hid (Ext.trans _ _ _ XB.out hx30)
          have X30 := Lib.hid (Ext.trans _ _ _ XW.out hx30)
          obtain ⟨u0, u1⟩ := D14.out.ext XB30.out
          obtain ⟨v0, v1⟩ := D17.out.ext XB30.out
          have hs2 := HS2.out w30 XB30.out
          have HS2' := Lib.hid hs2
          clear HS1 hx30 hs2
          go_wp2_with fail
          refine HS2'.out.mono ?_
          rintro e w31 ⟨rfl, hx31⟩
          have XB31 := Lib.hid (Ext.trans _ _ _ XB30.out hx31)
          have X31 := Lib.hid (Ext.trans _ _ _ X30.out hx31)
          clear u0 u1 v0 v1
          obtain ⟨u0, u1⟩ := D14.out.ext XB31.out
          obtain ⟨v0, v1⟩ := D16.out.ext XB31.out
          have hs3 := HS3.out w31 XB31.out
          have HS3' := Lib.hid hs3
          clear HS2' hx31 hs3
          go_wp2_with fail
          refine HS3'.out.mono ?_
          rintro e w32 ⟨rfl, hx32⟩
          go_wp2_with fail
          go_ret
          exact ⟨rfl, Ext.trans _ _ _ X31.out hx32⟩
        have f2 : decide (p ≤ 8) = true := by simpa using m2
        have hok : okP p = true := decide_eq_true ⟨m1, m2⟩
        go_wp2_with fail
        refine HS1.out.mono ?_
        rintro e w30 ⟨rfl, hx30⟩
        have XB30 := Lib.hid (Ext.trans _ _ _ XB.out hx30)
        have X30 := Lib.hid (Ext.trans _ _ _ XW.out hx30)
        obtain ⟨u0, u1⟩ := D14.out.ext XB30.out
        obtain ⟨v0, v1⟩ := D17.out.ext XB30.out
        have hs2 := HS2.out w30 XB30.out
        have HS2' := Lib.hid hs2
        clear HS1 hx30 hs2
        go_wp2_with fail
        refine HS2'.out.mono ?_
        rintro e w31 ⟨rfl, hx31⟩
        have XB31 := Lib.hid (Ext.trans _ _ _ XB30.out hx31)
        have X31 := Lib.hid (Ext.trans _ _ _ X30.out hx31)
        clear u0 u1 v0 v1
        obtain ⟨u0, u1⟩ := D14.out.ext XB31.out
        obtain ⟨v0, v1⟩ := D16.out.ext XB31.out
        have hs3 := HS3.out w31 XB31.out
        have HS3' := Lib.hid hs3
        clear HS2' hx31 hs3
        go_wp2_with fail
        refine HS3'.out.mono ?_
        rintro e w32 ⟨rfl, hx32⟩
        go_wp2_with fail
        go_ret
        exact ⟨rfl, Ext.trans _ _ _ X31.out hx32⟩
      · have HS3 := Lib.hid (HS3A.out false (by
          symm; rw [decide_eq_false_iff_not]
          intro e
          have := congrArg (fun l => l[i]?) e
          simp [List.getElem?_replicate, List.getElem?_set, hin] at this
          exact hb0 this.symm))
        have fb : decide (by_ = 0) = false := by simpa using hb0
        have fbb : (by_ == 0) = false := by simpa using hb0
        clear HS3A
        by_cases m1 : 4 ≤ p
        case neg =>
          have f1 : decide (4 ≤ p) = false := by simpa using m1
          have hok : okP p = false := decide_eq_false (fun q => m1 q.1)
          go_wp2_with fail
          refine HS1.out.mono ?_
          rintro e w30 ⟨rfl, hx30⟩
          have XB30 := Lib.hid (Ext.trans _ _ _ XB.out hx30)
          have X30 := Lib.hid (Ext.trans _ _ _ XW.out hx30)
          obtain ⟨u0, u1⟩ := D14.out.ext XB30.out
          obtain ⟨v0, v1⟩ := D17.out.ext XB30.out
          have hs2 := HS2.out w30 XB30.out
          have HS2' := Lib.hid hs2
          clear HS1 hx30 hs2
          go_wp2_with fail
          refine HS2'.out.mono ?_
          rintro e w31 ⟨rfl, hx31⟩
          have XB31 := Lib.hid (Ext.trans _ _ _ XB30.out hx31)
          have X31 := Lib.hid (Ext.trans _ _ _ X30.out hx31)
          clear u0 u1 v0 v1
          obtain ⟨u0, u1⟩ := D14.out.ext XB31.out
          obtain ⟨v0, v1⟩ := D16.out.ext XB31.out
          have hs3 := HS3.out w31 XB31.out
          have HS3' := Lib.hid hs3
          clear HS2' hx31 hs3
          go_wp2_with fail
          refine HS3'.out.mono ?_
          rintro e w32 ⟨rfl, hx32⟩
          go_wp2_with fail
          go_ret
          exact ⟨rfl, Ext.trans _ _ _ X31.out hx32⟩
        have f1 : decide (4 ≤ p) = true := by simpa using m1
        by_cases m2 : p ≤ 8
        case neg =>
          have f2 : decide (p ≤ 8) = false := by simpa using m2
          have hok : okP p = false := decide_eq_false (fun q => m2 q.2)
          go_wp2_with fail
          refine HS1.out.mono ?_
          rintro e w30 ⟨rfl, hx30⟩
          have XB30 := Lib.hid (Ext.trans _ _ _ XB.out hx30)
          have X30 := Lib.hid (Ext.trans _ _ _ XW.out hx30)
          obtain ⟨u0, u1⟩ := D14.out.ext XB30.out
          obtain ⟨v0, v1⟩ := D17.out.ext XB30.out
          have hs2 := HS2.out w30 XB30.out
          have HS2' := Lib.hid hs2
          clear HS1 hx30 hs2
          go_wp2_with fail
          refine HS2'.out.mono ?_
          rintro e w31 ⟨rfl, hx31⟩
          have XB31 := Lib.hid (Ext.trans _ _ _ XB30.out hx31)
          have X31 := Lib.hid (Ext.trans _ _ _ X30.out hx31)
          clear u0 u1 v0 v1
          obtain ⟨u0, u1⟩ := D14.out.ext XB31.out
          obtain ⟨v0, v1⟩ := D16.out.ext XB31.out
          have hs3 := HS3.out w31 XB31.out
          have HS3' := Lib.hid hs3
          clear HS2' hx31 hs3
          go_wp2_with fail
          refine HS3'.out.mono ?_
          rintro e w32 ⟨rfl, hx32⟩
          go_wp2_with fail
          go_ret
          exact ⟨rfl, Ext.trans _ _ _ X31.out hx32⟩
        have f2 : decide (p ≤ 8) = true := by simpa using m2
        have hok : okP p = true := decide_eq_true ⟨m1, m2⟩
        go_wp2_with fail
        refine HS1.out.mono ?_
        rintro e w30 ⟨rfl, hx30⟩
        have XB30 := Lib.hid (Ext.trans _ _ _ XB.out hx30)
        have X30 := Lib.hid (Ext.trans _ _ _ XW.out hx30)
        obtain ⟨u0, u1⟩ := D14.out.ext XB30.out
        obtain ⟨v0, v1⟩ := D17.out.ext XB30.out
        have hs2 := HS2.out w30 XB30.out
        have HS2' := Lib.hid hs2
        clear HS1 hx30 hs2
        go_wp2_with fail
        refine HS2'.out.mono ?_
        rintro e w31 ⟨rfl, hx31⟩
        have XB31 := Lib.hid (Ext.trans _ _ _ XB30.out hx31)
        have X31 := Lib.hid (Ext.trans _ _ _ X30.out hx31)
        clear u0 u1 v0 v1
        obtain ⟨u0, u1⟩ := D14.out.ext XB31.out
        obtain ⟨v0, v1⟩ := D16.out.ext XB31.out
        have hs3 := HS3.out w31 XB31.out
        have HS3' := Lib.hid hs3
        clear HS2' hx31 hs3
        go_wp2_with fail
        refine HS3'.out.mono ?_
        rintro e w32 ⟨rfl, hx32⟩
        go_wp2_with fail
        go_ret
        exact ⟨rfl, Ext.trans _ _ _ X31.out hx32⟩
end Go.Proofs.Ytolhhbnamldghaa.HllC
