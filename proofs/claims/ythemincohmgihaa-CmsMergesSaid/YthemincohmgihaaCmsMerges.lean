/- The law CmsMerges, at every input. -/
import Derived.Test.YthemincohmgihaaCmsMerge
namespace Go.Proofs.Ythemincohmgihaa.PCmsMerges
open Go Go.RowKit Go.Proofs.YthemincohmgihaaW.PrintWords Go.Proofs.Ythemincohmgihaa.Own Go.Proofs.Ythemincohmgihaa.Rely
attribute [local go_sem] min_ints

theorem two_new (w : World) (x y : Array Value) (t : TypeId) : Ext w ((w.alloc (.cells x t (0, 0))).alloc (.cells y t (0, 0))) ∧
    ((w.alloc (.cells x t (0, 0))).alloc (.cells y t (0, 0))).heap[w.heap.size]? = some (.cells x t (0, 0)) ∧
    ((w.alloc (.cells x t (0, 0))).alloc (.cells y t (0, 0))).heap[w.heap.size + 1]? = some (.cells y t (0, 0)) := by
  have s1 : (w.alloc (.cells x t (0, 0))).heap.size = w.heap.size + 1 := by simp
  refine ⟨Ext.trans _ _ _ (ext_new _ _) (ext_new _ _), ?_, ?_⟩
  · rw [Below.heap_alloc _ _ _ (by omega)]; exact heap_alloc_new w _
  · rw [← s1]; exact heap_alloc_new _ _
theorem kd_empty {α : Type} (d : Kd α) (e : TypeId) (W : World) (g : Nat) (hg : W.heap.size = g) : d.R e (W.alloc (.cells #[] e (0, 0))) W.heap.size (fun _ => True) (.slice (some ⟨g, 0, none⟩) 0 0) [] := by
  subst hg
  refine ⟨fun _ _ => trivial, [], ⟨by simp, .inr ⟨W.heap.size, 0, #[], rfl, Nat.le_refl _, heap_alloc_new W _, Nat.le_refl _, by decide, by simp, by simp⟩⟩, by simp, fun j p hj => by simp at hj⟩
theorem pls_upto {x y : Int} (hx : 0 ≤ x) (hy : 0 ≤ y) : pls (upto x) (upto y) = upto (x + y) := by
  unfold pls upto
  by_cases h1 : x ≤ 4294967295 <;> by_cases h2 : y ≤ 4294967295 <;> simp only [h1, h2, if_true, if_false] <;> split <;> (try split) <;> omega
theorem mrg_sketch {R C : Nat} {a b : List S54} (ha : Okay a) (hb : Okay b) : mrg (sketch R C a) (sketch R C b) = sketch R C (a ++ b) := by
  apply List.ext_getElem?
  intro i
  unfold mrg
  rw [List.getElem?_zipWith, sketch_get, sketch_get, sketch_get]
  by_cases h : i < R * C
  · rw [if_pos h, if_pos h, if_pos h, cnt_append]
    simp only [Option.some.injEq]
    exact pls_upto (cnt0 ha) (cnt0 hb)
  · rw [if_neg h, if_neg h, if_neg h]
theorem cnt_comm {C i : Nat} (a b : List S54) : cnt C i (a ++ b) = cnt C i (b ++ a) := by rw [cnt_append, cnt_append]; omega
theorem sketch_comm (R C : Nat) (a b : List S54) : sketch R C (b ++ a) = sketch R C (a ++ b) := by
  unfold sketch
  apply List.map_congr_left
  intro i _
  rw [cnt_comm]
theorem okay_app {a b : List S54} (ha : Okay a) (hb : Okay b) : Okay (a ++ b) := fun s hs => (List.mem_append.1 hs).elim (ha s) (hb s)

set_option maxHeartbeats 4000000 in
theorem merges_law (rows cols : Int) (A : Option Addr) (c : Nat) (a : List S54) (B : Option Addr) (d : Nat) (b : List S54) (w : World) (r0 : 0 ≤ rows) (c0 : 0 ≤ cols) (hla : ArgS w A c a) (hlb : ArgS w B d b) :
    Calls Try.prog 13 #[.int .u8 rows, .int .u8 cols, .slice A a.length c, .slice B b.length d] w fun e w' => e = .returned (.bool true) ∧ Below w.heap.size w w' := by
  have HA := Lib.hid hla
  have HB := Lib.hid hlb
  clear hla hlb
  go_enter Try.func13, Try.ntmps13
  go_wp2_with fail
  refine (herbariumlaw15_Awake.calls true w awake_f).mono ?_
  rintro e w1 ⟨rfl, hb1⟩
  have X1 := Lib.hid (show Ext w w1 from hb1.below)
  clear hb1
  by_cases hna : 30 < a.length
  · have g1 : decide ((30 : Int) < (a.length : Int)) = true := by simp <;> omega
    go_wp2_with fail
    go_ret
    exact ⟨rfl, X1.out⟩
  have g1 : decide ((30 : Int) < (a.length : Int)) = false := by simp <;> omega
  by_cases hnb : 30 < b.length
  · have g2 : decide ((30 : Int) < (b.length : Int)) = true := by simp <;> omega
    go_wp2_with fail
    go_ret
    exact ⟨rfl, X1.out⟩
  have g2 : decide ((30 : Int) < (b.length : Int)) = false := by simp <;> omega
  have ha' : a.length ≤ 30 := by omega
  have hb' : b.length ≤ 30 := by omega
  go_wp2_with fail
  refine (cms_c r0 c0 HA.out.okay (by omega) w1 A c (C_ext HA.out.reads X1.out) HA.out.cap).mono ?_
  rintro e w2 ⟨Ax, cx, rfl, hcx, hCx, hb2⟩
  have X2 := Lib.hid (Ext.trans _ _ _ X1.out hb2)
  have CX2 := Lib.hid hCx
  clear hCx hb2 X1
  go_wp2_with fail
  refine (cms_c r0 c0 HB.out.okay (by omega) w2 B d (C_ext HB.out.reads X2.out) HB.out.cap).mono ?_
  rintro e w3 ⟨Ay, cy, rfl, hcy, hCy, hb3⟩
  have X3 := Lib.hid (Ext.trans _ _ _ X2.out hb3)
  have CX3 := Lib.hid (C_ext CX2.out hb3)
  have CY3 := Lib.hid hCy
  have GX := Lib.hid (good_sketch (rows_1 rows) (rows_8 rows) (cols_1 cols) (cols_256 cols) HA.out.okay)
  have GY := Lib.hid (good_sketch (rows_1 rows) (rows_8 rows) (cols_1 cols) (cols_256 cols) HB.out.okay)
  have GT := Lib.hid (good_sketch (rows_1 rows) (rows_8 rows) (cols_1 cols) (cols_256 cols) (okay_app HA.out.okay HB.out.okay))
  have MXY := Lib.hid (mrg_sketch (R := rowsOf rows) (C := colsOf cols) HA.out.okay HB.out.okay)
  have MYX := Lib.hid ((mrg_sketch (R := rowsOf rows) (C := colsOf cols) HB.out.okay HA.out.okay).trans (sketch_comm _ _ _ _))
  have hRC : rowsOf rows * colsOf cols ≤ 320 := by
    have := Nat.mul_le_mul (rows_8 rows) (cols_40 cols); simpa using this
  have HT : RowKit.Hid ((sketch (rowsOf rows) (colsOf cols) (a ++ b)).length ≤ 320) := Lib.hid (by rw [GT.out.len]; exact hRC)
  have HCM := Lib.hid (fun w A c hC hc => cms_c (a := rows) (b := cols) r0 c0 (okay_app HA.out.okay HB.out.okay) (by rw [List.length_append]; omega) w A c hC hc)
  clear hRC hCy hb3 X2 CX2
  generalize hLX : sketch (rowsOf rows) (colsOf cols) a = LX at *
  generalize hLY : sketch (rowsOf rows) (colsOf cols) b = LY at *
  clear hLX hLY
  generalize hLT : sketch (rowsOf rows) (colsOf cols) (a ++ b) = LT at *
  clear hLT
  generalize rowsOf rows = R at *
  generalize colsOf cols = C at *
  obtain ⟨W0, hW0⟩ : ∃ W, W = (w3.alloc (.cells #[.int .i64 R, .int .i64 C, .slice Ax LX.length cx] 49 (0, 0))).alloc (.cells #[.int .i64 R, .int .i64 C, .slice Ay LY.length cy] 49 (0, 0)) := ⟨_, rfl⟩
  have y0 := two_new w3 #[.int .i64 R, .int .i64 C, .slice Ax LX.length cx] #[.int .i64 R, .int .i64 C, .slice Ay LY.length cy] 49
  rw [← hW0] at y0
  have HW0 := Lib.hid hW0
  have Y0 := Lib.hid y0
  have X0 := Lib.hid (Ext.trans _ _ _ X3.out y0.1)
  have HLIT := Lib.hid (kd_empty k54 54 W0 (w3.heap.size + 1 + 1) (by rw [hW0]; simp))
  have HRA := Lib.hid (C_ext (C_ext HA.out.reads X0.out) (ext_new W0 (.cells #[] 54 (0, 0))))
  have HRB := Lib.hid (C_ext HB.out.reads X0.out)
  have HBL : RowKit.Hid (Below W0.heap.size W0 (W0.alloc (.cells #[] 54 (0, 0)))) := ext_new W0 _
  have HSZ : RowKit.Hid (W0.heap.size ≤ (W0.alloc (.cells #[] 54 (0, 0))).heap.size) := Lib.hid (by simp)
  have HNA := Lib.hid ha'
  have HNB := Lib.hid hb'
  clear hW0 y0
  go_wp2_with (first | (at_builtin; rw [← HW0.out]; (refine Kd.R_append_rows k54 (w0 := W0) W0.heap.size rfl _ _ 46 54 (.agg #[(.int .u64 0), (.int .u32 0)]) 16 rfl Try.underlying46 info54 rfl (by decide) (by omega) (.slice (some ⟨w3.heap.size + 1 + 1, 0, none⟩) 0 0) [] a _ _ _ (fun _ => True) (fun _ => False) rfl rfl HLIT.out HRA.out (fun _ _ h => h) (fun _ h => h.elim) (fun _ _ => trivial) HBL.out HSZ.out (by have := HNA.out; simp; omega) ?_); intro v1 wa hr1 hba _ _; rw [List.nil_append] at hr1; obtain ⟨A1, c1, rfl, hc1, _⟩ := Kd.R_reads hr1; have HR1 := Lib.hid hr1; have HBA := Lib.hid hba; clear hr1 hba) | (at_builtin; refine Kd.R_append_rows k54 (w0 := W0) W0.heap.size rfl _ _ 46 54 (.agg #[(.int .u64 0), (.int .u32 0)]) 16 rfl Try.underlying46 info54 rfl (by decide) (by omega) _ a b _ _ _ (fun _ => True) (fun _ => False) rfl rfl HR1.out (C_ext HRB.out (show Ext W0 wa from HBA.out)) (fun _ _ h => h) (fun _ h => h.elim) (fun _ _ => trivial) HBA.out HBA.out.size (by have := HNA.out; have := HNB.out; omega) ?_; intro v2 wb hr2 hbb _ _; obtain ⟨A2, c2, rfl, hc2, hC2⟩ := Kd.R_reads hr2; have HC2 := Lib.hid hC2; have HBB := Lib.hid hbb; clear hr2 hbb hC2))
  have hle : (a ++ b).length ≤ c2 := hc2
  have hcm := HCM.out wb A2 c2 HC2.out hle
  rw [List.length_append] at hcm
  refine hcm.mono ?_
  clear hcm hle
  rintro e w5 ⟨At, ct, rfl, hct, hCt, hb5⟩
  have X5 := Lib.hid (Ext.trans _ _ _ X0.out (Ext.trans _ _ _ (show Ext W0 wb from HBB.out) hb5))
  have E5 := Lib.hid (Ext.trans _ _ _ (show Ext W0 wb from HBB.out) hb5)
  have CT5 := Lib.hid hCt
  clear hCt hb5
  go_wp2_with fail
  have B9 := Lib.hid (show Box3 w5 w3.heap.size (.int .i64 R) (.int .i64 C) (.slice Ax LX.length cx) from Box3.ext ⟨cell_of_row _ _ 0 _ _ _ Y0.out.2.1, cell_of_row _ _ 1 _ _ _ Y0.out.2.1, cell_of_row _ _ 2 _ _ _ Y0.out.2.1⟩ E5.out)
  have B10 := Lib.hid (show Box3 w5 (w3.heap.size + 1) (.int .i64 R) (.int .i64 C) (.slice Ay LY.length cy) from Box3.ext ⟨cell_of_row _ _ 0 _ _ _ Y0.out.2.2, cell_of_row _ _ 1 _ _ _ Y0.out.2.2, cell_of_row _ _ 2 _ _ _ Y0.out.2.2⟩ E5.out)
  have CX5 := Lib.hid (C_ext CX3.out (Ext.trans _ _ _ Y0.out.1 E5.out))
  have CY5 := Lib.hid (C_ext CY3.out (Ext.trans _ _ _ Y0.out.1 E5.out))
  have b11 := Lib.hid (box3_new w5 (.int .i64 R) (.int .i64 C) (.slice At LT.length ct) 49)
  have e6 := Lib.hid (ext_new w5 (.cells #[.int .i64 R, .int .i64 C, .slice At LT.length ct] 49 (0, 0)))
  generalize w5.alloc (.cells #[.int .i64 R, .int .i64 C, .slice At LT.length ct] 49 (0, 0)) = w6 at b11 e6 ⊢
  generalize w5.heap.size = g11 at b11 ⊢
  generalize w3.heap.size + 1 = g10 at B10 ⊢
  generalize w3.heap.size = g9 at B9 ⊢
  have C9 := Lib.hid (B9.out.ext e6.out)
  have C10 := Lib.hid (B10.out.ext e6.out)
  have CX := Lib.hid (C_ext CX5.out e6.out)
  have CY := Lib.hid (C_ext CY5.out e6.out)
  have CT := Lib.hid (C_ext CT5.out e6.out)
  have X6 := Lib.hid (Ext.trans _ _ _ X5.out e6.out)
  clear B9 B10 CX5 CY5 CT5 X5
  have B9 := C9
  have B10 := C10
  have B11 := b11
  clear C9 C10 b11
  refine wp_region_rely (by kernel_rfl) Ext Ext.refl Ext.trans [[(9, none)], [(10, none)], [(38, some 0), (39, some 1)], [(11, none)], [(40, some 2), (41, some 3)], [(42, some 4)], [(10, none)], [(9, none)], [(44, some 6), (45, some 7)], [(11, none)], [(46, some 8), (47, some 9)], [(43, some 5), (48, some 10)], [(49, some 11)]] [some 38, some 39, some 40, some 41, some 42, some 43, some 44, some 45, some 46, some 47, some 48, some 49, some 8] (by kernel_rfl) (by kernel_rfl) ?_
  -- 0: slot 38 := Op.load 49 t9
  apply rely_const; case h => (intro wr hR a' h9 K hK; obtain ⟨k0, k1, k2⟩ := B9.out.ext hR.undrew; obtain ⟨l0, l1, l2⟩ := B10.out.ext hR.undrew; obtain ⟨m0, m1, m2⟩ := B11.out.ext hR.undrew; go_wp2_with fail; exact Ext.refl _)
  -- 1: slot 39 := Op.load 49 t10
  apply rely_const; case h => (intro wr hR a' h10 K hK; obtain ⟨k0, k1, k2⟩ := B9.out.ext hR.undrew; obtain ⟨l0, l1, l2⟩ := B10.out.ext hR.undrew; obtain ⟨m0, m1, m2⟩ := B11.out.ext hR.undrew; go_wp2_with fail; exact Ext.refl _)
  -- 2: slot 40 := Op.call { value (Operand.func 35), args := #[t38, t39], argTypes := #[49, 49] }
  refine rely_rel (fun v wr => ∃ A' c', v = .agg #[.int .i64 R, .int .i64 C, .slice A' LT.length c'] ∧ LT.length ≤ c' ∧ Kd.C (Kd.int .u32) wr A' LT.length LT) (fun v w w' ⟨A', c', e, k, z⟩ x => ⟨A', c', e, k, C_ext z x⟩) ?_ ?_
  · intro wr hR a' h38 h39 K hK
    have HK := Lib.hid hK
    clear hK
    go_wp2_with fail
    refine (merge_c GX.out GY.out wr Ax cx Ay cy (C_ext CX.out hR.undrew) hcx (C_ext CY.out hR.undrew) hcy).mono ?_
    rintro e w2 ⟨A', c', rfl, hc', hC', hb⟩
    go_wp2_with fail
    exact HK.out _ _ hb ⟨A', c', by rw [MXY.out], by rw [MXY.out] at hc'; exact hc', by rw [MXY.out] at hC'; exact hC'⟩
  -- 3: slot 41 := Op.load 49 t11
  apply rely_const; case h => (intro wr hR a' h11 K hK; obtain ⟨k0, k1, k2⟩ := B9.out.ext hR.undrew; obtain ⟨l0, l1, l2⟩ := B10.out.ext hR.undrew; obtain ⟨m0, m1, m2⟩ := B11.out.ext hR.undrew; go_wp2_with fail; exact Ext.refl _)
  -- 4: slot 42 := Op.call { value (Operand.func 34), args := #[t40, t41], argTypes := #[49, 49] }
  apply rely_const
  case h =>
    rintro wr hR a' v h40 ⟨A', c', rfl, hc', hC'⟩ h41 K hK
    go_wp2_with fail
    refine (cms_Same.calls 400 R C A' c' LT R C At ct LT true wr hC' hc' (C_ext CT.out hR.undrew) hct (same_t GT.out.len HT.out)).mono ?_
    rintro e w2 ⟨rfl, hb⟩
    go_wp2_with fail
    exact hb
  -- 5: slot 43 := Op.move t42
  apply rely_const; case h => (intro wr hR a' h42 K hK; go_wp2_with fail; exact Ext.refl _)
  -- 6: slot 44 := Op.load 49 t10 GUARD 5 true
  apply rely_const_in _ rfl; case h => (intro wr hR a' h10 K hK; obtain ⟨k0, k1, k2⟩ := B9.out.ext hR.undrew; obtain ⟨l0, l1, l2⟩ := B10.out.ext hR.undrew; obtain ⟨m0, m1, m2⟩ := B11.out.ext hR.undrew; go_wp2_with fail; exact Ext.refl _)
  -- 7: slot 45 := Op.load 49 t9 GUARD 5 true
  apply rely_const_in _ rfl; case h => (intro wr hR a' h9 K hK; obtain ⟨k0, k1, k2⟩ := B9.out.ext hR.undrew; obtain ⟨l0, l1, l2⟩ := B10.out.ext hR.undrew; obtain ⟨m0, m1, m2⟩ := B11.out.ext hR.undrew; go_wp2_with fail; exact Ext.refl _)
  -- 8: slot 46 := Op.call { value (Operand.func 35), args := #[t44, t45], argTypes := #[49, 49] } GUARD 5 true
  refine rely_rel_in (fun v wr => ∃ A' c', v = .agg #[.int .i64 R, .int .i64 C, .slice A' LT.length c'] ∧ LT.length ≤ c' ∧ Kd.C (Kd.int .u32) wr A' LT.length LT) (fun v w w' ⟨A', c', e, k, z⟩ x => ⟨A', c', e, k, C_ext z x⟩) rfl ?_ ?_
  · intro wr hR a' h44 h45 K hK
    have HK := Lib.hid hK
    clear hK
    go_wp2_with fail
    refine (merge_c GY.out GX.out wr Ay cy Ax cx (C_ext CY.out hR.undrew) hcy (C_ext CX.out hR.undrew) hcx).mono ?_
    rintro e w2 ⟨A', c', rfl, hc', hC', hb⟩
    go_wp2_with fail
    exact HK.out _ _ hb ⟨A', c', by rw [MYX.out], by rw [MYX.out] at hc'; exact hc', by rw [MYX.out] at hC'; exact hC'⟩
  -- 9: slot 47 := Op.load 49 t11 GUARD 5 true
  apply rely_const_in _ rfl; case h => (intro wr hR a' h11 K hK; obtain ⟨k0, k1, k2⟩ := B9.out.ext hR.undrew; obtain ⟨l0, l1, l2⟩ := B10.out.ext hR.undrew; obtain ⟨m0, m1, m2⟩ := B11.out.ext hR.undrew; go_wp2_with fail; exact Ext.refl _)
  -- 10: slot 48 := Op.call { value (Operand.func 34), args := #[t46, t47], argTypes := #[49, 49] } GUARD 5 true
  apply rely_const_in _ rfl
  case h =>
    rintro wr hR a' v h46 ⟨A', c', rfl, hc', hC'⟩ h47 K hK
    go_wp2_with fail
    refine (cms_Same.calls 400 R C A' c' LT R C At ct LT true wr hC' hc' (C_ext CT.out hR.undrew) hct (same_t GT.out.len HT.out)).mono ?_
    rintro e w2 ⟨rfl, hb⟩
    go_wp2_with fail
    exact hb
  -- 11: slot 49 := Op.pick t43 t48 (const (Value.bool false))
  apply rely_const; case h => (intro wr hR a' h43 h48 K hK; go_wp2_with fail; exact Ext.refl _)
  -- 12: slot 8 := Op.assign t49
  apply rely_const; case h => (intro wr hR a' h49 K hK; go_wp2_with fail; exact Ext.refl _)
  refine rely_end ?_
  intro wr hR
  simp only [ends, Act.put, List.setIfInBounds_toArray, List.set_cons_zero, List.set_cons_succ]
  intro u1 hu1 u2 hu2
  go_wp2_with fail
  go_ret
  exact ⟨rfl, hR.undrew.after X6.out X6.out.size⟩

theorem merges_wf (r c : Int) (A : Option Addr) (cap : Nat) (l : List S54) (B : Option Addr) (cap' : Nat) (m : List S54) (w : World) (hr : (Lit.int .u8 r).wf = true) (hc : (Lit.int .u8 c).wf = true) (hl : ArgS w A cap l) (hm : ArgS w B cap' m) :
    Calls Try.prog 13 #[.int .u8 r, .int .u8 c, .slice A l.length cap, .slice B m.length cap'] w fun e w' => e = .returned (.bool true) ∧ Below w.heap.size w w' :=
  merges_law r c A cap l B cap' m w (u8_of hr).1 (u8_of hc).1 hl hm
end Go.Proofs.Ythemincohmgihaa.PCmsMerges
