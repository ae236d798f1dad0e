/- The law CmsSplits, walked. -/
import Derived.Test.YthemincohmgihaaCmsMost
namespace Go.Proofs.Ythemincohmgihaa.PCmsMerges
open Go Go.RowKit Go.Proofs.YthemincohmgihaaW.PrintWords Go.Proofs.Ythemincohmgihaa.Own Go.Proofs.Ythemincohmgihaa.Rely
attribute [local go_sem] min_ints

/-- A slice's value that is read. -/
def Rds (w : World) (v : Value) (L : List Int) : Prop := ∃ A c, v = .slice A L.length c ∧ L.length ≤ c ∧ Kd.C (Kd.int .u32) w A L.length L
theorem rds_of {e base : Nat} {ok : Nat → Prop} {w : World} {v : Value} {L : List Int} (h : Kd.R (Kd.int .u32) e w base ok v L) : Rds w v L := Kd.R_reads h
theorem add_c {R C : Nat} {L : List Int} (g : Good R C L) (h n : Int) (n0 : 0 ≤ n) (n1 : n ≤ 4294967295) (w : World) (A : Option Addr) (c : Nat) (hC : Kd.C (Kd.int .u32) w A L.length L) (hc : L.length ≤ c) :
    Calls Try.prog 36 #[.agg #[.int .i64 R, .int .i64 C, .slice A L.length c], .int .u64 h, .int .u32 n] w fun e w' =>
      ∃ A' c', e = .returned (.agg #[.int .i64 R, .int .i64 C, .slice A' (addAll C h n L).length c']) ∧ (addAll C h n L).length ≤ c' ∧ Kd.C (Kd.int .u32) w' A' (addAll C h n L).length (addAll C h n L) ∧ Below w.heap.size w w' := by
  refine (cms_Cms_Add.calls 10 R C A c L h n R C (addAll C h n L) w hC hc (add_f g h n n0 n1 10 (by omega))).mono ?_
  rintro e w' ⟨v, rfl, hR, hb⟩
  obtain ⟨A', c', rfl, hc', hC'⟩ := rds_of hR
  exact ⟨A', c', rfl, hc', hC', hb⟩
theorem cms_c {a b : Int} (a0 : 0 ≤ a) (b0 : 0 ≤ b) {l : List S54} (hl : Okay l) (hn : l.length ≤ 1000) (w : World) (A : Option Addr) (c : Nat) (hC : Kd.C k54 w A l.length l) (hc : l.length ≤ c) :
    Calls Try.prog 28 #[.int .u8 a, .int .u8 b, .slice A l.length c] w fun e w' =>
      ∃ A' c', e = .returned (.agg #[.int .i64 (rowsOf a), .int .i64 (colsOf b), .slice A' (sketch (rowsOf a) (colsOf b) l).length c']) ∧ (sketch (rowsOf a) (colsOf b) l).length ≤ c' ∧
        Kd.C (Kd.int .u32) w' A' (sketch (rowsOf a) (colsOf b) l).length (sketch (rowsOf a) (colsOf b) l) ∧ Below w.heap.size w w' := by
  refine (herbariumlaw15_Cms.calls (l.length + 12) a b A c l _ _ _ w hC hc (cms_f a0 b0 hl hn _ (by omega))).mono ?_
  rintro e w' ⟨v, rfl, hR, hb⟩
  obtain ⟨A', c', rfl, hc', hC'⟩ := rds_of hR
  exact ⟨A', c', rfl, hc', hC', hb⟩

theorem same_t {R C : Nat} {L : List Int} (g : L.length = R * C) (h : L.length ≤ 320) : cms_Same.f 400 R C L R C L = some true := by
  rw [same_f g g (by omega) 400 (by omega), decide_eq_true rfl]
theorem least_le (C : Nat) (h : Int) (M : List Int) (r : Nat) : least C h M r ≤ 4294967295 := by
  induction r with
  | zero => exact Int.le_refl _
  | succ r ih =>
    simp only [least]
    generalize least C h M r = x at ih
    generalize rd M _ = y
    unfold mn
    omega

theorem most_v {R C : Nat} {L : List Int} {m h : Int} (hm : m = least C h L R) (g : Good R C L) (w : World) (A : Option Addr) (c : Nat) (hC : Kd.C (Kd.int .u32) w A L.length L) (hc : L.length ≤ c) :
    Calls Try.prog 31 #[.agg #[.int .i64 R, .int .i64 C, .slice A L.length c], .int .u64 h] w fun e w' => e = .returned (.int .u32 m) ∧ Below w.heap.size w w' := by
  rw [hm]; exact most_c g h w A c hC hc

set_option maxHeartbeats 4000000 in
theorem splits_law (rows cols : Int) (A : Option Addr) (c : Nat) (l : List S54) (h a b : Int) (w : World) (r0 : 0 ≤ rows) (c0 : 0 ≤ cols) (a0 : 0 ≤ a) (a1 : a ≤ 4294967295) (b0 : 0 ≤ b) (b1 : b ≤ 4294967295) (hl : ArgS w A c l) :
    Calls Try.prog 14 #[.int .u8 rows, .int .u8 cols, .slice A l.length c, .int .u64 h, .int .u32 a, .int .u32 b] w fun e w' => e = .returned (.bool true) ∧ Below w.heap.size w w' := by
  have HS := Lib.hid hl
  clear hl
  go_enter Try.func14, Try.ntmps14
  go_wp2_with fail
  refine (herbariumlaw15_Awake.calls true w awake_f).mono ?_
  rintro e w1 ⟨rfl, hb1⟩
  have X1 := Lib.hid (show Ext w w1 from hb1.below)
  clear hb1
  by_cases hn : 30 < l.length
  · go_wp2_with fail
    go_ret
    exact ⟨rfl, X1.out⟩
  have hn' : l.length ≤ 30 := by omega
  go_wp2_with fail
  refine (cms_c r0 c0 HS.out.okay (by omega) w1 A c (C_ext HS.out.reads X1.out) HS.out.cap).mono ?_
  rintro e w2 ⟨A2, c2, rfl, hc2, hC2, hb2⟩
  have G := Lib.hid (good_sketch (rows_1 rows) (rows_8 rows) (cols_1 cols) (cols_256 cols) HS.out.okay)
  have hRC : rowsOf rows * colsOf cols ≤ 320 := by
    have := Nat.mul_le_mul (rows_8 rows) (cols_40 cols); simpa using this
  have HL : RowKit.Hid ((sketch (rowsOf rows) (colsOf cols) l).length ≤ 320) := Lib.hid (by rw [G.out.len]; exact hRC)
  clear hRC
  generalize sketch (rowsOf rows) (colsOf cols) l = L at hc2 hC2 G HL ⊢
  generalize rowsOf rows = R at hc2 hC2 G HL ⊢
  generalize colsOf cols = C at hc2 hC2 G HL ⊢
  have C2 := Lib.hid hC2
  have X2 := Lib.hid (Ext.trans _ _ _ X1.out hb2)
  clear hC2 hb2 X1
  go_wp2_with fail
  have B13 := Lib.hid (box3_new w2 (.int .i64 R) (.int .i64 C) (.slice A2 L.length c2) 49)
  have E3 := Lib.hid (ext_new w2 (.cells #[.int .i64 R, .int .i64 C, .slice A2 L.length c2] 49 (0, 0)))
  generalize w2.alloc (.cells #[.int .i64 R, .int .i64 C, .slice A2 L.length c2] 49 (0, 0)) = w3 at B13 E3 ⊢
  generalize w2.heap.size = g13 at B13 ⊢
  have C3 := Lib.hid (C_ext C2.out E3.out)
  have X3 := Lib.hid (Ext.trans _ _ _ X2.out E3.out)
  clear C2 X2 E3
  refine (add_c G.out h a a0 a1 w3 A2 c2 C3.out hc2).mono ?_
  rintro e w4 ⟨A4, c4, rfl, hc4, hC4, hb4⟩
  have C4 := Lib.hid hC4
  have X4 := Lib.hid (Ext.trans _ _ _ X3.out hb4)
  have C3' := Lib.hid (C_ext C3.out hb4)
  have B4 := Lib.hid (B13.out.ext hb4)
  clear hC4 hb4 C3 X3 B13
  go_wp2_with fail
  refine (add_c (good_add G.out h a a0) h b b0 b1 w4 A4 c4 C4.out hc4).mono ?_
  rintro e w5 ⟨A5, c5, rfl, hc5, hC5, hb5⟩
  have hab := add_add (C := C) h a b G.out.low a0 b0
  have hlen : (addAll C h (pls a b) L).length = L.length := addAll_length ..
  rw [hab] at hc5 hC5 ⊢
  have p0 := pls0 a0 b0
  have p1 := pls1 a b
  have GP := Lib.hid (good_add G.out h _ p0)
  have HAA := Lib.hid (least_add G.out h (pls a b) p0 R (Nat.le_refl _))
  generalize hLP : addAll C h (pls a b) L = LP at hc5 hC5 GP HAA hlen ⊢
  have HLP := Lib.hid hLP
  have C5 := Lib.hid hC5
  have X5 := Lib.hid (Ext.trans _ _ _ X4.out hb5)
  have D5 := Lib.hid (C_ext C3'.out hb5)
  have B5 := Lib.hid (B4.out.ext hb5)
  clear hC5 hb5 C3' X4 B4 C4 hab hLP hc4
  have HLEN := Lib.hid hlen
  clear hlen
  go_wp2_with fail
  have B14 := Lib.hid (box3_new w5 (.int .i64 R) (.int .i64 C) (.slice A5 LP.length c5) 49)
  have E6 := Lib.hid (ext_new w5 (.cells #[.int .i64 R, .int .i64 C, .slice A5 LP.length c5] 49 (0, 0)))
  generalize w5.alloc (.cells #[.int .i64 R, .int .i64 C, .slice A5 LP.length c5] 49 (0, 0)) = w6 at B14 E6 ⊢
  generalize w5.heap.size = g14 at B14 ⊢
  have B13 := Lib.hid (B5.out.ext E6.out)
  have CL := Lib.hid (C_ext D5.out E6.out)
  have CP := Lib.hid (C_ext C5.out E6.out)
  have X6 := Lib.hid (Ext.trans _ _ _ X5.out E6.out)
  clear B5 D5 C5 X5 E6
  have hm1 := HAA.out.1
  have hm2 := HAA.out.2 (pls a b) (Int.le_refl _) p1
  have hm3 := least_le C h LP R
  obtain ⟨mp, hmp⟩ : ∃ m, m = least C h LP R := ⟨_, rfl⟩
  obtain ⟨ml, hml⟩ : ∃ m, m = least C h L R := ⟨_, rfl⟩
  obtain ⟨q, hq⟩ : ∃ m, m = pls a b := ⟨_, rfl⟩
  rw [← hmp] at hm1 hm2 hm3
  rw [← hml] at hm1
  rw [← hq] at hm2 p0 p1
  have hqv : q = if a + b ≤ 4294967295 then a + b else 4294967295 := hq
  have HMP := Lib.hid hmp
  have HML := Lib.hid hml
  have HQ := Lib.hid hq
  have hmin : min (a + b) 4294967295 ≤ mp := by
    revert hqv; split <;> intro hqv <;> omega
  have hmp0 : 0 ≤ mp := by omega
  have hg1 : decide (mp ≥ ml) = true := by simp [hm1]
  clear hmp hml hq hqv HAA
  refine wp_region_rely (by kernel_rfl) Ext Ext.refl Ext.trans [[(14, none)], [(13, none)], [(3, none)], [(4, none)], [(5, none)], [(34, some 3), (35, some 4)], [(32, some 1), (33, some 2), (36, some 5)], [(31, some 0), (37, some 6)], [(38, some 7)], [(13, none)], [(3, none)], [(40, some 9), (41, some 10)], [(13, none)], [(42, some 11), (43, some 12)], [(39, some 8), (44, some 13)], [(45, some 14)], [(14, none)], [(3, none)], [(47, some 16), (48, some 17)], [(13, none)], [(3, none)], [(50, some 19), (51, some 20)], [(49, some 18), (52, some 21)], [(46, some 15), (53, some 22)], [(54, some 23)], [(14, none)], [(3, none)], [(56, some 25), (57, some 26)], [(58, some 27)], [(4, none)], [(60, some 29)], [(5, none)], [(62, some 31)], [(61, some 30), (63, some 32)], [(64, some 33)], [(59, some 28), (65, some 34)], [(55, some 24), (66, some 35)], [(67, some 36)]] [some 31, some 32, some 33, some 34, some 35, some 36, some 37, some 38, some 39, some 40, some 41, some 42, some 43, some 44, some 45, some 46, some 47, some 48, some 49, some 50, some 51, some 52, some 53, some 54, some 55, some 56, some 57, some 58, some 59, some 60, some 61, some 62, some 63, some 64, some 65, some 66, some 67, some 12] (by kernel_rfl) (by kernel_rfl) ?_
  -- 0: slot 31 := Op.load 49 t14
  apply rely_const; case h => (intro wr hR a' h14 K hK; obtain ⟨k0, k1, k2⟩ := B13.out.ext hR.undrew; obtain ⟨l0, l1, l2⟩ := B14.out.ext hR.undrew; go_wp2_with fail; exact Ext.refl _)
  -- 1: slot 32 := Op.load 49 t13
  apply rely_const; case h => (intro wr hR a' h13 K hK; obtain ⟨k0, k1, k2⟩ := B13.out.ext hR.undrew; obtain ⟨l0, l1, l2⟩ := B14.out.ext hR.undrew; go_wp2_with fail; exact Ext.refl _)
  -- 2: slot 33 := Op.move t3
  apply rely_const; case h => (intro wr hR a' h3 K hK; go_wp2_with fail; exact Ext.refl _)
  -- 3: slot 34 := Op.move t4
  apply rely_const; case h => (intro wr hR a' h4 K hK; go_wp2_with fail; exact Ext.refl _)
  -- 4: slot 35 := Op.move t5
  apply rely_const; case h => (intro wr hR a' h5 K hK; go_wp2_with fail; exact Ext.refl _)
  -- 5: slot 36 := Op.call { value (Operand.func 16), args := #[t34, t35], argTypes := #[22, 22] }
  apply rely_const
  case h =>
    intro wr hR a' h34 h35 K hK
    go_wp2_with fail
    refine (cms_Plus.calls a b q wr (by rw [HQ.out]; exact plus_f a0 a1 b0 b1)).mono ?_
    rintro e w2 ⟨rfl, hb⟩
    go_wp2_with fail
    exact hb.below
  -- 6: slot 37 := Op.call { value (Operand.func 36), args := #[t32, t33, t36], argTypes := #[49, 24, 22] }
  refine rely_rel (fun v wr => ∃ A' c', v = .agg #[.int .i64 R, .int .i64 C, .slice A' LP.length c'] ∧ LP.length ≤ c' ∧ Kd.C (Kd.int .u32) wr A' LP.length LP) (fun v w w' ⟨A', c', e, k, z⟩ x => ⟨A', c', e, k, C_ext z x⟩) ?_ ?_
  · intro wr hR a' h32 h33 h36 K hK
    have HK := Lib.hid hK
    clear hK
    go_wp2_with fail
    refine (add_c G.out h q p0 p1 wr A2 c2 (C_ext CL.out hR.undrew) hc2).mono ?_
    rintro e w2 ⟨A', c', rfl, hc', hC', hb⟩
    go_wp2_with fail
    exact HK.out _ _ hb ⟨A', c', by rw [HQ.out, HLP.out], by rw [HQ.out, HLP.out] at hc'; exact hc', by rw [HQ.out, HLP.out] at hC'; exact hC'⟩
  -- 7: slot 38 := Op.call { value (Operand.func 34), args := #[t31, t37], argTypes := #[49, 49] }
  apply rely_const
  case h =>
    rintro wr hR a' h31 v h37 ⟨A', c', rfl, hc', hC'⟩ K hK
    go_wp2_with fail
    refine (cms_Same.calls 400 R C A5 c5 LP R C A' c' LP true wr (C_ext CP.out hR.undrew) hc5 hC' hc' (same_t GP.out.len (by rw [HLEN.out]; exact HL.out))).mono ?_
    rintro e w2 ⟨rfl, hb⟩
    go_wp2_with fail
    exact hb
  -- 8: slot 39 := Op.move t38
  apply rely_const; case h => (intro wr hR a' h38 K hK; go_wp2_with fail; exact Ext.refl _)
  -- 9: slot 40 := Op.load 49 t13 GUARD 8 true
  apply rely_const_in _ rfl; case h => (intro wr hR a' h13 K hK; obtain ⟨k0, k1, k2⟩ := B13.out.ext hR.undrew; obtain ⟨l0, l1, l2⟩ := B14.out.ext hR.undrew; go_wp2_with fail; exact Ext.refl _)
  -- 10: slot 41 := Op.move t3 GUARD 8 true
  apply rely_const_in _ rfl; case h => (intro wr hR a' h3 K hK; go_wp2_with fail; exact Ext.refl _)
  -- 11: slot 42 := Op.call { value (Operand.func 36), args := #[t40, t41, const (0:u32)], argTypes := #[49, 24, 22] } GUARD 8 true
  refine rely_rel_in (fun v wr => ∃ A' c', v = .agg #[.int .i64 R, .int .i64 C, .slice A' L.length c'] ∧ L.length ≤ c' ∧ Kd.C (Kd.int .u32) wr A' L.length L) (fun v w w' ⟨A', c', e, k, z⟩ x => ⟨A', c', e, k, C_ext z x⟩) rfl ?_ ?_
  · intro wr hR a' h40 h41 K hK
    have HK := Lib.hid hK
    clear hK
    go_wp2_with fail
    refine (add_c G.out h 0 (by omega) (by omega) wr A2 c2 (C_ext CL.out hR.undrew) hc2).mono ?_
    rintro e w2 ⟨A', c', rfl, hc', hC', hb⟩
    go_wp2_with fail
    exact HK.out _ _ hb ⟨A', c', by rw [add_zero h G.out.high], by rw [add_zero h G.out.high] at hc'; exact hc', by rw [add_zero h G.out.high] at hC'; exact hC'⟩
  -- 12: slot 43 := Op.load 49 t13 GUARD 8 true
  apply rely_const_in _ rfl; case h => (intro wr hR a' h13 K hK; obtain ⟨k0, k1, k2⟩ := B13.out.ext hR.undrew; obtain ⟨l0, l1, l2⟩ := B14.out.ext hR.undrew; go_wp2_with fail; exact Ext.refl _)
  -- 13: slot 44 := Op.call { value (Operand.func 34), args := #[t42, t43], argTypes := #[49, 49] } GUARD 8 true
  apply rely_const_in _ rfl
  case h =>
    rintro wr hR a' v h42 ⟨A', c', rfl, hc', hC'⟩ h43 K hK
    go_wp2_with fail
    refine (cms_Same.calls 400 R C A' c' L R C A2 c2 L true wr hC' hc' (C_ext CL.out hR.undrew) hc2 (same_t G.out.len HL.out)).mono ?_
    rintro e w2 ⟨rfl, hb⟩
    go_wp2_with fail
    exact hb
  -- 14: slot 45 := Op.pick t39 t44 (const (Value.bool false))
  apply rely_const; case h => (intro wr hR a' h39 h44 K hK; go_wp2_with fail; exact Ext.refl _)
  -- 15: slot 46 := Op.move t45
  apply rely_const; case h => (intro wr hR a' h45 K hK; go_wp2_with fail; exact Ext.refl _)
  -- 16: slot 47 := Op.load 49 t14 GUARD 15 true
  apply rely_const_in _ rfl; case h => (intro wr hR a' h14 K hK; obtain ⟨k0, k1, k2⟩ := B13.out.ext hR.undrew; obtain ⟨l0, l1, l2⟩ := B14.out.ext hR.undrew; go_wp2_with fail; exact Ext.refl _)
  -- 17: slot 48 := Op.move t3 GUARD 15 true
  apply rely_const_in _ rfl; case h => (intro wr hR a' h3 K hK; go_wp2_with fail; exact Ext.refl _)
  -- 18: slot 49 := Op.call { value (Operand.func 31), args := #[t47, t48], argTypes := #[49, 24] } GUARD 15 true
  apply rely_const_in _ rfl
  case h =>
    intro wr hR a' h47 h48 K hK
    go_wp2_with fail
    refine (most_v HMP.out GP.out wr A5 c5 (C_ext CP.out hR.undrew) hc5).mono ?_
    rintro e w2 ⟨rfl, hb⟩
    go_wp2_with fail
    exact hb
  -- 19: slot 50 := Op.load 49 t13 GUARD 15 true
  apply rely_const_in _ rfl; case h => (intro wr hR a' h13 K hK; obtain ⟨k0, k1, k2⟩ := B13.out.ext hR.undrew; obtain ⟨l0, l1, l2⟩ := B14.out.ext hR.undrew; go_wp2_with fail; exact Ext.refl _)
  -- 20: slot 51 := Op.move t3 GUARD 15 true
  apply rely_const_in _ rfl; case h => (intro wr hR a' h3 K hK; go_wp2_with fail; exact Ext.refl _)
  -- 21: slot 52 := Op.call { value (Operand.func 31), args := #[t50, t51], argTypes := #[49, 24] } GUARD 15 true
  apply rely_const_in _ rfl
  case h =>
    intro wr hR a' h50 h51 K hK
    go_wp2_with fail
    refine (most_v HML.out G.out wr A2 c2 (C_ext CL.out hR.undrew) hc2).mono ?_
    rintro e w2 ⟨rfl, hb⟩
    go_wp2_with fail
    exact hb
  -- 22: slot 53 := Op.binOp BinOp.geq 22 t49 t52 22 GUARD 15 true
  apply rely_const_in _ rfl; case h => (intro wr hR a' h49 h52 K hK; go_wp2_with fail; exact Ext.refl _)
  -- 23: slot 54 := Op.pick t46 t53 (const (Value.bool false))
  apply rely_const; case h => (intro wr hR a' h46 h53 K hK; go_wp2_with fail; exact Ext.refl _)
  -- 24: slot 55 := Op.move t54
  apply rely_const; case h => (intro wr hR a' h54 K hK; go_wp2_with fail; exact Ext.refl _)
  -- 25: slot 56 := Op.load 49 t14 GUARD 24 true
  apply rely_const_in _ rfl; case h => (intro wr hR a' h14 K hK; obtain ⟨k0, k1, k2⟩ := B13.out.ext hR.undrew; obtain ⟨l0, l1, l2⟩ := B14.out.ext hR.undrew; go_wp2_with fail; exact Ext.refl _)
  -- 26: slot 57 := Op.move t3 GUARD 24 true
  apply rely_const_in _ rfl; case h => (intro wr hR a' h3 K hK; go_wp2_with fail; exact Ext.refl _)
  -- 27: slot 58 := Op.call { value (Operand.func 31), args := #[t56, t57], argTypes := #[49, 24] } GUARD 24 true
  apply rely_const_in _ rfl
  case h =>
    intro wr hR a' h56 h57 K hK
    go_wp2_with fail
    refine (most_v HMP.out GP.out wr A5 c5 (C_ext CP.out hR.undrew) hc5).mono ?_
    rintro e w2 ⟨rfl, hb⟩
    go_wp2_with fail
    exact hb
  -- 28: slot 59 := Op.convert 22 24 t58 GUARD 24 true
  apply rely_const_in _ rfl; case h => (intro wr hR a' h58 K hK; go_wp2_with fail; exact Ext.refl _)
  -- 29: slot 60 := Op.move t4 GUARD 24 true
  apply rely_const_in _ rfl; case h => (intro wr hR a' h4 K hK; go_wp2_with fail; exact Ext.refl _)
  -- 30: slot 61 := Op.convert 22 24 t60 GUARD 24 true
  apply rely_const_in _ rfl; case h => (intro wr hR a' h60 K hK; go_wp2_with fail; exact Ext.refl _)
  -- 31: slot 62 := Op.move t5 GUARD 24 true
  apply rely_const_in _ rfl; case h => (intro wr hR a' h5 K hK; go_wp2_with fail; exact Ext.refl _)
  -- 32: slot 63 := Op.convert 22 24 t62 GUARD 24 true
  apply rely_const_in _ rfl; case h => (intro wr hR a' h62 K hK; go_wp2_with fail; exact Ext.refl _)
  -- 33: slot 64 := Op.binOp BinOp.add 24 t61 t63 24 GUARD 24 true
  apply rely_const_in _ rfl; case h => (intro wr hR a' h61 h63 K hK; go_wp2_with fail; exact Ext.refl _)
  -- 34: slot 65 := Op.call { builtin min, args := #[t64, const (4294967295:u64)], argTypes := #[24, 24] } GUARD 24 true
  apply rely_const_in _ rfl; case h => (intro wr hR a' h64 K hK; go_wp2_with fail; exact Ext.refl _)
  -- 35: slot 66 := Op.binOp BinOp.geq 24 t59 t65 24 GUARD 24 true
  apply rely_const_in _ rfl; case h => (intro wr hR a' h59 h65 K hK; go_wp2_with fail; exact Ext.refl _)
  -- 36: slot 67 := Op.pick t55 t66 (const (Value.bool false))
  apply rely_const; case h => (intro wr hR a' h55 h66 K hK; go_wp2_with fail; exact Ext.refl _)
  -- 37: slot 12 := Op.assign t67
  apply rely_const; case h => (intro wr hR a' h67 K hK; go_wp2_with fail; exact Ext.refl _)
  refine rely_end ?_
  intro wr hR
  simp only [ends, Act.put, List.setIfInBounds_toArray, List.set_cons_zero, List.set_cons_succ]
  intro u1 hu1 u2 hu2
  go_wp2_with fail
  go_ret
  exact ⟨rfl, hR.undrew.after X6.out X6.out.size⟩

theorem splits_wf (r c : Int) (A : Option Addr) (cap : Nat) (l : List S54) (h a b : Int) (w : World) (hr : (Lit.int .u8 r).wf = true) (hc : (Lit.int .u8 c).wf = true) (hl : ArgS w A cap l)
    (_hh : (Lit.int .u64 h).wf = true) (ha : (Lit.int .u32 a).wf = true) (hb : (Lit.int .u32 b).wf = true) :
    Calls Try.prog 14 #[.int .u8 r, .int .u8 c, .slice A l.length cap, .int .u64 h, .int .u32 a, .int .u32 b] w fun e w' => e = .returned (.bool true) ∧ Below w.heap.size w w' :=
  splits_law r c A cap l h a b w (u8_of hr).1 (u8_of hc).1 (u32_of ha).1 (u32_of ha).2 (u32_of hb).1 (u32_of hb).2 hl
end Go.Proofs.Ythemincohmgihaa.PCmsMerges
