/- P21.1: entries as bytes, and back: at every input, without conditions. -/
import Derived.Test.YtfpeeilenocaoaaIndexAny
import Derived.Test.YtfpeeilenocaoaaWireRow
import Derived.Test.YtfpeeilenocaoaaFrameBack
namespace Go.Proofs.Ytfpeeilenocaoaa.Idx
open Go.RowKit Go.Proofs.Ytfpeeilenocaoaa.Own Go.Proofs.Ytfpeeilenocaoaa.Rely Go.Proofs.Ytfpeeilenocaoaa.Crc Go.Proofs.Ytfpeeilenocaoaa.Frame
open Wire (enc)
attribute [local go_sem] max_ints min_ints

set_option maxHeartbeats 16000000 in
set_option maxRecDepth 20000 in
theorem back_wf (A : Option Addr) (c : Nat) (xs : List Itm) (at_ : Int) (w : World) (h1 : ArgT w A c xs) (h2 : (Lit.int .u16 at_).wf = true) :
    Calls Try.prog 9 #[.slice A xs.length c, .int .u16 at_] w fun e w' => e = .returned (.bool true) ∧ Below w.heap.size w w' := by
  have hat := wf_u16 h2
  obtain ⟨an, rfl⟩ : ∃ n : Nat, at_ = (n : Int) := ⟨at_.toNat, by omega⟩
  have HR := Lib.hid h1.reads
  have HOK := Lib.hid h1.okay
  clear h1 h2
  go_enter Try.func9, Try.ntmps9
  go_wp2_with fail
  refine (awake21 w).mono ?_
  rintro e w1 ⟨rfl, hx1⟩
  have X1 := Lib.hid hx1
  clear hx1
  by_cases hl : 80 < xs.length
  · have g1 : decide ((80 : Int) < (xs.length : Int)) = true := by simp; omega
    go_wp2_with fail
    go_ret
    exact ⟨rfl, X1.out⟩
  have g1 : decide ((80 : Int) < (xs.length : Int)) = false := by simp; omega
  have HMK := Lib.hid (make_c A c xs w1 (HR.out.ext X1.out) HOK.out (by omega) an (by omega))
  go_wp2_with fail
  refine HMK.out.mono ?_
  rintro e w2 ⟨v, L, rfl, hmk⟩
  have X2 := Lib.hid (Ext.trans _ _ _ X1.out hmk.ext)
  have HNM := Lib.hid hmk.nmb
  have hL := hmk.len
  obtain ⟨Av, cv, rfl, hcv1, hrd, _, hcv2⟩ := hmk.row.reads
  have HRE := Lib.hid hrd
  have HCK := Lib.hid (check_c Av cv L w2 hrd (by omega))
  obtain ⟨N, hN⟩ : ∃ N, checkX L = N := ⟨_, rfl⟩
  rw [hN] at HCK
  clear hmk hrd HMK X1 HR HOK
  go_wp2_with fail
  refine HCK.out.mono ?_
  rintro e w3 ⟨rfl, hx3⟩
  have X3 := Lib.hid (Ext.trans _ _ _ X2.out hx3)
  have HRE3 := Lib.hid (HRE.out.ext hx3)
  clear hx3 HCK HRE X2
  by_cases hN0 : N = 0
  · subst hN0
    have HC0 := Lib.hid hN
    clear hN
    have hP0 : partB L 0 = enc L.length := if_pos rfl
    have HBD := Lib.hid (check_bd HC0.out).2
    have HPL := Lib.hid (fun j => part_len HC0.out j)
    have HPB := Lib.hid (fun j => part_bytes HC0.out HNM.out j)
    have HU := Lib.hid (Wire.refUint_row L.length (show L.length < 18446744073709551616 by omega) w3)
    go_wp2_with fail
    refine HU.out.mono ?_
    rintro e w4 ⟨A4, c4, S4, rfl, hrow4, st4⟩
    rw [← hP0] at hrow4 ⊢
    have HROW4 := Lib.hid hrow4
    have ST4 := Lib.hid st4
    clear hrow4 st4 HU hP0
    go_wp2_with fail
    go_loopw [8, 47] (fun v8 v47 wq => ∃ (j : Nat) (S : Nat → Prop), j ≤ L.length ∧ v47 = .int .i64 j ∧ Row 5 .u8 v8 (partB L j) wq S ∧ Step (fun _ => False) S w3 wq) (fun _ v _ => L.length - (intOf v).toNat)
    case atStart => exact ⟨0, S4, by omega, rfl, HROW4.out, ST4.out⟩
    case round =>
      obtain ⟨j, S5, hj, rfl, hrow5, st5⟩ := hrel
      have hpp : 0 < (partB L j).length := by
        unfold partB
        split
        · exact Wire.enc_pos _
        · have := Wire.enc_pos L.length; simp only [List.length_append]; omega
      obtain ⟨g5, c5, e5, hSg5, _⟩ := hrow5.form hpp
      subst e5
      clear HROW4 ST4
      have XW := Lib.hid (Ext.trans _ _ _ X3.out (Wire.belowF st5))
      by_cases hj2 : j < L.length
      · have hj4 := nat_lt_of hj2
        have hbd := HBD.out _ (getD_mem hj2)
        have hnm := HNM.out _ (getD_mem hj2)
        have hps := part_step hj2
        have hpl := HPL.out (j + 1)
        obtain ⟨b, o, rfl, hbk, c0, c1, c2⟩ := HRE3.out.ext (Wire.belowF st5) j hj2
        obtain ⟨x, hx⟩ : ∃ x, L.getD j e0 = x := ⟨_, rfl⟩
        rw [hx] at c0 c1 c2 hbd hnm hps
        obtain ⟨nb, at9, sz⟩ := x
        have hszn : (strOfNums nb).size = nb.length := Crc.size_str nb
        simp only at c0 c1 c2 hnm hps
        have hbd2 : 1 ≤ nb.length ∧ nb.length ≤ 255 ∧ 0 ≤ at9 ∧ at9 ≤ 1048576 ∧ 1 ≤ sz ∧ sz ≤ 1048576 := hbd
        obtain ⟨pn, rfl⟩ : ∃ pn : Nat, at9 = (pn : Int) := ⟨at9.toNat, by omega⟩
        obtain ⟨sn, rfl⟩ : ∃ sn : Nat, sz = (sn : Int) := ⟨sz.toNat, by omega⟩
        simp only [Int.toNat_natCast] at hps
        have hx9 : Ext wr (wr.alloc (.cells #[.string (strOfNums nb), .int .i64 pn, .int .i64 sn] 55)) := (Below.refl _ _).alloc (Nat.le_refl _) _
        have hb9 := heap_alloc_new wr (.cells #[.string (strOfNums nb), .int .i64 pn, .int .i64 sn] 55)
        have y0 := Blk.cell (S := fun q => q = wr.heap.size) ⟨hb9, fun _ => Iff.rfl⟩ 0
        have y1 := Blk.cell (S := fun q => q = wr.heap.size) ⟨hb9, fun _ => Iff.rfl⟩ 1
        have y2 := Blk.cell (S := fun q => q = wr.heap.size) ⟨hb9, fun _ => Iff.rfl⟩ 2
        simp only [List.getElem?_toArray, List.getElem?_cons_zero, List.getElem?_cons_succ] at y0 y1 y2
        have hns : ¬ S5 wr.heap.size := fun h => absurd ((Lcl.row _ _ _ _).lt hrow5 h) (by omega)
        have H9 := Lib.hid (Ext.keep (Lcl.row _ _ _ _) hx9 hrow5)
        have ST9 := Lib.hid (st5.trans (show Step S5 S5 wr (wr.alloc (.cells #[.string (strOfNums nb), .int .i64 pn, .int .i64 sn] 55)) from ⟨Keep.of_below hx9, fun _ h => .inl h⟩))
        have HNB := Lib.hid (show IsBytes nb from hnm)
        have hg5 : g5 < wr.heap.size := (Lcl.row _ _ _ _).lt hrow5 ((hSg5 g5).2 rfl)
        have HSG5 := Lib.hid hSg5
        clear hrow5 st5 hb9 hx9 hbk hbd hnm hSg5
        by_cases j0 : j = 0
        · have d0 : decide ((j : Int) = 0) = true := by simp; omega
          have d0b : ((j : Int) == 0) = true := by simp; omega
          have hpq : partB L (j + 1) = partB L j ++ enc pn ++ [(nb.length : Int)] ++ nb ++ enc sn := by rw [hps, if_pos j0]
          have hlen0 := congrArg List.length hpq
          simp only [List.length_append, List.length_singleton] at hlen0
          have hbnd : (partB L j).length + (enc pn).length ≤ 300000 := by omega
          clear j0 hlen0 hps
          go_wp2_with fail
          refine (Wire.refUint_row pn (show pn < 18446744073709551616 by omega) _).mono ?_
          rintro e wa ⟨A6, c6, S6, rfl, hrow6, st6⟩
          have hxa := Wire.belowF st6
          have HA := Lib.hid (Ext.keep (Lcl.row _ _ _ _) hxa H9.out)
          have HR6 := Lib.hid (Frame.readsAny hrow6)
          have STA := Lib.hid (ST9.out.trans (show Step S5 S5 _ wa from ⟨Keep.of_below hxa, fun _ h => .inl h⟩))
          have ya0 := Ext.cell hxa y0
          have ya1 := Ext.cell hxa y1
          have ya2 := Ext.cell hxa y2
          clear hxa hrow6 st6 H9 ST9 y0 y1 y2
          go_wp2_with (at_builtin; refine append_row _ rfl _ _ 22 rfl 5 .u8 1 Try.underlying22 Crc.info_u8 (by decide) _ (partB L j) (enc pn) A6 (enc pn).length c6 rfl rfl rfl Lcl.emp (HA.out).sepEmp HR6.out (by omega) ?_; intro A7 c7 wb S7 h7 st7; have h7b := h7.left_of_emp; have H7 := Lib.hid h7b; have ST7 := Lib.hid st7; clear h7 st7 h7b)
          obtain ⟨P, hP⟩ : ∃ P, partB L j ++ enc pn = P := ⟨_, rfl⟩
          have hPl : (partB L j).length + (enc pn).length = P.length := by rw [← hP, List.length_append]
          have h7 := H7.out
          rw [hPl, hP] at h7
          rw [hPl]
          obtain ⟨g, cc, eg, hSg, _⟩ := h7.form (by omega)
          injection eg with eg1 _ eg3
          subst eg1 eg3
          have hpE : wr.heap.size ≠ g := by
            intro h
            rcases ST7.out.fresh g ((hSg g).2 rfl) with q | q
            · rw [← h] at q; exact hns q
            · have hb1 := World.block_lt_of_cell? _ _ ya0; simp only at hb1; omega
          have HROWb := Lib.hid (show Row 5 .u8 (.slice (some ⟨g, 0, none⟩) P.length c7) P wb (fun b => b = g) from ⟨h7.1, fun b => by simp [Value.ownBlock, eq_comm]⟩)
          have z0 := ST7.out.keep.cell ya0 hns
          have z2 := ST7.out.keep.cell ya2 hns
          have STB := Lib.hid (STA.out.trans ST7.out)
          clear h7 H7 ST7 STA HA HR6 ya0 ya1 ya2
          -- the row P at block g (cap c7) in the world wb; the entry's block pE; STB : Step from nothing
          have hln : P.length ≤ 300000 := by omega
          obtain ⟨F, hF⟩ : ∃ F : Option Obj → Prop, ∀ o, F o ↔ ∀ w'' : World, w''.heap[g]? = o → Row 5 .u8 (.slice (some ⟨g, 0, none⟩) (P.length + 1) c7) (P ++ [(nb.length : Int)]) w'' (fun b => b = g) := ⟨_, fun _ => Iff.rfl⟩
          have HF := Lib.hid hF
          clear hF
          refine wp_region_next (by kernel_rfl) ?_
          refine next_win 0 9 Ext (RB g F) 6 63 RB.ext Ext.refl Ext.trans (RB.refl _ _) (RB.trans _ _) [[(8, none)], [(10, none)], [(61, some 1)], [(62, some 2)], [(63, some 3)], [(64, some 4)], [(60, some 0), (65, some 5)], [(10, none)], [(67, some 7)]] [some 60, some 61, some 62, some 63, some 64, some 65, some 66, some 67, some 68] (by kernel_rfl) (by kernel_rfl) (by kernel_rfl) (by kernel_rfl) ?_
          intro Nx hNx
          apply relyD_const_e (by decide) (by decide); case h => (intro wr hR a' h8 K hK; go_wp2_with fail; exact Ext.refl _)
          apply relyD_const_e (by decide) (by decide); case h => (intro wr hR a' h10 K hK; go_wp2_with fail; exact Ext.refl _)
          apply relyD_const_e (by decide) (by decide); case h => (intro wr hR a' h61 K hK; have k9 := hR.undrew.cell z0; go_wp2_with fail; exact Ext.refl _)
          apply relyD_const_e (by decide) (by decide); case h => (intro wr hR a' h62 K hK; go_wp2_with fail; exact Ext.refl _)
          apply relyD_const_e (by decide) (by decide); case h => (intro wr hR a' h63 K hK; go_wp2_with fail; exact Ext.refl _)
          refine relyD_rel_e (by decide) (by decide) (fun v w => ∃ p, v = .slice (some ⟨p, 0, none⟩) 1 1 ∧ Reads w .u8 (some ⟨p, 0, none⟩) [(nb.length : Int)] ∧ g < p) (fun v w w' ⟨p, e, h, hp⟩ x => ⟨p, e, h.keep x.keep (fun a ha => by injection ha with ha; subst ha; show ¬ p = g; omega), hp⟩) ?h5 ?_
          case h5 =>
            intro wr hR a' h64 K hK
            have hgw : g < wr.heap.size := Nat.lt_of_lt_of_le ((Lcl.row _ _ _ _).lt HROWb.out rfl) hR.undrew.size
            have hrl := (Row.lit 5 .u8 [(nb.length : Int)] wr (by simp)).readsAt
            have HK := Lib.hid (hK _ _ ((Below.refl _ _).alloc (Nat.le_refl _) _) ⟨wr.heap.size, rfl, hrl, hgw⟩)
            clear hK hrl
            refine build_known wr rfl _ _ _ rfl (.int .u8 nb.length) (.slice (some ⟨wr.heap.size, 0, none⟩) 1 1) (wr.alloc (.cells #[.int .u8 nb.length] 5)) h64 ?_ ?_
            · exact (by simp [Instr.buildSlice, go_sem])
            · go_wp2_with fail
              exact HK.out
          refine relyD_the rfl (fun v w => (v = .slice (some ⟨g, 0, none⟩) (P.length + 1) c7 ∧ g < w.heap.size ∧ F w.heap[g]?) ∨ ∃ g' c', v = .slice (some ⟨g', 0, none⟩) (P.length + 1) c' ∧ g < g' ∧ wb.heap.size ≤ g' ∧ Row 5 .u8 (.slice (some ⟨g', 0, none⟩) (P.length + 1) c') (P ++ [(nb.length : Int)]) w (fun b => b = g')) (fun v w w' h x => by
            rcases h with ⟨h1, h2, h3⟩ | ⟨g', c', h1, h2, h2b, h3⟩
            · exact .inl ⟨h1, Nat.lt_of_lt_of_le h2 x.size, x.stays h2 h3⟩
            · exact .inr ⟨g', c', h1, h2, h2b, (Lcl.row _ _ _ _).stay h3 x.keep (fun y hy hz => by have hy' : y = g' := hy; have hz' : y = g := hz; omega)⟩) ?h6 ?_
          case h6 =>
            rintro wr hR a' h60 v h65 ⟨p, rfl, hrd, hp⟩ K hK
            have hrw := Ext.keep (Lcl.row _ _ _ _) hR.undrew HROWb.out
            have hgw : g < wr.heap.size := (Lcl.row _ _ _ _).lt hrw rfl
            obtain ⟨v', w', hrun, hcase⟩ := run_append_two (P := Try.prog) wr 22 22 5 .u8 1 Try.underlying22 Crc.info_u8 (by decide) g P.length c7 P [(nb.length : Int)] _ (some ⟨p, 0, none⟩) 1 hrw hrd (by simp) (by simp; omega)
            refine append_known wr rfl _ _ 22 rfl _ _ v' w' h60 h65 hrun ?_
            have HK := Lib.hid (hK v' w' (by
              rcases hcase with ⟨h1, h2, h3⟩ | ⟨h1, _⟩
              · subst h1
                exact ⟨h3.os, h3.tape, h3.output, h3.size, h3.block, fun _ => .inr ((HF.out _).2 (fun w'' he => row_by_block h2 he))⟩
              · exact RB.ext _ _ h1) (by
              rcases hcase with ⟨h1, h2, h3⟩ | ⟨h1, c', h2, h3⟩
              · subst h1
                exact .inl ⟨rfl, Nat.lt_of_lt_of_le hgw h3.size, (HF.out _).2 (fun w'' he => row_by_block h2 he)⟩
              · subst h2
                exact .inr ⟨_, c', rfl, hgw, hR.undrew.size, h3⟩))
            clear hK hcase hrun hrw hrd
            go_wp2_with fail
            exact HK.out
          apply relyD_const (by decide) (by decide); case h => (intro wr hR a' h10 K hK; go_wp2_with fail; exact Ext.refl _)
          apply relyD_const (by decide) (by decide); case h => (intro wr hR a' h67 K hK; have k9 := hR.undrew.cell z0 hpE; go_wp2_with fail; exact Ext.refl _)
          refine relyD_end ?_
          intro wy hR
          simp only [had, List.take_succ_cons, List.take_zero, List.map_cons, List.map_nil, List.cons_append, List.nil_append, ends, Act.put, List.setIfInBounds_toArray, List.set_cons_zero, List.set_cons_succ]
          rintro v65 - v66 h66
          refine hNx _ _ ?_
          have hRB := hR.undrew
          have hgw3 : w3.heap.size ≤ g := by
            rcases STB.out.fresh g ((hSg g).2 rfl) with q | q
            · exact absurd q id
            · exact q
          obtain ⟨g3, c3, rfl, hg3, hpE3, hrow3⟩ : ∃ g3 c3, v66 = .slice (some ⟨g3, 0, none⟩) (P.length + 1) c3 ∧ w3.heap.size ≤ g3 ∧ wr.heap.size ≠ g3 ∧ Row 5 .u8 (.slice (some ⟨g3, 0, none⟩) (P.length + 1) c3) (P ++ [(nb.length : Int)]) wy (fun b => b = g3) := by
            rcases h66 with ⟨h1, h2, h3⟩ | ⟨g', c', h1, h2, h2b, h3⟩
            · exact ⟨g, c7, h1, hgw3, hpE, (HF.out _).1 h3 wy rfl⟩
            · exact ⟨g', c', h1, by omega, by have := World.block_lt_of_cell? _ _ z0; simp only at this; omega, h3⟩
          have hkB : Keep (fun _ => False) w3 wy := STB.out.keep.trans hRB.keep (fun _ _ q => q) (fun x hx hz => by have hz' : x = g := hz; omega)
          have k0 := hRB.cell z0 hpE
          have k2 := hRB.cell z2 hpE
          have hln2 : (P ++ [(nb.length : Int)]).length = P.length + 1 := by rw [List.length_append]; rfl
          obtain ⟨A8, c8, w8, S8, hrun8, hrow8, hS8, hk8⟩ := run_append_str (P := Try.prog) wy 22 9 22 5 Try.underlying22 Try.underlying9 Crc.info_u8 _ (P ++ [(nb.length : Int)]) nb _ hrow3 HNB.out (by rw [hln2]; omega) (B := w3.heap.size) (fun b hb => by have hb' : b = g3 := hb; omega) hkB.size
          rw [hln2] at hrun8 hrow8
          have m0 := hk8.cell k0 (show ¬ wr.heap.size = g3 from hpE3)
          have m2 := hk8.cell k2 (show ¬ wr.heap.size = g3 from hpE3)
          have ST8 := Lib.hid (show Step (fun _ => False) S8 w3 w8 from ⟨hkB.trans hk8 (fun _ _ q => q) (fun x hx hz => by have hz' : x = g3 := hz; omega), fun q hq => .inr (hS8 q hq)⟩)
          have HROW8 := Lib.hid hrow8
          have HRUN8 := Lib.hid hrun8
          clear hRB hR hrow3 hkB hrun8 hrow8 hS8 hk8 k0 k2 z0 z2 h66 HROWb HF STB
          refine next_win 9 11 (fun a b => a = b) (OneW wy w8) 9 511 (fun _ _ h => .inl h) (fun _ => rfl) (fun _ _ _ h k => h.trans k) (OneW.refl _ _) (OneW.trans _ _) [[(66, none), (68, none)], [(69, some 9)]] [none, none, none, none, none, none, none, none, none, some 69, some 8] (by kernel_rfl) (by kernel_rfl) (by kernel_rfl) (by kernel_rfl) ?_
          intro Ny hNy
          refine relyD_the rfl (fun v w => v = .slice A8 (P.length + 1 + nb.length) c8 ∧ w = w8) (fun v w w' h r => ⟨h.1, r.end_ h.2⟩) ?h9 ?_
          case h9 =>
            rintro w' rfl a' h66 h68 K hK
            refine append_known2 wy rfl _ _ 22 9 rfl (.slice (some ⟨g3, 0, none⟩) (P.length + 1) c3) (.string (strOfNums nb)) (.slice A8 (P.length + 1 + nb.length) c8) w8 h66 h68 HRUN8.out ?_
            have HK := hK (.slice A8 (P.length + 1 + nb.length) c8) w8 (.inr ⟨rfl, rfl⟩) ⟨rfl, rfl⟩
            go_wp2_with fail
            exact HK
          apply relyD_const (by decide) (by decide); case h => (rintro w' hw' a' v h69 ⟨rfl, rfl⟩ K hK; go_wp2_with fail; rfl)
          refine relyD_end ?_
          intro wz hR
          simp only [had, List.take_succ_cons, List.take_zero, List.map_cons, List.map_nil, List.cons_append, List.nil_append, ends, Act.put, List.setIfInBounds_toArray, List.set_cons_zero, List.set_cons_succ]
          rintro v9 ⟨rfl, hwz⟩
          obtain rfl := hwz.symm
          refine hNy _ _ ?_
          clear hR HRUN8 hwz
          refine next_done rfl ?_
          try simp only [Act.put, List.setIfInBounds_toArray, List.set_cons_zero, List.set_cons_succ]
          have hcat : P ++ [(nb.length : Int)] ++ nb = (P ++ [(nb.length : Int)]) ++ nb := rfl
          obtain ⟨Q, hQ⟩ : ∃ Q, P ++ [(nb.length : Int)] ++ nb = Q := ⟨_, rfl⟩
          have hQl : P.length + 1 + nb.length = Q.length := by rw [← hQ, List.length_append, List.length_append]; rfl
          have hr8 := HROW8.out
          rw [hQl, hQ] at hr8
          rw [hQl]
          have hfin : partB L (j + 1) = Q ++ enc sn := by rw [hpq, ← hQ, ← hP]
          have hfl := HPL.out (j + 1)
          rw [hfin, List.length_append] at hfl
          have HFIN := Lib.hid hfin
          have H8 := Lib.hid hr8
          clear hr8 HROW8 hQ hQl hcat hfin hpq hP
          go_wp2_with fail
          refine (Wire.refUint_row sn (show sn < 18446744073709551616 by omega) _).mono ?_
          rintro e wd ⟨A10, c10, S10, rfl, hrow10, st10⟩
          have hxd := Wire.belowF st10
          have HD := Lib.hid (Ext.keep (Lcl.row _ _ _ _) hxd H8.out)
          have HRD := Lib.hid (Frame.readsAny hrow10)
          have STD := Lib.hid (ST8.out.trans (show Step S8 S8 _ wd from ⟨Keep.of_below hxd, fun _ h => .inl h⟩))
          clear hxd hrow10 st10 H8 ST8
          go_wp2_with (at_builtin; refine append_row _ rfl _ _ 22 rfl 5 .u8 1 Try.underlying22 Crc.info_u8 (by decide) _ Q (enc sn) A10 (enc sn).length c10 rfl rfl rfl Lcl.emp (HD.out).sepEmp HRD.out (by omega) ?_; intro A11 c11 we S11 h11 st11; have h11b := h11.left_of_emp; rw [← HFIN.out] at h11b; have H11 := Lib.hid h11b; have ST11 := Lib.hid st11; clear h11 st11 h11b)
          go_roundw
          case rel => exact ⟨j + 1, S11, by omega, by go_num, H11.out, STD.out.trans ST11.out⟩
          case measure => simp [intOf]; omega
        · have d0 : decide ((j : Int) = 0) = false := by simp; omega
          have d0b : ((j : Int) == 0) = false := by simp; omega
          have hpq : partB L (j + 1) = partB L j ++ [(nb.length : Int)] ++ nb ++ enc sn := by rw [hps, if_neg j0]
          clear j0 hps
          go_wp2_with fail
          obtain ⟨P, hP⟩ : ∃ P, partB L j = P := ⟨_, rfl⟩
          have h9 := H9.out
          rw [hP] at h9
          rw [hP]
          have hSg := HSG5.out
          have hfl0 := hpl
          rw [hpq, hP] at hfl0
          simp only [List.length_append, List.length_singleton] at hfl0
          obtain ⟨g, hgg⟩ : ∃ g, g5 = g := ⟨_, rfl⟩
          subst hgg
          have hpE : wr.heap.size ≠ g5 := by omega
          generalize wr.alloc (.cells #[.string (strOfNums nb), .int .i64 pn, .int .i64 sn] 55) = wb at h9 ST9 y0 y1 y2 ⊢
          have HROWb := Lib.hid (show Row 5 .u8 (.slice (some ⟨g5, 0, none⟩) P.length c5) P wb (fun b => b = g5) from ⟨h9.1, fun b => by simp [Value.ownBlock, eq_comm]⟩)
          have z0 := y0
          have z2 := y2
          have STB := ST9
          clear h9 H9 ST9 y0 y1 y2 hfl0
          have hPle : P.length ≤ 300000 := by rw [← hP]; exact HPL.out j
          -- the row P at block g5 (cap c5) in the world wb; the entry's block pE; STB : Step from nothing
          have hln : P.length ≤ 300000 := by omega
          obtain ⟨F, hF⟩ : ∃ F : Option Obj → Prop, ∀ o, F o ↔ ∀ w'' : World, w''.heap[g5]? = o → Row 5 .u8 (.slice (some ⟨g5, 0, none⟩) (P.length + 1) c5) (P ++ [(nb.length : Int)]) w'' (fun b => b = g5) := ⟨_, fun _ => Iff.rfl⟩
          have HF := Lib.hid hF
          clear hF
          refine wp_region_next (by kernel_rfl) ?_
          refine next_win 0 9 Ext (RB g5 F) 6 63 RB.ext Ext.refl Ext.trans (RB.refl _ _) (RB.trans _ _) [[(8, none)], [(10, none)], [(61, some 1)], [(62, some 2)], [(63, some 3)], [(64, some 4)], [(60, some 0), (65, some 5)], [(10, none)], [(67, some 7)]] [some 60, some 61, some 62, some 63, some 64, some 65, some 66, some 67, some 68] (by kernel_rfl) (by kernel_rfl) (by kernel_rfl) (by kernel_rfl) ?_
          intro Nx hNx
          apply relyD_const_e (by decide) (by decide); case h => (intro wr hR a' h8 K hK; go_wp2_with fail; exact Ext.refl _)
          apply relyD_const_e (by decide) (by decide); case h => (intro wr hR a' h10 K hK; go_wp2_with fail; exact Ext.refl _)
          apply relyD_const_e (by decide) (by decide); case h => (intro wr hR a' h61 K hK; have k9 := hR.undrew.cell z0; go_wp2_with fail; exact Ext.refl _)
          apply relyD_const_e (by decide) (by decide); case h => (intro wr hR a' h62 K hK; go_wp2_with fail; exact Ext.refl _)
          apply relyD_const_e (by decide) (by decide); case h => (intro wr hR a' h63 K hK; go_wp2_with fail; exact Ext.refl _)
          refine relyD_rel_e (by decide) (by decide) (fun v w => ∃ p, v = .slice (some ⟨p, 0, none⟩) 1 1 ∧ Reads w .u8 (some ⟨p, 0, none⟩) [(nb.length : Int)] ∧ g5 < p) (fun v w w' ⟨p, e, h, hp⟩ x => ⟨p, e, h.keep x.keep (fun a ha => by injection ha with ha; subst ha; show ¬ p = g5; omega), hp⟩) ?h5 ?_
          case h5 =>
            intro wr hR a' h64 K hK
            have hgw : g5 < wr.heap.size := Nat.lt_of_lt_of_le ((Lcl.row _ _ _ _).lt HROWb.out rfl) hR.undrew.size
            have hrl := (Row.lit 5 .u8 [(nb.length : Int)] wr (by simp)).readsAt
            have HK := Lib.hid (hK _ _ ((Below.refl _ _).alloc (Nat.le_refl _) _) ⟨wr.heap.size, rfl, hrl, hgw⟩)
            clear hK hrl
            refine build_known wr rfl _ _ _ rfl (.int .u8 nb.length) (.slice (some ⟨wr.heap.size, 0, none⟩) 1 1) (wr.alloc (.cells #[.int .u8 nb.length] 5)) h64 ?_ ?_
            · exact (by simp [Instr.buildSlice, go_sem])
            · go_wp2_with fail
              exact HK.out
          refine relyD_the rfl (fun v w => (v = .slice (some ⟨g5, 0, none⟩) (P.length + 1) c5 ∧ g5 < w.heap.size ∧ F w.heap[g5]?) ∨ ∃ g' c', v = .slice (some ⟨g', 0, none⟩) (P.length + 1) c' ∧ g5 < g' ∧ wb.heap.size ≤ g' ∧ Row 5 .u8 (.slice (some ⟨g', 0, none⟩) (P.length + 1) c') (P ++ [(nb.length : Int)]) w (fun b => b = g')) (fun v w w' h x => by
            rcases h with ⟨h1, h2, h3⟩ | ⟨g', c', h1, h2, h2b, h3⟩
            · exact .inl ⟨h1, Nat.lt_of_lt_of_le h2 x.size, x.stays h2 h3⟩
            · exact .inr ⟨g', c', h1, h2, h2b, (Lcl.row _ _ _ _).stay h3 x.keep (fun y hy hz => by have hy' : y = g' := hy; have hz' : y = g5 := hz; omega)⟩) ?h6 ?_
          case h6 =>
            rintro wr hR a' h60 v h65 ⟨p, rfl, hrd, hp⟩ K hK
            have hrw := Ext.keep (Lcl.row _ _ _ _) hR.undrew HROWb.out
            have hgw : g5 < wr.heap.size := (Lcl.row _ _ _ _).lt hrw rfl
            obtain ⟨v', w', hrun, hcase⟩ := run_append_two (P := Try.prog) wr 22 22 5 .u8 1 Try.underlying22 Crc.info_u8 (by decide) g5 P.length c5 P [(nb.length : Int)] _ (some ⟨p, 0, none⟩) 1 hrw hrd (by simp) (by simp; omega)
            refine append_known wr rfl _ _ 22 rfl _ _ v' w' h60 h65 hrun ?_
            have HK := Lib.hid (hK v' w' (by
              rcases hcase with ⟨h1, h2, h3⟩ | ⟨h1, _⟩
              · subst h1
                exact ⟨h3.os, h3.tape, h3.output, h3.size, h3.block, fun _ => .inr ((HF.out _).2 (fun w'' he => row_by_block h2 he))⟩
              · exact RB.ext _ _ h1) (by
              rcases hcase with ⟨h1, h2, h3⟩ | ⟨h1, c', h2, h3⟩
              · subst h1
                exact .inl ⟨rfl, Nat.lt_of_lt_of_le hgw h3.size, (HF.out _).2 (fun w'' he => row_by_block h2 he)⟩
              · subst h2
                exact .inr ⟨_, c', rfl, hgw, hR.undrew.size, h3⟩))
            clear hK hcase hrun hrw hrd
            go_wp2_with fail
            exact HK.out
          apply relyD_const (by decide) (by decide); case h => (intro wr hR a' h10 K hK; go_wp2_with fail; exact Ext.refl _)
          apply relyD_const (by decide) (by decide); case h => (intro wr hR a' h67 K hK; have k9 := hR.undrew.cell z0 hpE; go_wp2_with fail; exact Ext.refl _)
          refine relyD_end ?_
          intro wy hR
          simp only [had, List.take_succ_cons, List.take_zero, List.map_cons, List.map_nil, List.cons_append, List.nil_append, ends, Act.put, List.setIfInBounds_toArray, List.set_cons_zero, List.set_cons_succ]
          rintro v65 - v66 h66
          refine hNx _ _ ?_
          have hRB := hR.undrew
          have hgw3 : w3.heap.size ≤ g5 := by
            rcases STB.out.fresh g5 ((hSg g5).2 rfl) with q | q
            · exact absurd q id
            · exact q
          obtain ⟨g3, c3, rfl, hg3, hpE3, hrow3⟩ : ∃ g3 c3, v66 = .slice (some ⟨g3, 0, none⟩) (P.length + 1) c3 ∧ w3.heap.size ≤ g3 ∧ wr.heap.size ≠ g3 ∧ Row 5 .u8 (.slice (some ⟨g3, 0, none⟩) (P.length + 1) c3) (P ++ [(nb.length : Int)]) wy (fun b => b = g3) := by
            rcases h66 with ⟨h1, h2, h3⟩ | ⟨g', c', h1, h2, h2b, h3⟩
            · exact ⟨g5, c5, h1, hgw3, hpE, (HF.out _).1 h3 wy rfl⟩
            · exact ⟨g', c', h1, by omega, by have := World.block_lt_of_cell? _ _ z0; simp only at this; omega, h3⟩
          have hkB : Keep (fun _ => False) w3 wy := STB.out.keep.trans hRB.keep (fun _ _ q => q) (fun x hx hz => by have hz' : x = g5 := hz; omega)
          have k0 := hRB.cell z0 hpE
          have k2 := hRB.cell z2 hpE
          have hln2 : (P ++ [(nb.length : Int)]).length = P.length + 1 := by rw [List.length_append]; rfl
          obtain ⟨A8, c8, w8, S8, hrun8, hrow8, hS8, hk8⟩ := run_append_str (P := Try.prog) wy 22 9 22 5 Try.underlying22 Try.underlying9 Crc.info_u8 _ (P ++ [(nb.length : Int)]) nb _ hrow3 HNB.out (by rw [hln2]; omega) (B := w3.heap.size) (fun b hb => by have hb' : b = g3 := hb; omega) hkB.size
          rw [hln2] at hrun8 hrow8
          have m0 := hk8.cell k0 (show ¬ wr.heap.size = g3 from hpE3)
          have m2 := hk8.cell k2 (show ¬ wr.heap.size = g3 from hpE3)
          have ST8 := Lib.hid (show Step (fun _ => False) S8 w3 w8 from ⟨hkB.trans hk8 (fun _ _ q => q) (fun x hx hz => by have hz' : x = g3 := hz; omega), fun q hq => .inr (hS8 q hq)⟩)
          have HROW8 := Lib.hid hrow8
          have HRUN8 := Lib.hid hrun8
          clear hRB hR hrow3 hkB hrun8 hrow8 hS8 hk8 k0 k2 z0 z2 h66 HROWb HF STB
          refine next_win 9 11 (fun a b => a = b) (OneW wy w8) 9 511 (fun _ _ h => .inl h) (fun _ => rfl) (fun _ _ _ h k => h.trans k) (OneW.refl _ _) (OneW.trans _ _) [[(66, none), (68, none)], [(69, some 9)]] [none, none, none, none, none, none, none, none, none, some 69, some 8] (by kernel_rfl) (by kernel_rfl) (by kernel_rfl) (by kernel_rfl) ?_
          intro Ny hNy
          refine relyD_the rfl (fun v w => v = .slice A8 (P.length + 1 + nb.length) c8 ∧ w = w8) (fun v w w' h r => ⟨h.1, r.end_ h.2⟩) ?h9 ?_
          case h9 =>
            rintro w' rfl a' h66 h68 K hK
            refine append_known2 wy rfl _ _ 22 9 rfl (.slice (some ⟨g3, 0, none⟩) (P.length + 1) c3) (.string (strOfNums nb)) (.slice A8 (P.length + 1 + nb.length) c8) w8 h66 h68 HRUN8.out ?_
            have HK := hK (.slice A8 (P.length + 1 + nb.length) c8) w8 (.inr ⟨rfl, rfl⟩) ⟨rfl, rfl⟩
            go_wp2_with fail
            exact HK
          apply relyD_const (by decide) (by decide); case h => (rintro w' hw' a' v h69 ⟨rfl, rfl⟩ K hK; go_wp2_with fail; rfl)
          refine relyD_end ?_
          intro wz hR
          simp only [had, List.take_succ_cons, List.take_zero, List.map_cons, List.map_nil, List.cons_append, List.nil_append, ends, Act.put, List.setIfInBounds_toArray, List.set_cons_zero, List.set_cons_succ]
          rintro v9 ⟨rfl, hwz⟩
          obtain rfl := hwz.symm
          refine hNy _ _ ?_
          clear hR HRUN8 hwz
          refine next_done rfl ?_
          try simp only [Act.put, List.setIfInBounds_toArray, List.set_cons_zero, List.set_cons_succ]
          have hcat : P ++ [(nb.length : Int)] ++ nb = (P ++ [(nb.length : Int)]) ++ nb := rfl
          obtain ⟨Q, hQ⟩ : ∃ Q, P ++ [(nb.length : Int)] ++ nb = Q := ⟨_, rfl⟩
          have hQl : P.length + 1 + nb.length = Q.length := by rw [← hQ, List.length_append, List.length_append]; rfl
          have hr8 := HROW8.out
          rw [hQl, hQ] at hr8
          rw [hQl]
          have hfin : partB L (j + 1) = Q ++ enc sn := by rw [hpq, ← hQ, ← hP]
          have hfl := HPL.out (j + 1)
          rw [hfin, List.length_append] at hfl
          have HFIN := Lib.hid hfin
          have H8 := Lib.hid hr8
          clear hr8 HROW8 hQ hQl hcat hfin hpq hP
          go_wp2_with fail
          refine (Wire.refUint_row sn (show sn < 18446744073709551616 by omega) _).mono ?_
          rintro e wd ⟨A10, c10, S10, rfl, hrow10, st10⟩
          have hxd := Wire.belowF st10
          have HD := Lib.hid (Ext.keep (Lcl.row _ _ _ _) hxd H8.out)
          have HRD := Lib.hid (Frame.readsAny hrow10)
          have STD := Lib.hid (ST8.out.trans (show Step S8 S8 _ wd from ⟨Keep.of_below hxd, fun _ h => .inl h⟩))
          clear hxd hrow10 st10 H8 ST8
          go_wp2_with (at_builtin; refine append_row _ rfl _ _ 22 rfl 5 .u8 1 Try.underlying22 Crc.info_u8 (by decide) _ Q (enc sn) A10 (enc sn).length c10 rfl rfl rfl Lcl.emp (HD.out).sepEmp HRD.out (by omega) ?_; intro A11 c11 we S11 h11 st11; have h11b := h11.left_of_emp; rw [← HFIN.out] at h11b; have H11 := Lib.hid h11b; have ST11 := Lib.hid st11; clear h11 st11 h11b)
          go_roundw
          case rel => exact ⟨j + 1, S11, by omega, by go_num, H11.out, STD.out.trans ST11.out⟩
          case measure => simp [intOf]; omega
      · obtain rfl : j = L.length := by omega
        have dj : decide ((L.length : Int) < (L.length : Int)) = false := by simp
        have hbb := HPB.out L.length
        have hbl := HPL.out L.length
        have hrv := Frame.readsAny hrow5
        obtain ⟨V, hV⟩ : ∃ V, partB L L.length = V := ⟨_, rfl⟩
        have hI : idxB L = V := hV
        have HP0 := put_c Av cv L wr (HRE3.out.ext (Wire.belowF st5)) HC0.out HNM.out
        have htp := take_put HC0.out HNM.out
        rw [hI] at HP0 htp
        rw [hV] at hbb hbl hrv
        rw [hV]
        obtain ⟨FB, hFB⟩ : ∃ FB, sumd V = FB := ⟨_, rfl⟩
        have hfb := sumd_bytes hbb
        have hfbl := sumd_len V
        rw [hFB] at HP0 htp hfb hfbl
        have HP := Lib.hid HP0
        have HTP := Lib.hid htp
        have HFB := Lib.hid hfb
        have HVB := Lib.hid hbb
        have HFE := Lib.hid hFB
        have HRVw := Lib.hid hrv
        have hfl2 : FB.length ≤ 300004 := by omega
        have HREw := Lib.hid (HRE3.out.ext (Wire.belowF st5))
        clear HP0 htp hfb hbb hFB hrv hfbl hV hI hrow5 st5 hSg5 hpp
        go_wp2_with fail
        refine HP.out.mono ?_
        rintro e wp ⟨A12, c12, rfl, hrd12, hc121, hc122, hx12⟩
        have HRDp := Lib.hid hrd12
        have Xp := Lib.hid (Ext.trans _ _ _ XW.out hx12)
        have HRVp := Lib.hid (hx12.reads HRVw.out)
        have HREp := Lib.hid (HREw.out.ext hx12)
        clear hrd12 hx12 HP HRVw HREw
        go_wp2_with fail
        refine (take_c A12 c12 FB wp HRDp.out HFB.out (by omega) hc121 hc122).mono ?_
        rintro e wt ⟨hxt, ht⟩
        rw [HTP.out] at ht
        obtain ⟨A13, c13, rfl, hrdE, _, _⟩ := ht
        have HRE13 := Lib.hid hrdE
        have Xt := Lib.hid (Ext.trans _ _ _ Xp.out hxt)
        have HRD12 := Lib.hid (hxt.reads HRDp.out)
        have HRV := Lib.hid (hxt.reads HRVp.out)
        have HREt := Lib.hid (HREp.out.ext hxt)
        clear hrdE hxt HRDp HRVp HREp Xp XW
        go_wp2_with fail
        refine wp_region_rely (by kernel_rfl) Ext Ext.refl Ext.trans [[(12, none)], [(87, some 0)], [(88, some 1)], [(14, none)], [(90, some 3)], [(89, some 2), (91, some 4)], [(92, some 5)], [(11, none)], [(94, some 7)], [(8, none)], [(96, some 9)], [(95, some 8), (97, some 10)], [(93, some 6), (98, some 11)], [(99, some 12)], [(13, none)], [(101, some 14)], [(5, none)], [(103, some 16)], [(102, some 15), (104, some 17)], [(100, some 13), (105, some 18)]] [some 87, some 88, some 89, some 90, some 91, some 92, some 93, some 94, some 95, some 96, some 97, some 98, some 99, some 100, some 101, some 102, some 103, some 104, some 105, some 106] (by kernel_rfl) (by kernel_rfl) ?_
        apply rely_const; case h => (intro wr hR a h12 K hK; go_wp2_with fail; exact Ext.refl _)
        apply rely_const; case h => (intro wr hR a h87 K hK; go_wp2_with fail; exact Ext.refl _)
        apply rely_const; case h => (intro wr hR a h88 K hK; go_wp2_with fail; exact Ext.refl _)
        apply rely_const_in _ rfl; case h => (intro wr hR a h14 K hK; go_wp2_with fail; exact Ext.refl _)
        apply rely_const_in _ rfl; case h => (intro wr hR a h90 K hK; go_wp2_with fail; exact Ext.refl _)
        apply rely_const; case h => (intro wr hR a h89 h91 K hK; go_wp2_with fail; exact Ext.refl _)
        apply rely_const; case h => (intro wr hR a h92 K hK; go_wp2_with fail; exact Ext.refl _)
        apply rely_const_in _ rfl; case h => (intro wr hR a h11 K hK; go_wp2_with fail; exact Ext.refl _)
        apply rely_const_in _ rfl; case h => (intro wr hR a h94 K hK; have cv : (convert 22 9 (.slice A12 FB.length c12)).run Try.prog wr = .ok (.string (strOfNums FB)) wr := (hR.undrew.reads HRD12.out).string (P := Try.prog) Try.underlying22 Try.underlying5 Try.underlying9 c12; go_wp2_with fail; exact Ext.refl _)
        apply rely_const_in _ rfl; case h => (intro wr hR a h8 K hK; go_wp2_with fail; exact Ext.refl _)
        apply rely_const_in _ rfl
        case h =>
          intro wr hR a h96 K hK
          have hs := summed_calls wr (some ⟨g5, 0, none⟩) c5 V (hR.undrew.reads HRV.out) HVB.out (by omega)
          rw [str_app] at hs
          have HS := Lib.hid (show Calls Try.prog 19 #[.slice (some ⟨g5, 0, none⟩) V.length c5] wr fun e w' => e = .returned (.string (strOfNums FB)) ∧ Below wr.heap.size wr w' from by rw [← HFE.out]; exact hs)
          clear hs
          go_wp2_with fail
          refine (HS.out).mono ?_
          rintro e w2 ⟨rfl, hb⟩
          go_wp2_with fail
          exact hb
        apply rely_const_in _ rfl; case h => (intro wr hR a h95 h97 K hK; go_wp2_with fail; exact Ext.refl _)
        apply rely_const; case h => (intro wr hR a h93 h98 K hK; go_wp2_with fail; exact Ext.refl _)
        apply rely_const; case h => (intro wr hR a h99 K hK; go_wp2_with fail; exact Ext.refl _)
        apply rely_const_in _ rfl; case h => (intro wr hR a h13 K hK; go_wp2_with fail; exact Ext.refl _)
        apply rely_const_in _ rfl; case h => (intro wr hR a h101 K hK; go_wp2_with fail; exact Ext.refl _)
        apply rely_const_in _ rfl; case h => (intro wr hR a h5 K hK; go_wp2_with fail; exact Ext.refl _)
        apply rely_const_in _ rfl; case h => (intro wr hR a h103 K hK; go_wp2_with fail; exact Ext.refl _)
        apply rely_const_in _ rfl; case h => (intro wr hR a h102 h104 K hK; go_wp2_with fail; exact Ext.refl _)
        apply rely_const; case h => (intro wr hR a h100 h105 K hK; go_wp2_with fail; exact Ext.refl _)
        refine rely_end ?_
        intro wr hR
        simp only [ends, Act.put, List.setIfInBounds_toArray, List.set_cons_zero, List.set_cons_succ]
        go_wp2_with fail
        have hRt := hR.undrew
        have X20 := Lib.hid (Ext.trans _ _ _ Xt.out hRt)
        have HRE20 := Lib.hid (HREt.out.ext hRt)
        have HR1320 := Lib.hid (HRE13.out.ext hRt)
        clear hR hRt
        obtain ⟨w20, hw20⟩ : ∃ w20, wr = w20 := ⟨_, rfl⟩
        subst hw20
        go_loopw [109] (fun v wq => ∃ i : Nat, i ≤ L.length ∧ v = .int .i64 i ∧ ReadsE wq Av L ∧ ReadsE wq A13 L ∧ Ext w wq) (fun v _ => L.length - (intOf v).toNat)
        case atStart => exact ⟨0, by omega, rfl, HRE20.out, HR1320.out, X20.out⟩
        case round =>
          obtain ⟨i, hi, rfl, hra, hrb, hxq⟩ := hrel
          have HA := Lib.hid hra
          have HB := Lib.hid hrb
          have XQ := Lib.hid hxq
          clear hra hrb hxq
          by_cases hi2 : i < L.length
          · have di := nat_lt_of hi2
            have di2 : (i : Int) < (L.length : Int) := by omega
            obtain ⟨ba, oa, ea, _, ca0, ca1, ca2⟩ := HA.out i hi2
            obtain ⟨bb, ob, eb, _, cb0, cb1, cb2⟩ := HB.out i hi2
            cases ea
            cases eb
            obtain ⟨x, hx⟩ : ∃ x, L.getD i e0 = x := ⟨_, rfl⟩
            rw [hx] at ca0 ca1 ca2 cb0 cb1 cb2
            clear hx
            go_wp2_with fail
            go_quiet (fail)
            go_wp2_with fail
            go_roundw
            case rel => exact ⟨i + 1, by omega, by go_num, HA.out.ext (Wire.ext_drewN _ _), HB.out.ext (Wire.ext_drewN _ _), Ext.trans _ _ _ XQ.out (Wire.ext_drewN _ _)⟩
            case measure => simp [intOf]; omega
          · obtain rfl : i = L.length := by omega
            have di : decide ((L.length : Int) < (L.length : Int)) = false := by simp
            go_wp2_with fail
            go_ret
            exact ⟨rfl, XQ.out⟩
  · have hnb : ((N : Int) != 0) = true := by simp; omega
    have hnb2 : ¬ (N : Int) = 0 := by omega
    have HP := Lib.hid (put_bad Av cv L w3 HRE3.out (by omega) (by rw [hN]; exact hN0))
    rw [hN] at HP
    have HN := Lib.hid hN
    clear hN
    go_wp2_with fail
    refine HP.out.mono ?_
    rintro e w4 ⟨rfl, hx4⟩
    have hck := check_c Av cv L w4 (HRE3.out.ext hx4) (by omega)
    rw [HN.out] at hck
    have HCK2 := Lib.hid hck
    have X4 := Lib.hid (Ext.trans _ _ _ X3.out hx4)
    clear hx4 hck HP
    go_wp2_with fail
    refine HCK2.out.mono ?_
    rintro e w5 ⟨rfl, hx5⟩
    have X5 := Lib.hid (Ext.trans _ _ _ X4.out hx5)
    clear hx5
    go_wp2_with fail
    go_ret
    exact ⟨rfl, X5.out⟩
end Go.Proofs.Ytfpeeilenocaoaa.Idx
